/- The tables are the program's. Printed by gentok.py. -/
import Derived.Test.YtblelojdboefjaaGreatDoorQ12
import Derived.Test.YtblelojdboefjaaGreatDoorQ7
import Derived.Test.YtblelojdboefjaaGreatDoorQ13
set_option linter.all false
set_option maxRecDepth 100000
namespace Go.Proofs.YtblelojdboefjaaGreatDoor.R
open Go
theorem RYz:∀t e,tsl t=some e→Tryz.prog.underlying t=some (.slice e):=by
 intro t e h
 unfold tsl at h
 split at h
 all_goals first|(injection h with h;subst h;kernel_rfl)|(simp at h)
theorem RXz:∀t n,tsz t=some n→∃i,Tryz.prog.info? t=some i∧i.size=n:=by
 intro t e h
 unfold tsz at h
 split at h
 all_goals first|(injection h with h;subst h;exact SVz (by kernel_rfl))|(simp at h)
theorem Rez:∀t n,tby t=some n→∃i,Tryz.prog.info? t=some i∧i.bytes=n:=by
 intro t e h
 unfold tby at h
 split at h
 all_goals first|(injection h with h;subst h;exact Qqz (by kernel_rfl))|(simp at h)
theorem PVz:∀t,tag t=some true→∃fs,Tryz.prog.underlying t=some (.struct fs):=by
 intro t h
 unfold tag at h
 split at h
 all_goals first|(simp at h;done)|exact Luz (by kernel_rfl)
theorem PWz:∀t,tag t=some false→∃d,Tryz.prog.underlying t=some d∧I2z d=false:=by
 intro t h
 unfold tag at h
 split at h
 all_goals first|(simp at h;done)|exact Siz (by kernel_rfl)
theorem Rdz:∀t fs,tag t=some true→Tryz.prog.underlying t=some (.struct fs)→∀fl∈fs,∃i,Tryz.prog.info? fl.type=some i:=by
 intro t fs h
 unfold tag at h
 split at h
 all_goals first|(simp at h;done)|exact ULz (by kernel_rfl)
theorem RWz:∀t l,tzr t=some l→∃i v,Tryz.prog.info? t=some i∧i.zero=some v∧v.cells.toList=l.map PV.val∧(∀p∈l,p.scalar=true∨∃es,p= .s es []):=by
 intro t e h
 unfold tzr at h
 split at h
 all_goals first|(injection h with h;subst h;exact U5z (by kernel_rfl) (by kernel_rfl))|(simp at h)
theorem Rbz:∀t,tfs t=[]∨Laz Tryz.prog t=tfs t:=by
 intro t
 unfold tfs
 split
 all_goals first|(left;rfl)|(right;kernel_rfl)
theorem Rcz:∀t f d,tfo t f=some d→∃fs fl i,Tryz.prog.underlying t=some (.struct fs)∧fs[f]? =some fl∧fl.offset=d∧Tryz.prog.info? fl.type=some i∧i.size≠0:=by
 intro t f d h
 unfold tfo at h
 obtain⟨⟨a,n⟩,h1,h2⟩:=AAz h
 simp only at h2
 split at h2
 ·simp at h2
 ·rename_i hn
  injection h2 with h2;subst h2
  obtain⟨fs,fl,i,g1,g2,g3,g4,g5⟩:=Kqz (Rbz t) h1 hn
  exact⟨fs,fl,i,g1,g2,g3,g4,by rw[g5];exact hn⟩
theorem Raz:∀t f n,tfz t f=some n→∃fs fl i,Tryz.prog.underlying t=some (.struct fs)∧fs[f]? =some fl∧Tryz.prog.info? fl.type=some i∧i.size=n:=by
 intro t f d h
 unfold tfz at h
 obtain⟨⟨a,n⟩,h1,h2⟩:=AAz h
 simp only at h2
 split at h2
 ·simp at h2
 ·rename_i hn
  injection h2 with h2;subst h2
  obtain⟨fs,fl,i,g1,g2,g3,g4,g5⟩:=Kqz (Rbz t) h1 hn
  exact⟨fs,fl,i,g1,g2,g4,g5⟩
theorem RZz:∀t k,tik t=some k→Tryz.prog.underlying t=some (.int k):=by
 intro t e h
 unfold tik at h
 split at h
 all_goals first|(injection h with h;subst h;kernel_rfl)|(simp at h)
theorem PSz:∀t,tst t=true→Tryz.prog.underlying t=some .string:=by
 intro t h
 unfold tst at h
 split at h
 all_goals first|(simp at h;done)|kernel_rfl
theorem PUz:∀t,tbo t=true→Tryz.prog.underlying t=some .bool:=by
 intro t h
 unfold tbo at h
 split at h
 all_goals first|(simp at h;done)|kernel_rfl
theorem PTz:∀t,teq t=true→∃z,tzr t=some z∧EqOk Tryz.prog t z:=by
 intro t h
 unfold teq at h
 split at h
 all_goals first|exact⟨_,rfl,by kernel_rfl,by kernel_rfl,by kernel_rfl,by kernel_rfl⟩|(simp at h)
theorem tok0:TOk Tryz.prog {tys with so:=fun _=>none}:=⟨RYz,RXz,Rez,PVz,PWz,RWz,Rcz,Raz,Rdz,RZz,PSz,PUz,(fun g h e=>by simp at e),PTz⟩
theorem Wqz:∀g h,sos g=some h→DWz Tryz.prog g h:=by
 intro g h e
 unfold sos at e
 split at e
 ·injection e with e;subst e
  exact Ouz Tryz.lays190 (fn:=Tryz.f204) (by kernel_rfl) (by kernel_rfl) rfl
 ·injection e with e;subst e
  exact QOz Tryz.lays189 (fn:=Tryz.f197) (by kernel_rfl) (by kernel_rfl) rfl
 ·simp at e
theorem mixed:Tryz.prog.follows .mixedOrders=true:=by kernel_rfl
theorem tok:TOk Tryz.prog tys:=⟨RYz,RXz,Rez,PVz,PWz,RWz,Rcz,Raz,Rdz,RZz,PSz,PUz,Wqz,PTz⟩
set_option maxHeartbeats 8000000 in
theorem envok:I8z Tryz.prog env:=by
 intro f fn h
 simp only[env,fns]at h
 split at h
 all_goals first|(injection h with h;subst h;exact func_of (by kernel_rfl) (by kernel_rfl))|(simp at h)
theorem orcok:LCz Tryz.prog env:=by
 intro f g call h hc args bs r hr
 simp only[env,orcs]at h
 split at h
 ·injection h with h;subst h
  exact K6z (Sxz Tryz.func316 (by kernel_rfl) (by kernel_rfl) (by kernel_rfl) (by kernel_rfl)) hr
 ·injection h with h;subst h
  exact K6z (SWz Tryz.func330 (by kernel_rfl) (by kernel_rfl) (by kernel_rfl) (by kernel_rfl)) hr
 ·injection h with h;subst h
  exact Jwz tok mixed hc (fn:=Tryz.f200) (ty:=45) (bt:=4) (by kernel_rfl) (by kernel_rfl) (by kernel_rfl) (by kernel_rfl) (by kernel_rfl) (by rfl) (by rfl) (by rfl) (by rfl) (by rfl) (by decide) (by rfl) hr
 ·injection h with h;subst h
  exact Jwz tok mixed hc (fn:=Tryz.f201) (ty:=82) (bt:=4) (by kernel_rfl) (by kernel_rfl) (by kernel_rfl) (by kernel_rfl) (by kernel_rfl) (by rfl) (by rfl) (by rfl) (by rfl) (by rfl) (by decide) (by rfl) hr
 ·injection h with h;subst h
  exact Jwz tok mixed hc (fn:=Tryz.f202) (ty:=26) (bt:=4) (by kernel_rfl) (by kernel_rfl) (by kernel_rfl) (by kernel_rfl) (by kernel_rfl) (by rfl) (by rfl) (by rfl) (by rfl) (by rfl) (by decide) (by rfl) hr
 ·simp at h
end Go.Proofs.YtblelojdboefjaaGreatDoor.R
