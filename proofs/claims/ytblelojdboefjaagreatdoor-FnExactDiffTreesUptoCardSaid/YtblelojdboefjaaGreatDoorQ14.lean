/- The tables are the program's. Printed by gentok.py. -/
import Derived.Test.YtblelojdboefjaaGreatDoorQ12
import Derived.Test.YtblelojdboefjaaGreatDoorQ7
import Derived.Test.YtblelojdboefjaaGreatDoorQ13
set_option linter.all false
set_option maxRecDepth 100000
namespace Go.Proofs.YtblelojdboefjaaGreatDoor.R
open Go
theorem Uhz:∀t e,tsl t=some e→Tryz.prog.underlying t=some (.slice e):=by
 intro t e h
 unfold tsl at h
 split at h
 all_goals first|(injection h with h;subst h;kernel_rfl)|(simp at h)
theorem Ufz:∀t n,tsz t=some n→∃i,Tryz.prog.info? t=some i∧i.size=n:=by
 intro t e h
 unfold tsz at h
 split at h
 all_goals first|(injection h with h;subst h;exact Qjz (by kernel_rfl))|(simp at h)
theorem Umz:∀t n,tby t=some n→∃i,Tryz.prog.info? t=some i∧i.bytes=n:=by
 intro t e h
 unfold tby at h
 split at h
 all_goals first|(injection h with h;subst h;exact PIz (by kernel_rfl))|(simp at h)
theorem TNz:∀t,tag t=some true→∃fs,Tryz.prog.underlying t=some (.struct fs):=by
 intro t h
 unfold tag at h
 split at h
 all_goals first|(simp at h;done)|exact Kuz (by kernel_rfl)
theorem TOz:∀t,tag t=some false→∃d,Tryz.prog.underlying t=some d∧IJz d=false:=by
 intro t h
 unfold tag at h
 split at h
 all_goals first|(simp at h;done)|exact Qvz (by kernel_rfl)
theorem Ulz:∀t fs,tag t=some true→Tryz.prog.underlying t=some (.struct fs)→∀fl∈fs,∃i,Tryz.prog.info? fl.type=some i:=by
 intro t fs h
 unfold tag at h
 split at h
 all_goals first|(simp at h;done)|exact SPz (by kernel_rfl)
theorem Uez:∀t l,tzr t=some l→∃i v,Tryz.prog.info? t=some i∧i.zero=some v∧v.cells.toList=l.map PV.val∧(∀p∈l,p.scalar=true∨∃es,p= .s es []):=by
 intro t e h
 unfold tzr at h
 split at h
 all_goals first|(injection h with h;subst h;exact S7z (by kernel_rfl) (by kernel_rfl))|(simp at h)
theorem Pwz:∀t,tfs t=[]∨Kgz Tryz.prog t=tfs t:=by
 intro t
 unfold tfs
 split
 all_goals first|(left;rfl)|(right;kernel_rfl)
theorem Ukz:∀t f d,tfo t f=some d→∃fs fl i,Tryz.prog.underlying t=some (.struct fs)∧fs[f]? =some fl∧fl.offset=d∧Tryz.prog.info? fl.type=some i∧i.size≠0:=by
 intro t f d h
 unfold tfo at h
 obtain⟨⟨a,n⟩,h1,h2⟩:=ABz h
 simp only at h2
 split at h2
 ·simp at h2
 ·rename_i hn
  injection h2 with h2;subst h2
  obtain⟨fs,fl,i,g1,g2,g3,g4,g5⟩:=Jzz (Pwz t) h1 hn
  exact⟨fs,fl,i,g1,g2,g3,g4,by rw[g5];exact hn⟩
theorem Ujz:∀t f n,tfz t f=some n→∃fs fl i,Tryz.prog.underlying t=some (.struct fs)∧fs[f]? =some fl∧Tryz.prog.info? fl.type=some i∧i.size=n:=by
 intro t f d h
 unfold tfz at h
 obtain⟨⟨a,n⟩,h1,h2⟩:=ABz h
 simp only at h2
 split at h2
 ·simp at h2
 ·rename_i hn
  injection h2 with h2;subst h2
  obtain⟨fs,fl,i,g1,g2,g3,g4,g5⟩:=Jzz (Pwz t) h1 hn
  exact⟨fs,fl,i,g1,g2,g4,g5⟩
theorem Uiz:∀t k,tik t=some k→Tryz.prog.underlying t=some (.int k):=by
 intro t e h
 unfold tik at h
 split at h
 all_goals first|(injection h with h;subst h;kernel_rfl)|(simp at h)
theorem TKz:∀t,tst t=true→Tryz.prog.underlying t=some .string:=by
 intro t h
 unfold tst at h
 split at h
 all_goals first|(simp at h;done)|kernel_rfl
theorem TMz:∀t,tbo t=true→Tryz.prog.underlying t=some .bool:=by
 intro t h
 unfold tbo at h
 split at h
 all_goals first|(simp at h;done)|kernel_rfl
theorem TLz:∀t,teq t=true→∃z,tzr t=some z∧EqOk Tryz.prog t z:=by
 intro t h
 unfold teq at h
 split at h
 all_goals first|exact⟨_,rfl,by kernel_rfl,by kernel_rfl,by kernel_rfl,by kernel_rfl⟩|(simp at h)
theorem Ugz:∀g h,sos g=some h→DIz Tryz.prog g h:=by
 intro g h e
 unfold sos at e
 split at e
 ·injection e with e;subst e
  exact Nbz Tryz.lays190 (fn:=Tryz.f204) (by kernel_rfl) (by kernel_rfl) rfl
 ·injection e with e;subst e
  exact Otz Tryz.lays189 (fn:=Tryz.f197) (by kernel_rfl) (by kernel_rfl) rfl
 ·simp at e
theorem mixed:Tryz.prog.follows .mixedOrders=true:=by kernel_rfl
theorem tok:TOk Tryz.prog tys:=⟨Uhz,Ufz,Umz,TNz,TOz,Uez,Ukz,Ujz,Ulz,Uiz,TKz,TMz,Ugz,TLz⟩
theorem envok:IPz Tryz.prog env:=by
 intro f fn h
 simp only[env,fns]at h
 split at h
 all_goals first|(injection h with h;subst h;exact func_of (by kernel_rfl) (by kernel_rfl))|(simp at h)
theorem orcok:KJz Tryz.prog env:=by
 intro f g call h hc args bs r hr
 simp only[env,orcs]at h
 split at h
 ·injection h with h;subst h
  exact KFz (Q9z Tryz.func316 (by kernel_rfl) (by kernel_rfl) (by kernel_rfl) (by kernel_rfl)) hr
 ·injection h with h;subst h
  exact KFz (Qkz Tryz.func330 (by kernel_rfl) (by kernel_rfl) (by kernel_rfl) (by kernel_rfl)) hr
 ·injection h with h;subst h
  exact I7z tok mixed hc (fn:=Tryz.f200) (ty:=45) (bt:=4) (by kernel_rfl) (by kernel_rfl) (by kernel_rfl) (by kernel_rfl) (by kernel_rfl) (by rfl) (by rfl) (by rfl) (by rfl) (by rfl) (by decide) (by rfl) hr
 ·injection h with h;subst h
  exact I7z tok mixed hc (fn:=Tryz.f201) (ty:=82) (bt:=4) (by kernel_rfl) (by kernel_rfl) (by kernel_rfl) (by kernel_rfl) (by kernel_rfl) (by rfl) (by rfl) (by rfl) (by rfl) (by rfl) (by decide) (by rfl) hr
 ·injection h with h;subst h
  exact I7z tok mixed hc (fn:=Tryz.f202) (ty:=26) (bt:=4) (by kernel_rfl) (by kernel_rfl) (by kernel_rfl) (by kernel_rfl) (by kernel_rfl) (by rfl) (by rfl) (by rfl) (by rfl) (by rfl) (by decide) (by rfl) hr
 ·simp at h
end Go.Proofs.YtblelojdboefjaaGreatDoor.R
