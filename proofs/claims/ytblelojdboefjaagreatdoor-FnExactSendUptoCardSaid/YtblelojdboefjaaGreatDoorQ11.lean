/- What is sent of a file system: both walks. -/
import Derived.Test.YtblelojdboefjaaGreatDoorQ10
import Derived.Test.YtblelojdboefjaaGreatDoorQ7
import Derived.Test.YtblelojdboefjaaGreatDoorQ9
set_option linter.all false
set_option maxRecDepth 100000
namespace Go.Proofs.YtblelojdboefjaaGreatDoor.R
open Go
section
variable (n:Nat)
set_option maxHeartbeats 8000000 in
theorem Tlz (hn:Big+70≤n) (x:TFs) (hx:x.ok) (a b:Int):pcall env n 20 [.c .agg (x.pv.map AMz),.c .one [.sh false (.i .i64 (a))],.c .one [.sh false (.i .i64 (b))]] []=some ⟨.c (.tup [(false,1),(false,1)]) (A0z (HPz x a b)),[]⟩:=by
 refine walk (fn:=Tryz.f20) (d:=69) hn rfl rfl rfl (Nat.le_of_ble_eq_true rfl) fun m hd=> ?_
 unfold Tryz.f20 HPz
 have c1:=Shz m (hd (by decide)) x hx
 cases hf:fsB x with
 |false=>
  rw[hf]at c1
  simp only[go_sem]at c1
  simp only[go_sem,seval,c1,A0z,List.map_nil]
 |true=>
 rw[hf]at c1
 simp only[go_sem]at c1
 simp only
 cases h0:(b==0)with
 |true=>
  rw[show∀p q r,BBz true p q r=([],2)from fun _ _ _=>rfl]
  simp only[go_sem,seval,c1,h0,A0z,List.map_nil]
 |false=>
 have c2:=OWz m (hd (by decide)) x hx a
 have c3:=OWz m (hd (by decide)) x hx b
 have good:∀(A B:TTab),A.ok→B.ok→pcall env m 68 [.c .agg ((CUz A B).pv.map AMz)] []=some ⟨.c .one [.ow false 1 ((putD (CUz A B)).map bpv)],[]⟩:=fun A B hA hB=>NAz m (hd (by decide)) (CUz A B) (OAz hA hB)
 have diff:=fun A B hA hB=>PGz m (hd (by decide)) A B hA hB
 have ca:(EIz x a=[.ow false 6 (Bpz.Inodes.map TInode.pv),.sh false (.i .i64 2)]∧Crz x a=(Bpz,4000,0)∧(a==0)=true)∨(a==0)=false:=by
  by_cases e:a=0
  ·exact .inl ⟨by unfold EIz;rw[if_pos e],by unfold Crz;rw[if_pos e],by simp[e]⟩
  ·exact .inr (by simpa using e)
 rcases ca with⟨ca,ta,a0⟩|a0
 ·have a0':(a !=0)=false:=by simp[bne,a0]
  rcases CDz x hx b h0 with⟨cb,tb,vb⟩|⟨jb,cb,tb,vb⟩|⟨jb,u,cb,tb,vb,hu⟩
  ·rw[ca,ta]at c2
   rw[cb,tb]at c3
   rw[ta,tb]
   rw[show∀r,BBz false 0 2 r=([],2)from fun _=>rfl]
   simp only[go_sem,seval]at c2 c3
   simp only[go_sem,seval,c1,c2,c3,h0,A0z,List.map_nil]
  ·rw[ca,ta]at c2
   rw[cb,tb]at c3
   rw[ta,tb]
   rw[show∀r,BBz false 0 3 r=([],3)from fun _=>rfl]
   simp only[go_sem,seval]at c2 c3
   simp only[go_sem,seval,c1,c2,c3,h0,A0z,List.map_nil]
  ·rw[ca,ta]at c2
   rw[cb,tb]at c3
   rw[ta,tb]
   have c4:=diff Bpz u.T GJz (hx.Vols.1 u hu).T
   have c5:=good Bpz u.T GJz (hx.Vols.1 u hu).T
   try simp only
   generalize CUz Bpz u.T=d at c4 c5 ⊢
   have tn:Bpz.Next=2:=rfl
   simp only[go_sem,seval,delO,tn]at c2 c3 c4 c5
   cases hL:putD d with
   |nil=>
    rw[hL]at c5
    simp only[go_sem,seval,c1,c2,c3,h0,c4,c5,A0z,BBz,List.map_nil,List.length_nil]
   |cons q l=>
    rw[hL]at c5
    have hz:(((l.length+1:Nat):Int)==0)=false:=by rw[beq_eq_false_iff_ne];omega
    simp only[go_sem,seval,c1,c2,c3,h0,c4,c5,hz,A0z,BBz]
 ·have a0':(a !=0)=true:=by simp[bne,a0]
  rcases CDz x hx a a0 with⟨ca,ta,va⟩|⟨ja,ca,ta,va⟩|⟨ja,v,ca,ta,va,hv⟩
  ·rcases CDz x hx b h0 with⟨cb,tb,vb⟩|⟨jb,cb,tb,vb⟩|⟨jb,u,cb,tb,vb,hu⟩
   ·rw[ca,ta]at c2
    rw[cb,tb]at c3
    rw[ta,tb]
    rw[show∀r,BBz false 2 2 r=([],2)from fun _=>rfl]
    simp only[go_sem,seval]at c2 c3
    simp only[go_sem,seval,c1,c2,c3,h0,A0z,List.map_nil]
   ·rw[ca,ta]at c2
    rw[cb,tb]at c3
    rw[ta,tb]
    rw[show∀r,BBz false 2 3 r=([],2)from fun _=>rfl]
    simp only[go_sem,seval]at c2 c3
    simp only[go_sem,seval,c1,c2,c3,h0,A0z,List.map_nil]
   ·rw[ca,ta]at c2
    rw[cb,tb]at c3
    rw[ta,tb]
    rw[show∀r,BBz false 2 0 r=([],2)from fun _=>rfl]
    simp only[go_sem,seval]at c2 c3
    simp only[go_sem,seval,c1,c2,c3,h0,A0z,List.map_nil]
  ·rcases CDz x hx b h0 with⟨cb,tb,vb⟩|⟨jb,cb,tb,vb⟩|⟨jb,u,cb,tb,vb,hu⟩
   ·rw[ca,ta]at c2
    rw[cb,tb]at c3
    rw[ta,tb]
    rw[show∀r,BBz false 3 2 r=([],2)from fun _=>rfl]
    simp only[go_sem,seval]at c2 c3
    simp only[go_sem,seval,c1,c2,c3,h0,A0z,List.map_nil]
   ·rw[ca,ta]at c2
    rw[cb,tb]at c3
    rw[ta,tb]
    rw[show∀r,BBz false 3 3 r=([],3)from fun _=>rfl]
    simp only[go_sem,seval]at c2 c3
    simp only[go_sem,seval,c1,c2,c3,h0,A0z,List.map_nil]
   ·rw[ca,ta]at c2
    rw[cb,tb]at c3
    rw[ta,tb]
    rw[show∀r,BBz false 3 0 r=([],3)from fun _=>rfl]
    simp only[go_sem,seval]at c2 c3
    simp only[go_sem,seval,c1,c2,c3,h0,A0z,List.map_nil]
  ·rcases CDz x hx b h0 with⟨cb,tb,vb⟩|⟨jb,cb,tb,vb⟩|⟨jb,u,cb,tb,vb,hu⟩
   ·rw[ca,ta]at c2
    rw[cb,tb]at c3
    rw[ta,tb]
    rw[show∀r,BBz false 0 2 r=([],2)from fun _=>rfl]
    simp only[go_sem,seval]at c2 c3
    simp only[go_sem,seval,c1,c2,c3,h0,A0z,List.map_nil]
   ·rw[ca,ta]at c2
    rw[cb,tb]at c3
    rw[ta,tb]
    rw[show∀r,BBz false 0 3 r=([],3)from fun _=>rfl]
    simp only[go_sem,seval]at c2 c3
    simp only[go_sem,seval,c1,c2,c3,h0,A0z,List.map_nil]
   ·rw[ca,ta]at c2
    rw[cb,tb]at c3
    rw[ta,tb]
    have c4:=diff v.T u.T (hx.Vols.1 v hv).T (hx.Vols.1 u hu).T
    have c5:=good v.T u.T (hx.Vols.1 v hv).T (hx.Vols.1 u hu).T
    try simp only
    generalize CUz v.T u.T=d at c4 c5 ⊢
    simp only[go_sem,seval,delO]at c2 c3 c4 c5
    cases hL:putD d with
    |nil=>
     rw[hL]at c5
     simp only[go_sem,seval,c1,c2,c3,h0,c4,c5,A0z,BBz,List.map_nil,List.length_nil]
    |cons q l=>
     rw[hL]at c5
     have hz:(((l.length+1:Nat):Int)==0)=false:=by rw[beq_eq_false_iff_ne];omega
     simp only[go_sem,seval,c1,c2,c3,h0,c4,c5,hz,A0z,BBz]
set_option maxHeartbeats 8000000 in
theorem Tkz (hn:Big+70≤n) (x:TFs) (hx:x.ok) (a b:Int):pcall env n 18 [.c .agg (x.pv.map AMz),.c .one [.sh false (.i .i64 (a))],.c .one [.sh false (.i .i64 (b))]] []=some ⟨.c (.tup [(false,1),(false,1)]) (A0z (HPz x a b)),[]⟩:=by
 refine walk (fn:=Tryz.f18) (d:=69) hn rfl rfl rfl (Nat.le_of_ble_eq_true rfl) fun m hd=> ?_
 unfold Tryz.f18 HPz
 have c1:=Sgz m (hd (by decide)) x hx
 cases hf:fsB x with
 |false=>
  rw[hf]at c1
  simp only[go_sem]at c1
  simp only[go_sem,seval,c1,A0z,List.map_nil]
 |true=>
 rw[hf]at c1
 simp only[go_sem]at c1
 simp only
 cases h0:(b==0)with
 |true=>
  rw[show∀p q r,BBz true p q r=([],2)from fun _ _ _=>rfl]
  obtain rfl:b=0:=by simpa using h0
  have v2:=FFz m (hd (by decide)) x hx 0
  rw[XVz hf]at v2
  have v1:=FFz m (hd (by decide)) x hx a
  simp only[go_sem]at v1 v2
  cases a0:(a==0)with
  |true=>
   have a0':(a !=0)=false:=by simp[bne,a0]
   simp only[go_sem,seval,c1,a0',v2,A0z,List.map_nil]
  |false=>
   have a0':(a !=0)=true:=by simp[bne,a0]
   rcases Urz (isId a) x.Vols with⟨e1,_⟩|⟨j,_,e1,_⟩
   ·rw[e1]at v1
    simp only[go_sem,seval,c1,a0',v1,A0z,List.map_nil]
   ·rw[e1]at v1
    have hj:((j:Int)<0)=False:=by simp
    simp only[go_sem,seval,c1,a0',v1,v2,hj,A0z,List.map_nil]
 |false=>
 have c2:=N0z m (hd (by decide)) x hx a
 have c3:=N0z m (hd (by decide)) x hx b
 have good:∀(A B:TTab),A.ok→B.ok→pcall env m 64 [.c .agg ((CUz A B).pv.map AMz)] []=some ⟨.c .one [.ow false 1 ((putD (CUz A B)).map bpv)],[]⟩:=fun A B hA hB=>M9z m (hd (by decide)) (CUz A B) (OAz hA hB)
 have diff:=fun A B hA hB=>PFz m (hd (by decide)) A B hA hB
 have v1:=FFz m (hd (by decide)) x hx a
 have v2:=FFz m (hd (by decide)) x hx b
 have ca:(EIz x a=[.ow false 6 (Bpz.Inodes.map TInode.pv),.sh false (.i .i64 2)]∧Crz x a=(Bpz,4000,0)∧(a==0)=true)∨(a==0)=false:=by
  by_cases e:a=0
  ·exact .inl ⟨by unfold EIz;rw[if_pos e],by unfold Crz;rw[if_pos e],by simp[e]⟩
  ·exact .inr (by simpa using e)
 rcases ca with⟨ca,ta,a0⟩|a0
 ·have a0':(a !=0)=false:=by simp[bne,a0]
  rcases CDz x hx b h0 with⟨cb,tb,vb⟩|⟨jb,cb,tb,vb⟩|⟨jb,u,cb,tb,vb,hu⟩
  ·rw[ca,ta]at c2
   rw[cb,tb]at c3
   rw[ta,tb]
   have hja:=trivial
   have hjb:=trivial
   rw[vb]at v2
   rw[show∀r,BBz false 0 2 r=([],2)from fun _=>rfl]
   simp only[go_sem,seval]at c2 c3 v1 v2
   simp only[go_sem,seval,c1,c2,c3,h0,v1,v2,a0',hja,hjb,A0z,List.map_nil]
  ·rw[ca,ta]at c2
   rw[cb,tb]at c3
   rw[ta,tb]
   have hja:=trivial
   have hjb:((jb:Nat):Int)<0↔False:=by simp
   rw[vb]at v2
   rw[show∀r,BBz false 0 3 r=([],3)from fun _=>rfl]
   simp only[go_sem,seval]at c2 c3 v1 v2
   simp only[go_sem,seval,c1,c2,c3,h0,v1,v2,a0',hja,hjb,A0z,List.map_nil]
  ·rw[ca,ta]at c2
   rw[cb,tb]at c3
   rw[ta,tb]
   have hja:=trivial
   have hjb:((jb:Nat):Int)<0↔False:=by simp
   rw[vb]at v2
   have c4:=diff Bpz u.T GJz (hx.Vols.1 u hu).T
   have c5:=good Bpz u.T GJz (hx.Vols.1 u hu).T
   try simp only
   generalize CUz Bpz u.T=d at c4 c5 ⊢
   have tn:Bpz.Next=2:=rfl
   simp only[go_sem,seval,Q6z,tn]at c2 c3 c4 c5 v1 v2
   cases hL:putD d with
   |nil=>
    rw[hL]at c5
    simp only[go_sem,seval,c1,c2,c3,h0,v1,v2,a0',hja,hjb,c4,c5,A0z,BBz,List.map_nil,List.length_nil]
   |cons q l=>
    rw[hL]at c5
    have hz:(((l.length+1:Nat):Int)==0)=false:=by rw[beq_eq_false_iff_ne];omega
    simp only[go_sem,seval,c1,c2,c3,h0,v1,v2,a0',hja,hjb,c4,c5,hz,A0z,BBz]
 ·have a0':(a !=0)=true:=by simp[bne,a0]
  rcases CDz x hx a a0 with⟨ca,ta,va⟩|⟨ja,ca,ta,va⟩|⟨ja,v,ca,ta,va,hv⟩
  ·rcases CDz x hx b h0 with⟨cb,tb,vb⟩|⟨jb,cb,tb,vb⟩|⟨jb,u,cb,tb,vb,hu⟩
   ·rw[ca,ta]at c2
    rw[cb,tb]at c3
    rw[ta,tb]
    have hja:=trivial
    have hjb:=trivial
    rw[va]at v1
    rw[vb]at v2
    rw[show∀r,BBz false 2 2 r=([],2)from fun _=>rfl]
    simp only[go_sem,seval]at c2 c3 v1 v2
    simp only[go_sem,seval,c1,c2,c3,h0,v1,v2,a0',hja,hjb,A0z,List.map_nil]
   ·rw[ca,ta]at c2
    rw[cb,tb]at c3
    rw[ta,tb]
    have hja:=trivial
    have hjb:((jb:Nat):Int)<0↔False:=by simp
    rw[va]at v1
    rw[vb]at v2
    rw[show∀r,BBz false 2 3 r=([],2)from fun _=>rfl]
    simp only[go_sem,seval]at c2 c3 v1 v2
    simp only[go_sem,seval,c1,c2,c3,h0,v1,v2,a0',hja,hjb,A0z,List.map_nil]
   ·rw[ca,ta]at c2
    rw[cb,tb]at c3
    rw[ta,tb]
    have hja:=trivial
    have hjb:((jb:Nat):Int)<0↔False:=by simp
    rw[va]at v1
    rw[vb]at v2
    rw[show∀r,BBz false 2 0 r=([],2)from fun _=>rfl]
    simp only[go_sem,seval]at c2 c3 v1 v2
    simp only[go_sem,seval,c1,c2,c3,h0,v1,v2,a0',hja,hjb,A0z,List.map_nil]
  ·rcases CDz x hx b h0 with⟨cb,tb,vb⟩|⟨jb,cb,tb,vb⟩|⟨jb,u,cb,tb,vb,hu⟩
   ·rw[ca,ta]at c2
    rw[cb,tb]at c3
    rw[ta,tb]
    have hja:((ja:Nat):Int)<0↔False:=by simp
    have hjb:=trivial
    rw[va]at v1
    rw[vb]at v2
    rw[show∀r,BBz false 3 2 r=([],2)from fun _=>rfl]
    simp only[go_sem,seval]at c2 c3 v1 v2
    simp only[go_sem,seval,c1,c2,c3,h0,v1,v2,a0',hja,hjb,A0z,List.map_nil]
   ·rw[ca,ta]at c2
    rw[cb,tb]at c3
    rw[ta,tb]
    have hja:((ja:Nat):Int)<0↔False:=by simp
    have hjb:((jb:Nat):Int)<0↔False:=by simp
    rw[va]at v1
    rw[vb]at v2
    rw[show∀r,BBz false 3 3 r=([],3)from fun _=>rfl]
    simp only[go_sem,seval]at c2 c3 v1 v2
    simp only[go_sem,seval,c1,c2,c3,h0,v1,v2,a0',hja,hjb,A0z,List.map_nil]
   ·rw[ca,ta]at c2
    rw[cb,tb]at c3
    rw[ta,tb]
    have hja:((ja:Nat):Int)<0↔False:=by simp
    have hjb:((jb:Nat):Int)<0↔False:=by simp
    rw[va]at v1
    rw[vb]at v2
    rw[show∀r,BBz false 3 0 r=([],3)from fun _=>rfl]
    simp only[go_sem,seval]at c2 c3 v1 v2
    simp only[go_sem,seval,c1,c2,c3,h0,v1,v2,a0',hja,hjb,A0z,List.map_nil]
  ·rcases CDz x hx b h0 with⟨cb,tb,vb⟩|⟨jb,cb,tb,vb⟩|⟨jb,u,cb,tb,vb,hu⟩
   ·rw[ca,ta]at c2
    rw[cb,tb]at c3
    rw[ta,tb]
    have hja:((ja:Nat):Int)<0↔False:=by simp
    have hjb:=trivial
    rw[va]at v1
    rw[vb]at v2
    rw[show∀r,BBz false 0 2 r=([],2)from fun _=>rfl]
    simp only[go_sem,seval]at c2 c3 v1 v2
    simp only[go_sem,seval,c1,c2,c3,h0,v1,v2,a0',hja,hjb,A0z,List.map_nil]
   ·rw[ca,ta]at c2
    rw[cb,tb]at c3
    rw[ta,tb]
    have hja:((ja:Nat):Int)<0↔False:=by simp
    have hjb:((jb:Nat):Int)<0↔False:=by simp
    rw[va]at v1
    rw[vb]at v2
    rw[show∀r,BBz false 0 3 r=([],3)from fun _=>rfl]
    simp only[go_sem,seval]at c2 c3 v1 v2
    simp only[go_sem,seval,c1,c2,c3,h0,v1,v2,a0',hja,hjb,A0z,List.map_nil]
   ·rw[ca,ta]at c2
    rw[cb,tb]at c3
    rw[ta,tb]
    have hja:((ja:Nat):Int)<0↔False:=by simp
    have hjb:((jb:Nat):Int)<0↔False:=by simp
    rw[va]at v1
    rw[vb]at v2
    have c4:=diff v.T u.T (hx.Vols.1 v hv).T (hx.Vols.1 u hu).T
    have c5:=good v.T u.T (hx.Vols.1 v hv).T (hx.Vols.1 u hu).T
    try simp only
    generalize CUz v.T u.T=d at c4 c5 ⊢
    simp only[go_sem,seval,Q6z]at c2 c3 c4 c5 v1 v2
    cases hL:putD d with
    |nil=>
     rw[hL]at c5
     simp only[go_sem,seval,c1,c2,c3,h0,v1,v2,a0',hja,hjb,c4,c5,A0z,BBz,List.map_nil,List.length_nil]
    |cons q l=>
     rw[hL]at c5
     have hz:(((l.length+1:Nat):Int)==0)=false:=by rw[beq_eq_false_iff_ne];omega
     simp only[go_sem,seval,c1,c2,c3,h0,v1,v2,a0',hja,hjb,c4,c5,hz,A0z,BBz]
end
end Go.Proofs.YtblelojdboefjaaGreatDoor.R
namespace Go.Proofs.YtblelojdboefjaaGreatDoor.R
open Go
def mB (_:UInt8) (k:Nat):UInt8×Nat:=(UInt8.ofNat k,k+1)
def mTxt (k:Nat):ByteArray:=⟨⟨[109]⟩⟩++dec k
theorem Gtz (n:Nat) (hn:Big+1≤n) (K:Nat) (hK:K≤9223372036854775800):pcall env n 129 [.c .one [.sh false (.i .i64 (K:Nat))]] []=some ⟨.c .one [.sh false (.t (mTxt K))],[]⟩:=by
 refine walk (fn:=Tryz.f129) (d:=0) hn rfl rfl rfl (Nat.le_of_ble_eq_true rfl) fun m hd=> ?_
 unfold Tryz.f129
 have hB:Big=9223372036854775808:=rfl
 have hm:=hd (Nat.zero_le _)
 by_cases h0:K=0
 ·subst h0
  have e:mTxt 0=⟨⟨[109,48]⟩⟩:=by unfold mTxt;rw[OFz (by decide)];exact I5z
  rw[e]
  simp only[go_sem,seval]
 ·have h0':((K:Int)≤0)=False:=by simp only[eq_iff_iff,iff_false];omega
  have hds:=Ubz K
  simp only[go_sem,seval,h0']
  refine AFz (fun k τ=>∃(out:ByteArray),k≤K∧(0<k→dec K=dec k++out)∧(k=0→dec K=out)∧τ=slots 20 [(0,.c .one [.sh false (.i .i64 (k:Nat))]),(3,.c .one [.sh false (.t (out))])]) K (by omega) ?_ ?_
  ·simp only[go_sem,seval]
   exact⟨⟨⟨[]⟩⟩,Nat.le_refl _,fun _=>by apply ByteArray.ext;simp,fun h=>absurd h h0,rfl⟩
  ·rintro k τ ⟨out,hk,g1,g2,rfl⟩
   by_cases h1:0<k
   ·have h1':((k:Int)>0)=True:=by simp only[eq_iff_iff,iff_true];omega
    have e1:=g1 h1
    have hsz:out.size≤9223372036854775801:=by
     have:=congrArg ByteArray.size e1
     rw[ByteArray.size_append]at this
     omega
    have w1:IntKind.i64.wrap (48+(k:Int).tmod 10)=((48+k % 10:Nat):Int):=by
     rw[show(k:Int).tmod 10=((k % 10:Nat):Int)from rfl,ARz (by omega) (by omega)];omega
    have w2:IntKind.i64.wrap ((k:Int).tdiv 10)=((k/10:Nat):Int):=by
     rw[show(k:Int).tdiv 10=((k/10:Nat):Int)from rfl,ARz (by omega) (by omega)]
    have e3:(((1+out.size:Nat):Int)>IntKind.i64.max)=False:=by rw[Nrz];simp only[eq_iff_iff,iff_false];omega
    simp only[go_sem,seval,h1',w1,w2,u8w,UInt8.ofNat_toNat,e3]
    refine⟨k/10,by omega,⟨⟨[UInt8.ofNat (48+k % 10)]⟩⟩++out,by omega,fun h=> ?_,fun h=> ?_,rfl⟩
    ·rw[e1,Swz (show¬k<10 by omega),ByteArray.append_assoc]
    ·rw[e1,OFz (show k<10 by omega),Nat.mod_eq_of_lt (show k<10 by omega)]
   ·have h1':((k:Int)>0)=False:=by simp only[eq_iff_iff,iff_false];omega
    obtain rfl:k=0:=by omega
    have hsz:out.size≤9223372036854775801:=by rw[←g2 rfl];omega
    have e3:(((1+out.size:Nat):Int)>IntKind.i64.max)=False:=by rw[Nrz];simp only[eq_iff_iff,iff_false];omega
    simp only[go_sem,seval,h1',e3]
    rw[mTxt,g2 rfl]
theorem FLz {α:Type} {f:α→Nat→α×Nat} (hf:∀x k,k≤(f x k).2) {l:List α} {k:Nat}:k≤(mkL f l k).2:=by
 have:=DHz hf (l:=l) (k:=k) (j:=0)
 exact Nat.le_trans this.1 this.2
theorem Phz {α:Type} {f:α→Nat→α×Nat}:∀{l:List α} {k j:Nat} {x:α},l[j]? =some x→(mkL f l k).1[j]? =some (f x (mkL f (l.take j) k).2).1
 |[],k,j,x,h=>by simp at h
 |y::l,k,0,x,h=>by simp at h;subst h;rfl
 |y::l,k,j+1,x,h=>by
  have h':l[j]? =some x:=by simpa using h
  have:=Phz (f:=f) (k:=(f y k).2) h'
  simpa only[List.take_succ_cons,mkL,List.getElem?_cons_succ]using this
@[go_sem] theorem LQz {k:Nat}:((k:Int)<0)=False:=by simp
theorem Mez:∀x k,k≤(mB x k).2:=fun _ k=>Nat.le_succ k
theorem Edz {s o:Nat} {q:Path} {es:Nat} {rows r:List (List PV)} {σ:St} (h:rows≠[]):tu s o q es rows r σ=modS s o q (AKz es r) false σ:=by
 cases rows with
 |nil=>exact absurd rfl h
 |cons a l=>rfl
theorem Wr.sub {s o:Nat} {q:Path} {es es' d i j:Nat} {σ0 σ:St} {rows r0:List (List PV)} {row:List PV} (h:Wr s o q es d σ0 σ rows) (h1:rows[i]? =some row) (h2:row[j]? =some (.o es' r0)):(ABz σ s o).atQ (q++[(i,j)])=some (false,es',r0):=by
 obtain⟨es0,rows0,g1,g2⟩:=Ljz h.cell
 rw[g1]
 simp only[CV.atQ]
 rw[Nzz g2]
 simp only[getP,h1,h2,Option.bind_some,Option.map_some]
end Go.Proofs.YtblelojdboefjaaGreatDoor.R
namespace Go.Proofs.YtblelojdboefjaaGreatDoor.R
open Go
def Ahz (x:TAttr) (k:Nat):TAttr×Nat:=(⟨mTxt (k),mTxt (k+1)⟩,k+1+1)
theorem Jmz:∀x k,k≤(Ahz x k).2:=by
 intro x k
 unfold Ahz
 simp only
 omega
set_option maxHeartbeats 4000000 in
theorem Elz (n:Nat) (hn:Big+2≤n) (d s o:Nat) (q:Path) (σ:St) (l:List TAttr) (ho:∀y∈l,TAttr.ok y) (k:Nat) (hl:l.length≤Bd) (hk:(mkL Ahz l k).2≤9223372036854775800) (hd:d<σ.length) (hp:plain (σ.getD d .undef)=true)
  (hc:(ABz σ s o).atQ q=some (false,2,l.map TAttr.pv)):icall env n 54 d σ [.c .one [.br s o q 0 0 false 2 (l.map TAttr.pv)],.c .one [.sh false (.i .i64 ((k:Nat):Int))]]=some ((tu s o q 2 (l.map TAttr.pv) ((mkL Ahz l k).1.map TAttr.pv) σ).set d (.c .one [.sh false (.i .i64 (((mkL Ahz l k).2:Nat):Int))]),.c .one [.sh false (.i .i64 (((mkL Ahz l k).2:Nat):Int))]):=by
 refine HHz (fn:=Tryz.f54) (d0:=1) hn rfl rfl (Nat.le_of_ble_eq_true rfl) fun m hd0=> ?_
 unfold Tryz.f54
 have hb:Bd=1048576:=rfl
 have hT:=fun k hk=>Gtz m (hd0 (by decide)) k hk
 simp only[go_sem,seval]
 refine H3z l.length (fun j σk=>slots 29 [(0,.c .one [.br (s+29) o q 0 0 false 2 (mkR Ahz TAttr.pv l k j)]),(1,.c .one [.sh false (.i .i64 (((mkL Ahz (l.take j) k).2:Nat):Int))]),(5,.c .one [.sh false (.i .i64 ((j:Nat):Int))])]++upSt 29 σk) (Rnd s o q 2 d σ (mkR Ahz TAttr.pv l k)) (hd0 (Nat.zero_le _)) (by omega) ?_ (fun j σk hj h1 hw hI=> ?_) (fun σk hI=> ?_)
 ·simp only[go_sem,seval]
  exact finE σ (by rw[Cuz];rfl) ⟨.refl (by rw[Cuz];exact hc) hp,fun _=>rfl,fun h=>absurd h (Nat.lt_irrefl _)⟩
 ·have hx:l[j]? =some l[j]:=List.getElem?_eq_getElem hj
  have hox:=ho _ (List.getElem_mem hj)
  generalize l[j]=x at hx hox
  have hW:=hI.1
  have hcell:=hW.cell
  have hg:=G3z (f:=Ahz) (pv:=TAttr.pv) (k:=k) hx
  have hlen:=B7z (f:=Ahz) (pv:=TAttr.pv) (k:=k) (Nat.le_of_lt hj)
  have hm:=(DHz (f:=Ahz) Jmz (l:=l) (k:=k) (j:=j+1)).2
  have ht:(mkL Ahz (l.take (j+1)) k).2=(Ahz x (mkL Ahz (l.take j) k).2).2:=by rw[Dcz hx]
  have hs:∀p,p=TAttr.pv (Ahz x (mkL Ahz (l.take j) k).2).1→(mkR Ahz TAttr.pv l k j).set j p=mkR Ahz TAttr.pv l k (j+1):=fun p hp=>G2z hx hp
  have hr:(mkR Ahz TAttr.pv l k (j+1)).length=(mkR Ahz TAttr.pv l k j).length:=by rw[hlen,B7z hj]
  obtain⟨K0,hK⟩:∃K,(mkL Ahz (l.take j) k).2=K:=⟨_,rfl⟩
  rw[hK]at hs ht
  have ht':(mkL Ahz (l.take (j+1)) k).2=K0+1+1:=by rw[ht];simp only[Ahz]
  have hs':(mkR Ahz TAttr.pv l k j).set j [.t (mTxt (K0)),.t (mTxt (K0+1))]=mkR Ahz TAttr.pv l k (j+1):=hs _ (by simp only[Ahz,TAttr.pv])
  have w0:IntKind.i64.wrap (((K0:Nat):Int)+1)=((K0+1:Nat):Int):=by rw[ARz (by omega) (by omega)];omega
  have t0:=hT (K0) (by omega)
  have w1:IntKind.i64.wrap (((K0+1:Nat):Int)+1)=(((mkL Ahz (l.take (j+1)) k).2:Nat):Int):=by rw[ht'];rw[ARz (by omega) (by omega)];omega
  have t1:=hT (K0+1) (by omega)
  have hW1:=hW.store (r:=(mkR Ahz TAttr.pv l k j).set j [.t (mTxt (K0)),.t x.Val]) (by simp only[List.length_set])
  have c1:=hW1.cell
  simp only[APz]at c1
  simp only[go_sem,seval,h1,hlen,hcell,hg,hK,hw,List.length_set,w0,t0,w1,t1,c1,hs']
  exact finE _ rfl ⟨hW1.store (by simp only[List.length_set,hr]),fun h=>absurd h (Nat.succ_ne_zero _),fun _=>hW1.nrm (by simp only[List.length_set,hr])⟩
 ·have hlen:=B7z (f:=Ahz) (pv:=TAttr.pv) (l:=l) (k:=k) (Nat.le_refl _)
  have he:=hI.end (r0:=l.map TAttr.pv) (by simp)
  simp only[go_sem,seval,hlen,List.take_length]
  refine Bzz (DJz (σ:=σk) ⟨by simp,rfl⟩ (by rw[hI.1.len];exact hd) hI.1.pl (by decide) rfl) ?_
  rw[he,G4z]
  rfl
set_option maxHeartbeats 4000000 in
theorem IYz (n:Nat) (hn:Big+1≤n) (d s o:Nat) (q:Path) (σ:St) (l:List UInt8) (ho:∀y∈l,okB y) (k:Nat) (hl:l.length≤Bd) (hk:(mkL mB l k).2≤9223372036854775800) (hd:d<σ.length) (hp:plain (σ.getD d .undef)=true)
  (hc:(ABz σ s o).atQ q=some (false,1,l.map bpv)):icall env n 24 d σ [.c .one [.br s o q 0 0 false 1 (l.map bpv)],.c .one [.sh false (.i .i64 ((k:Nat):Int))]]=some ((tu s o q 1 (l.map bpv) ((mkL mB l k).1.map bpv) σ).set d (.c .one [.sh false (.i .i64 (((mkL mB l k).2:Nat):Int))]),.c .one [.sh false (.i .i64 (((mkL mB l k).2:Nat):Int))]):=by
 refine HHz (fn:=Tryz.f24) (d0:=0) hn rfl rfl (Nat.le_of_ble_eq_true rfl) fun m hd0=> ?_
 unfold Tryz.f24
 have hb:Bd=1048576:=rfl
 simp only[go_sem,seval]
 refine H3z l.length (fun j σk=>slots 20 [(0,.c .one [.br (s+20) o q 0 0 false 1 (mkR mB bpv l k j)]),(1,.c .one [.sh false (.i .i64 (((mkL mB (l.take j) k).2:Nat):Int))]),(5,.c .one [.sh false (.i .i64 ((j:Nat):Int))])]++upSt 20 σk) (Rnd s o q 1 d σ (mkR mB bpv l k)) (hd0 (Nat.zero_le _)) (by omega) ?_ (fun j σk hj h1 hw hI=> ?_) (fun σk hI=> ?_)
 ·simp only[go_sem,seval]
  exact finE σ (by rw[Cuz];rfl) ⟨.refl (by rw[Cuz];exact hc) hp,fun _=>rfl,fun h=>absurd h (Nat.lt_irrefl _)⟩
 ·have hx:l[j]? =some l[j]:=List.getElem?_eq_getElem hj
  have hox:=ho _ (List.getElem_mem hj)
  generalize l[j]=x at hx hox
  have hW:=hI.1
  have hcell:=hW.cell
  have hg:=G3z (f:=mB) (pv:=bpv) (k:=k) hx
  have hlen:=B7z (f:=mB) (pv:=bpv) (k:=k) (Nat.le_of_lt hj)
  have hm:=(DHz (f:=mB) Mez (l:=l) (k:=k) (j:=j+1)).2
  have ht:(mkL mB (l.take (j+1)) k).2=(mB x (mkL mB (l.take j) k).2).2:=by rw[Dcz hx]
  have hs:∀p,p=bpv (mB x (mkL mB (l.take j) k).2).1→(mkR mB bpv l k j).set j p=mkR mB bpv l k (j+1):=fun p hp=>G2z hx hp
  have hr:(mkR mB bpv l k (j+1)).length=(mkR mB bpv l k j).length:=by rw[hlen,B7z hj]
  obtain⟨K0,hK⟩:∃K,(mkL mB (l.take j) k).2=K:=⟨_,rfl⟩
  rw[hK]at hs ht
  have ht':(mkL mB (l.take (j+1)) k).2=K0+1:=ht
  have w1:IntKind.i64.wrap ((K0:Int)+1)=(((mkL mB (l.take (j+1)) k).2:Nat):Int):=by rw[ht',ARz (by omega) (by omega)];omega
  have hs':=hs _ rfl
  simp only[mB,bpv]at hs'
  simp only[go_sem,seval,h1,hlen,hcell,hg,hK,w1,hw,u8w,hs']
  exact finE _ rfl ⟨hW.store hr,fun h=>absurd h (Nat.succ_ne_zero _),fun _=>hW.nrm hr⟩
 ·have hlen:=B7z (f:=mB) (pv:=bpv) (l:=l) (k:=k) (Nat.le_refl _)
  have he:=hI.end (r0:=l.map bpv) (by simp)
  simp only[go_sem,seval,hlen,List.take_length]
  refine Bzz (DJz (σ:=σk) ⟨by simp,rfl⟩ (by rw[hI.1.len];exact hd) hI.1.pl (by decide) rfl) ?_
  rw[he,G4z]
  rfl
def mEnt (x:TEnt) (k:Nat):TEnt×Nat:=(⟨mTxt (k),((k+1:Nat):Int)⟩,k+1+1)
theorem LRz:∀x k,k≤(mEnt x k).2:=by
 intro x k
 unfold mEnt
 simp only
 omega
set_option maxHeartbeats 4000000 in
theorem JOz (n:Nat) (hn:Big+2≤n) (d s o:Nat) (q:Path) (σ:St) (l:List TEnt) (ho:∀y∈l,TEnt.ok y) (k:Nat) (hl:l.length≤Bd) (hk:(mkL mEnt l k).2≤9223372036854775800) (hd:d<σ.length) (hp:plain (σ.getD d .undef)=true)
  (hc:(ABz σ s o).atQ q=some (false,2,l.map TEnt.pv)):icall env n 128 d σ [.c .one [.br s o q 0 0 false 2 (l.map TEnt.pv)],.c .one [.sh false (.i .i64 ((k:Nat):Int))]]=some ((tu s o q 2 (l.map TEnt.pv) ((mkL mEnt l k).1.map TEnt.pv) σ).set d (.c .one [.sh false (.i .i64 (((mkL mEnt l k).2:Nat):Int))]),.c .one [.sh false (.i .i64 (((mkL mEnt l k).2:Nat):Int))]):=by
 refine HHz (fn:=Tryz.f128) (d0:=1) hn rfl rfl (Nat.le_of_ble_eq_true rfl) fun m hd0=> ?_
 unfold Tryz.f128
 have hb:Bd=1048576:=rfl
 have hT:=fun k hk=>Gtz m (hd0 (by decide)) k hk
 simp only[go_sem,seval]
 refine H3z l.length (fun j σk=>slots 28 [(0,.c .one [.br (s+28) o q 0 0 false 2 (mkR mEnt TEnt.pv l k j)]),(1,.c .one [.sh false (.i .i64 (((mkL mEnt (l.take j) k).2:Nat):Int))]),(5,.c .one [.sh false (.i .i64 ((j:Nat):Int))])]++upSt 28 σk) (Rnd s o q 2 d σ (mkR mEnt TEnt.pv l k)) (hd0 (Nat.zero_le _)) (by omega) ?_ (fun j σk hj h1 hw hI=> ?_) (fun σk hI=> ?_)
 ·simp only[go_sem,seval]
  exact finE σ (by rw[Cuz];rfl) ⟨.refl (by rw[Cuz];exact hc) hp,fun _=>rfl,fun h=>absurd h (Nat.lt_irrefl _)⟩
 ·have hx:l[j]? =some l[j]:=List.getElem?_eq_getElem hj
  have hox:=ho _ (List.getElem_mem hj)
  generalize l[j]=x at hx hox
  have hW:=hI.1
  have hcell:=hW.cell
  have hg:=G3z (f:=mEnt) (pv:=TEnt.pv) (k:=k) hx
  have hlen:=B7z (f:=mEnt) (pv:=TEnt.pv) (k:=k) (Nat.le_of_lt hj)
  have hm:=(DHz (f:=mEnt) LRz (l:=l) (k:=k) (j:=j+1)).2
  have ht:(mkL mEnt (l.take (j+1)) k).2=(mEnt x (mkL mEnt (l.take j) k).2).2:=by rw[Dcz hx]
  have hs:∀p,p=TEnt.pv (mEnt x (mkL mEnt (l.take j) k).2).1→(mkR mEnt TEnt.pv l k j).set j p=mkR mEnt TEnt.pv l k (j+1):=fun p hp=>G2z hx hp
  have hr:(mkR mEnt TEnt.pv l k (j+1)).length=(mkR mEnt TEnt.pv l k j).length:=by rw[hlen,B7z hj]
  obtain⟨K0,hK⟩:∃K,(mkL mEnt (l.take j) k).2=K:=⟨_,rfl⟩
  rw[hK]at hs ht
  have ht':(mkL mEnt (l.take (j+1)) k).2=K0+1+1:=by rw[ht];simp only[mEnt]
  have hs':(mkR mEnt TEnt.pv l k j).set j [.t (mTxt (K0)),.i .i64 ((K0+1:Nat):Int)]=mkR mEnt TEnt.pv l k (j+1):=hs _ (by simp only[mEnt,TEnt.pv])
  have w0:IntKind.i64.wrap (((K0:Nat):Int)+1)=((K0+1:Nat):Int):=by rw[ARz (by omega) (by omega)];omega
  have t0:=hT (K0) (by omega)
  have w1:IntKind.i64.wrap (((K0+1:Nat):Int)+1)=(((mkL mEnt (l.take (j+1)) k).2:Nat):Int):=by rw[ht'];rw[ARz (by omega) (by omega)];omega
  have hW1:=hW.store (r:=(mkR mEnt TEnt.pv l k j).set j [.t (mTxt (K0)),.i .i64 x.Ino]) (by simp only[List.length_set])
  have c1:=hW1.cell
  simp only[APz]at c1
  simp only[go_sem,seval,h1,hlen,hcell,hg,hK,hw,List.length_set,w0,t0,w1,c1,hs']
  exact finE _ rfl ⟨hW1.store (by simp only[List.length_set,hr]),fun h=>absurd h (Nat.succ_ne_zero _),fun _=>hW1.nrm (by simp only[List.length_set,hr])⟩
 ·have hlen:=B7z (f:=mEnt) (pv:=TEnt.pv) (l:=l) (k:=k) (Nat.le_refl _)
  have he:=hI.end (r0:=l.map TEnt.pv) (by simp)
  simp only[go_sem,seval,hlen,List.take_length]
  refine Bzz (DJz (σ:=σk) ⟨by simp,rfl⟩ (by rw[hI.1.len];exact hd) hI.1.pl (by decide) rfl) ?_
  rw[he,G4z]
  rfl
def AZz (x:TInode) (k:Nat):TInode×Nat:=(⟨((k:Nat):Int),((k+1:Nat):Int),((k+1+1:Nat):Int),(mkL mB x.Data (k+1+1+1)).1,(mkL mEnt x.Ents ((mkL mB x.Data (k+1+1+1)).2)).1,(mkL Ahz x.Attrs ((mkL mEnt x.Ents ((mkL mB x.Data (k+1+1+1)).2)).2)).1⟩,(mkL Ahz x.Attrs ((mkL mEnt x.Ents ((mkL mB x.Data (k+1+1+1)).2)).2)).2)
theorem IXz:∀x k,k≤(AZz x k).2:=by
 intro x k
 have g0:=FLz Mez (l:=x.Data) (k:=k+1+1+1)
 have g1:=FLz LRz (l:=x.Ents) (k:=(mkL mB x.Data (k+1+1+1)).2)
 have g2:=FLz Jmz (l:=x.Attrs) (k:=(mkL mEnt x.Ents ((mkL mB x.Data (k+1+1+1)).2)).2)
 unfold AZz
 simp only
 omega
set_option maxHeartbeats 4000000 in
theorem MYz (n:Nat) (hn:Big+3≤n) (d s o:Nat) (q:Path) (σ:St) (l:List TInode) (ho:∀y∈l,TInode.ok y) (k:Nat) (hl:l.length≤Bd) (hk:(mkL AZz l k).2≤9223372036854775800) (hd:d<σ.length) (hp:plain (σ.getD d .undef)=true)
  (hc:(ABz σ s o).atQ q=some (false,6,l.map TInode.ov)):icall env n 53 d σ [.c .one [.br s o q 0 0 false 6 (l.map TInode.ov)],.c .one [.sh false (.i .i64 ((k:Nat):Int))]]=some ((tu s o q 6 (l.map TInode.ov) ((mkL AZz l k).1.map TInode.ov) σ).set d (.c .one [.sh false (.i .i64 (((mkL AZz l k).2:Nat):Int))]),.c .one [.sh false (.i .i64 (((mkL AZz l k).2:Nat):Int))]):=by
 refine HHz (fn:=Tryz.f53) (d0:=2) hn rfl rfl (Nat.le_of_ble_eq_true rfl) fun m hd0=> ?_
 unfold Tryz.f53
 have hb:Bd=1048576:=rfl
 simp only[go_sem,seval]
 refine H3z l.length (fun j σk=>slots 55 [(0,.c .one [.br (s+55) o q 0 0 false 6 (mkR AZz TInode.ov l k j)]),(1,.c .one [.sh false (.i .i64 (((mkL AZz (l.take j) k).2:Nat):Int))]),(5,.c .one [.sh false (.i .i64 ((j:Nat):Int))])]++upSt 55 σk) (Rnd s o q 6 d σ (mkR AZz TInode.ov l k)) (hd0 (Nat.zero_le _)) (by omega) ?_ (fun j σk hj h1 hw hI=> ?_) (fun σk hI=> ?_)
 ·simp only[go_sem,seval]
  exact finE σ (by rw[Cuz];rfl) ⟨.refl (by rw[Cuz];exact hc) hp,fun _=>rfl,fun h=>absurd h (Nat.lt_irrefl _)⟩
 ·have hx:l[j]? =some l[j]:=List.getElem?_eq_getElem hj
  have hox:=ho _ (List.getElem_mem hj)
  generalize l[j]=x at hx hox
  have hW:=hI.1
  have hcell:=hW.cell
  have hg:=G3z (f:=AZz) (pv:=TInode.ov) (k:=k) hx
  have hlen:=B7z (f:=AZz) (pv:=TInode.ov) (k:=k) (Nat.le_of_lt hj)
  have hm:=(DHz (f:=AZz) IXz (l:=l) (k:=k) (j:=j+1)).2
  have ht:(mkL AZz (l.take (j+1)) k).2=(AZz x (mkL AZz (l.take j) k).2).2:=by rw[Dcz hx]
  have hs:∀p,p=TInode.ov (AZz x (mkL AZz (l.take j) k).2).1→(mkR AZz TInode.ov l k j).set j p=mkR AZz TInode.ov l k (j+1):=fun p hp=>G2z hx hp
  have hr:(mkR AZz TInode.ov l k (j+1)).length=(mkR AZz TInode.ov l k j).length:=by rw[hlen,B7z hj]
  obtain⟨K0,hK⟩:∃K,(mkL AZz (l.take j) k).2=K:=⟨_,rfl⟩
  rw[hK]at hs ht
  obtain⟨K4,hK4⟩:∃K,(mkL mB x.Data (K0+1+1+1)).2=K:=⟨_,rfl⟩
  have ge3:=FLz Mez (l:=x.Data) (k:=K0+1+1+1)
  rw[hK4]at ge3
  obtain⟨K5,hK5⟩:∃K,(mkL mEnt x.Ents K4).2=K:=⟨_,rfl⟩
  have ge4:=FLz LRz (l:=x.Ents) (k:=K4)
  rw[hK5]at ge4
  obtain⟨K6,hK6⟩:∃K,(mkL Ahz x.Attrs K5).2=K:=⟨_,rfl⟩
  have ge5:=FLz Jmz (l:=x.Attrs) (k:=K5)
  rw[hK6]at ge5
  have ht':(mkL AZz (l.take (j+1)) k).2=K6:=by rw[ht];simp only[AZz,hK4,hK5,hK6]
  have hs':(mkR AZz TInode.ov l k j).set j [.i .i64 ((K0:Nat):Int),.i .i64 ((K0+1:Nat):Int),.i .i64 ((K0+1+1:Nat):Int),.o 1 ((mkL mB x.Data (K0+1+1+1)).1.map bpv),.o 2 ((mkL mEnt x.Ents (K4)).1.map TEnt.pv),.o 2 ((mkL Ahz x.Attrs (K5)).1.map TAttr.pv)]=mkR AZz TInode.ov l k (j+1):=hs _ (by simp only[AZz,TInode.ov,hK4,hK5,hK6])
  subst ht'
  have w0:IntKind.i64.wrap (((K0:Nat):Int)+1)=((K0+1:Nat):Int):=by rw[ARz (by omega) (by omega)];omega
  have w1:IntKind.i64.wrap (((K0+1:Nat):Int)+1)=((K0+1+1:Nat):Int):=by rw[ARz (by omega) (by omega)];omega
  have w2:IntKind.i64.wrap (((K0+1+1:Nat):Int)+1)=((K0+1+1+1:Nat):Int):=by rw[ARz (by omega) (by omega)];omega
  have hW1:=hW.store (r:=(mkR AZz TInode.ov l k j).set j [.i .i64 ((K0:Nat):Int),.i .i64 x.Kind,.i .i64 x.Links,.o 1 (x.Data.map bpv),.o 2 (x.Ents.map TEnt.pv),.o 2 (x.Attrs.map TAttr.pv)]) (by simp only[List.length_set])
  have c1:=hW1.cell
  simp only[APz]at c1
  have hW2:=hW1.store (r:=(mkR AZz TInode.ov l k j).set j [.i .i64 ((K0:Nat):Int),.i .i64 ((K0+1:Nat):Int),.i .i64 x.Links,.o 1 (x.Data.map bpv),.o 2 (x.Ents.map TEnt.pv),.o 2 (x.Attrs.map TAttr.pv)]) (by simp only[List.length_set])
  have c2:=hW2.cell
  simp only[APz]at c2
  have hM3:=hW2.nrm (r:=(mkR AZz TInode.ov l k j).set j [.i .i64 ((K0:Nat):Int),.i .i64 ((K0+1:Nat):Int),.i .i64 ((K0+1+1:Nat):Int),.o 1 (x.Data.map bpv),.o 2 (x.Ents.map TEnt.pv),.o 2 (x.Attrs.map TAttr.pv)]) (by simp only[List.length_set])
  have hW3:=hW2.store (r:=(mkR AZz TInode.ov l k j).set j [.i .i64 ((K0:Nat):Int),.i .i64 ((K0+1:Nat):Int),.i .i64 ((K0+1+1:Nat):Int),.o 1 (x.Data.map bpv),.o 2 (x.Ents.map TEnt.pv),.o 2 (x.Attrs.map TAttr.pv)]) (by simp only[List.length_set])
  have c3:=hW3.cell
  simp only[APz]at c3
  have hrow3:((mkR AZz TInode.ov l k j).set j [.i .i64 ((K0:Nat):Int),.i .i64 ((K0+1:Nat):Int),.i .i64 ((K0+1+1:Nat):Int),.o 1 (x.Data.map bpv),.o 2 (x.Ents.map TEnt.pv),.o 2 (x.Attrs.map TAttr.pv)])[j]? =some [.i .i64 ((K0:Nat):Int),.i .i64 ((K0+1:Nat):Int),.i .i64 ((K0+1+1:Nat):Int),.o 1 (x.Data.map bpv),.o 2 (x.Ents.map TEnt.pv),.o 2 (x.Attrs.map TAttr.pv)]:=by rw[List.getElem?_set_self (by rw[hlen];exact hj)]
  have n3:=hW3.sub hrow3 (j:=3) rfl
  simp only[APz]at n3
  simp only[go_sem,seval,h1,hlen,hcell,hg,hK,hw,List.length_set,w0,w1,w2,c1,c2,c3]
  refine Bzz (IYz m (hd0 (by decide)) _ _ _ _ _ x.Data hox.Data.1 (K0+1+1+1) hox.Data.2 (by rw[hK4];omega) (by simp only[List.length_cons];omega) rfl (by simp only[go_sem,seval,n3])) ?_
  rcases Classical.em (x.Data=[])with hE3|hE3
  ·have v3:x.Data.map bpv=(mkL mB x.Data (K0+1+1+1)).1.map bpv:=by rw[hE3];rfl
   have u3:∀s o q r τ,tu s o q 1 ((mkL mB x.Data (K0+1+1+1)).1.map bpv) r τ=τ:=by rw[hE3];intros;rfl
   have hN3:=hW3
   rw[v3]at hN3
   have hM4:=hM3
   rw[v3]at hM4
   simp only[v3]
   simp only[u3]
   have c4:=hN3.cell
   simp only[APz]at c4
   have hrow4:((mkR AZz TInode.ov l k j).set j [.i .i64 ((K0:Nat):Int),.i .i64 ((K0+1:Nat):Int),.i .i64 ((K0+1+1:Nat):Int),.o 1 ((mkL mB x.Data (K0+1+1+1)).1.map bpv),.o 2 (x.Ents.map TEnt.pv),.o 2 (x.Attrs.map TAttr.pv)])[j]? =some [.i .i64 ((K0:Nat):Int),.i .i64 ((K0+1:Nat):Int),.i .i64 ((K0+1+1:Nat):Int),.o 1 ((mkL mB x.Data (K0+1+1+1)).1.map bpv),.o 2 (x.Ents.map TEnt.pv),.o 2 (x.Attrs.map TAttr.pv)]:=by rw[List.getElem?_set_self (by rw[hlen];exact hj)]
   have n4:=hN3.sub hrow4 (j:=4) rfl
   simp only[APz]at n4
   simp only[go_sem,seval,h1,hlen,hcell,hg,hK,hw,List.length_set,w0,w1,w2,c1,c2,c3,c4,v3,hK4]
   refine Bzz (JOz m (hd0 (by decide)) _ _ _ _ _ x.Ents hox.Ents.1 (K4) hox.Ents.2 (by rw[hK5];omega) (by simp only[List.length_cons];omega) rfl (by simp only[go_sem,seval,n4])) ?_
   rcases Classical.em (x.Ents=[])with hE4|hE4
   ·have v4:x.Ents.map TEnt.pv=(mkL mEnt x.Ents (K4)).1.map TEnt.pv:=by rw[hE4];rfl
    have u4:∀s o q r τ,tu s o q 2 ((mkL mEnt x.Ents (K4)).1.map TEnt.pv) r τ=τ:=by rw[hE4];intros;rfl
    have hN4:=hN3
    rw[v4]at hN4
    have hM5:=hM4
    rw[v4]at hM5
    simp only[v4]
    simp only[u4]
    have c5:=hN4.cell
    simp only[APz]at c5
    have hrow5:((mkR AZz TInode.ov l k j).set j [.i .i64 ((K0:Nat):Int),.i .i64 ((K0+1:Nat):Int),.i .i64 ((K0+1+1:Nat):Int),.o 1 ((mkL mB x.Data (K0+1+1+1)).1.map bpv),.o 2 ((mkL mEnt x.Ents (K4)).1.map TEnt.pv),.o 2 (x.Attrs.map TAttr.pv)])[j]? =some [.i .i64 ((K0:Nat):Int),.i .i64 ((K0+1:Nat):Int),.i .i64 ((K0+1+1:Nat):Int),.o 1 ((mkL mB x.Data (K0+1+1+1)).1.map bpv),.o 2 ((mkL mEnt x.Ents (K4)).1.map TEnt.pv),.o 2 (x.Attrs.map TAttr.pv)]:=by rw[List.getElem?_set_self (by rw[hlen];exact hj)]
    have n5:=hN4.sub hrow5 (j:=5) rfl
    simp only[APz]at n5
    simp only[go_sem,seval,h1,hlen,hcell,hg,hK,hw,List.length_set,w0,w1,w2,c1,c2,c3,c4,v3,hK4,c5,v4,hK5]
    refine Bzz (Elz m (hd0 (by decide)) _ _ _ _ _ x.Attrs hox.Attrs.1 (K5) hox.Attrs.2 (by rw[hK6];omega) (by simp only[List.length_cons];omega) rfl (by simp only[go_sem,seval,n5])) ?_
    rcases Classical.em (x.Attrs=[])with hE5|hE5
    ·have v5:x.Attrs.map TAttr.pv=(mkL Ahz x.Attrs (K5)).1.map TAttr.pv:=by rw[hE5];rfl
     have u5:∀s o q r τ,tu s o q 2 ((mkL Ahz x.Attrs (K5)).1.map TAttr.pv) r τ=τ:=by rw[hE5];intros;rfl
     have hN5:=hN4
     rw[v5]at hN5
     have hM6:=hM5
     rw[v5]at hM6
     simp only[v5]
     simp only[u5]
     have c6:=hN5.cell
     simp only[APz]at c6
     rw[hs']at hN5 hM6
     simp only[go_sem,seval,h1,hlen,hcell,hg,hK,hw,List.length_set,w0,w1,w2,c1,c2,c3,c4,v3,hK4,c5,v4,hK5,c6,v5,hK6,hs']
     exact finE _ rfl ⟨hN5,fun h=>absurd h (Nat.succ_ne_zero _),fun _=>hM6⟩
    ·have u5:∀s o q r τ,tu s o q 2 (x.Attrs.map TAttr.pv) r τ=modS s o q (AKz 2 r) false τ:=fun s o q r τ=>Edz (by simpa using hE5)
     have hN5:=hN4.nest hrow5 (j:=5) rfl (r:=(mkL Ahz x.Attrs (K5)).1.map TAttr.pv) (by simp only[List.length_map,AWz])
     simp only[List.set_set,List.set_cons_succ,List.set_cons_zero]at hN5
     have hM6:=hM5.nest hrow5 (j:=5) rfl (r:=(mkL Ahz x.Attrs (K5)).1.map TAttr.pv) (by simp only[List.length_map,AWz])
     simp only[List.set_set,List.set_cons_succ,List.set_cons_zero]at hM6
     simp only[u5]
     have c6:=hN5.cell
     simp only[APz]at c6
     rw[hs']at hN5 hM6
     simp only[go_sem,seval,h1,hlen,hcell,hg,hK,hw,List.length_set,w0,w1,w2,c1,c2,c3,c4,v3,hK4,c5,v4,hK5,c6,hrow5,hK6,AWz,List.length_map,hs']
     exact finE _ rfl ⟨hN5,fun h=>absurd h (Nat.succ_ne_zero _),fun _=>hM6⟩
   ·have u4:∀s o q r τ,tu s o q 2 (x.Ents.map TEnt.pv) r τ=modS s o q (AKz 2 r) false τ:=fun s o q r τ=>Edz (by simpa using hE4)
    have hN4:=hN3.nest hrow4 (j:=4) rfl (r:=(mkL mEnt x.Ents (K4)).1.map TEnt.pv) (by simp only[List.length_map,AWz])
    simp only[List.set_set,List.set_cons_succ,List.set_cons_zero]at hN4
    have hM5:=hM4.nest hrow4 (j:=4) rfl (r:=(mkL mEnt x.Ents (K4)).1.map TEnt.pv) (by simp only[List.length_map,AWz])
    simp only[List.set_set,List.set_cons_succ,List.set_cons_zero]at hM5
    simp only[u4]
    have c5:=hN4.cell
    simp only[APz]at c5
    have hrow5:((mkR AZz TInode.ov l k j).set j [.i .i64 ((K0:Nat):Int),.i .i64 ((K0+1:Nat):Int),.i .i64 ((K0+1+1:Nat):Int),.o 1 ((mkL mB x.Data (K0+1+1+1)).1.map bpv),.o 2 ((mkL mEnt x.Ents (K4)).1.map TEnt.pv),.o 2 (x.Attrs.map TAttr.pv)])[j]? =some [.i .i64 ((K0:Nat):Int),.i .i64 ((K0+1:Nat):Int),.i .i64 ((K0+1+1:Nat):Int),.o 1 ((mkL mB x.Data (K0+1+1+1)).1.map bpv),.o 2 ((mkL mEnt x.Ents (K4)).1.map TEnt.pv),.o 2 (x.Attrs.map TAttr.pv)]:=by rw[List.getElem?_set_self (by rw[hlen];exact hj)]
    have n5:=hN4.sub hrow5 (j:=5) rfl
    simp only[APz]at n5
    simp only[go_sem,seval,h1,hlen,hcell,hg,hK,hw,List.length_set,w0,w1,w2,c1,c2,c3,c4,v3,hK4,c5,hrow4,hK5,AWz,List.length_map]
    refine Bzz (Elz m (hd0 (by decide)) _ _ _ _ _ x.Attrs hox.Attrs.1 (K5) hox.Attrs.2 (by rw[hK6];omega) (by simp only[List.length_cons];omega) rfl (by simp only[go_sem,seval,n5])) ?_
    rcases Classical.em (x.Attrs=[])with hE5|hE5
    ·have v5:x.Attrs.map TAttr.pv=(mkL Ahz x.Attrs (K5)).1.map TAttr.pv:=by rw[hE5];rfl
     have u5:∀s o q r τ,tu s o q 2 ((mkL Ahz x.Attrs (K5)).1.map TAttr.pv) r τ=τ:=by rw[hE5];intros;rfl
     have hN5:=hN4
     rw[v5]at hN5
     have hM6:=hM5
     rw[v5]at hM6
     simp only[v5]
     simp only[u5]
     have c6:=hN5.cell
     simp only[APz]at c6
     rw[hs']at hN5 hM6
     simp only[go_sem,seval,h1,hlen,hcell,hg,hK,hw,List.length_set,w0,w1,w2,c1,c2,c3,c4,v3,hK4,c5,hrow4,hK5,AWz,List.length_map,c6,v5,hK6,hs']
     exact finE _ rfl ⟨hN5,fun h=>absurd h (Nat.succ_ne_zero _),fun _=>hM6⟩
    ·have u5:∀s o q r τ,tu s o q 2 (x.Attrs.map TAttr.pv) r τ=modS s o q (AKz 2 r) false τ:=fun s o q r τ=>Edz (by simpa using hE5)
     have hN5:=hN4.nest hrow5 (j:=5) rfl (r:=(mkL Ahz x.Attrs (K5)).1.map TAttr.pv) (by simp only[List.length_map,AWz])
     simp only[List.set_set,List.set_cons_succ,List.set_cons_zero]at hN5
     have hM6:=hM5.nest hrow5 (j:=5) rfl (r:=(mkL Ahz x.Attrs (K5)).1.map TAttr.pv) (by simp only[List.length_map,AWz])
     simp only[List.set_set,List.set_cons_succ,List.set_cons_zero]at hM6
     simp only[u5]
     have c6:=hN5.cell
     simp only[APz]at c6
     rw[hs']at hN5 hM6
     simp only[go_sem,seval,h1,hlen,hcell,hg,hK,hw,List.length_set,w0,w1,w2,c1,c2,c3,c4,v3,hK4,c5,hrow4,hK5,AWz,List.length_map,c6,hrow5,hK6,AWz,List.length_map,hs']
     exact finE _ rfl ⟨hN5,fun h=>absurd h (Nat.succ_ne_zero _),fun _=>hM6⟩
  ·have u3:∀s o q r τ,tu s o q 1 (x.Data.map bpv) r τ=modS s o q (AKz 1 r) false τ:=fun s o q r τ=>Edz (by simpa using hE3)
   have hN3:=hW3.nest hrow3 (j:=3) rfl (r:=(mkL mB x.Data (K0+1+1+1)).1.map bpv) (by simp only[List.length_map,AWz])
   simp only[List.set_set,List.set_cons_succ,List.set_cons_zero]at hN3
   have hM4:=hM3.nest hrow3 (j:=3) rfl (r:=(mkL mB x.Data (K0+1+1+1)).1.map bpv) (by simp only[List.length_map,AWz])
   simp only[List.set_set,List.set_cons_succ,List.set_cons_zero]at hM4
   simp only[u3]
   have c4:=hN3.cell
   simp only[APz]at c4
   have hrow4:((mkR AZz TInode.ov l k j).set j [.i .i64 ((K0:Nat):Int),.i .i64 ((K0+1:Nat):Int),.i .i64 ((K0+1+1:Nat):Int),.o 1 ((mkL mB x.Data (K0+1+1+1)).1.map bpv),.o 2 (x.Ents.map TEnt.pv),.o 2 (x.Attrs.map TAttr.pv)])[j]? =some [.i .i64 ((K0:Nat):Int),.i .i64 ((K0+1:Nat):Int),.i .i64 ((K0+1+1:Nat):Int),.o 1 ((mkL mB x.Data (K0+1+1+1)).1.map bpv),.o 2 (x.Ents.map TEnt.pv),.o 2 (x.Attrs.map TAttr.pv)]:=by rw[List.getElem?_set_self (by rw[hlen];exact hj)]
   have n4:=hN3.sub hrow4 (j:=4) rfl
   simp only[APz]at n4
   simp only[go_sem,seval,h1,hlen,hcell,hg,hK,hw,List.length_set,w0,w1,w2,c1,c2,c3,c4,hrow3,hK4,AWz,List.length_map]
   refine Bzz (JOz m (hd0 (by decide)) _ _ _ _ _ x.Ents hox.Ents.1 (K4) hox.Ents.2 (by rw[hK5];omega) (by simp only[List.length_cons];omega) rfl (by simp only[go_sem,seval,n4])) ?_
   rcases Classical.em (x.Ents=[])with hE4|hE4
   ·have v4:x.Ents.map TEnt.pv=(mkL mEnt x.Ents (K4)).1.map TEnt.pv:=by rw[hE4];rfl
    have u4:∀s o q r τ,tu s o q 2 ((mkL mEnt x.Ents (K4)).1.map TEnt.pv) r τ=τ:=by rw[hE4];intros;rfl
    have hN4:=hN3
    rw[v4]at hN4
    have hM5:=hM4
    rw[v4]at hM5
    simp only[v4]
    simp only[u4]
    have c5:=hN4.cell
    simp only[APz]at c5
    have hrow5:((mkR AZz TInode.ov l k j).set j [.i .i64 ((K0:Nat):Int),.i .i64 ((K0+1:Nat):Int),.i .i64 ((K0+1+1:Nat):Int),.o 1 ((mkL mB x.Data (K0+1+1+1)).1.map bpv),.o 2 ((mkL mEnt x.Ents (K4)).1.map TEnt.pv),.o 2 (x.Attrs.map TAttr.pv)])[j]? =some [.i .i64 ((K0:Nat):Int),.i .i64 ((K0+1:Nat):Int),.i .i64 ((K0+1+1:Nat):Int),.o 1 ((mkL mB x.Data (K0+1+1+1)).1.map bpv),.o 2 ((mkL mEnt x.Ents (K4)).1.map TEnt.pv),.o 2 (x.Attrs.map TAttr.pv)]:=by rw[List.getElem?_set_self (by rw[hlen];exact hj)]
    have n5:=hN4.sub hrow5 (j:=5) rfl
    simp only[APz]at n5
    simp only[go_sem,seval,h1,hlen,hcell,hg,hK,hw,List.length_set,w0,w1,w2,c1,c2,c3,c4,hrow3,hK4,AWz,List.length_map,c5,v4,hK5]
    refine Bzz (Elz m (hd0 (by decide)) _ _ _ _ _ x.Attrs hox.Attrs.1 (K5) hox.Attrs.2 (by rw[hK6];omega) (by simp only[List.length_cons];omega) rfl (by simp only[go_sem,seval,n5])) ?_
    rcases Classical.em (x.Attrs=[])with hE5|hE5
    ·have v5:x.Attrs.map TAttr.pv=(mkL Ahz x.Attrs (K5)).1.map TAttr.pv:=by rw[hE5];rfl
     have u5:∀s o q r τ,tu s o q 2 ((mkL Ahz x.Attrs (K5)).1.map TAttr.pv) r τ=τ:=by rw[hE5];intros;rfl
     have hN5:=hN4
     rw[v5]at hN5
     have hM6:=hM5
     rw[v5]at hM6
     simp only[v5]
     simp only[u5]
     have c6:=hN5.cell
     simp only[APz]at c6
     rw[hs']at hN5 hM6
     simp only[go_sem,seval,h1,hlen,hcell,hg,hK,hw,List.length_set,w0,w1,w2,c1,c2,c3,c4,hrow3,hK4,AWz,List.length_map,c5,v4,hK5,c6,v5,hK6,hs']
     exact finE _ rfl ⟨hN5,fun h=>absurd h (Nat.succ_ne_zero _),fun _=>hM6⟩
    ·have u5:∀s o q r τ,tu s o q 2 (x.Attrs.map TAttr.pv) r τ=modS s o q (AKz 2 r) false τ:=fun s o q r τ=>Edz (by simpa using hE5)
     have hN5:=hN4.nest hrow5 (j:=5) rfl (r:=(mkL Ahz x.Attrs (K5)).1.map TAttr.pv) (by simp only[List.length_map,AWz])
     simp only[List.set_set,List.set_cons_succ,List.set_cons_zero]at hN5
     have hM6:=hM5.nest hrow5 (j:=5) rfl (r:=(mkL Ahz x.Attrs (K5)).1.map TAttr.pv) (by simp only[List.length_map,AWz])
     simp only[List.set_set,List.set_cons_succ,List.set_cons_zero]at hM6
     simp only[u5]
     have c6:=hN5.cell
     simp only[APz]at c6
     rw[hs']at hN5 hM6
     simp only[go_sem,seval,h1,hlen,hcell,hg,hK,hw,List.length_set,w0,w1,w2,c1,c2,c3,c4,hrow3,hK4,AWz,List.length_map,c5,v4,hK5,c6,hrow5,hK6,AWz,List.length_map,hs']
     exact finE _ rfl ⟨hN5,fun h=>absurd h (Nat.succ_ne_zero _),fun _=>hM6⟩
   ·have u4:∀s o q r τ,tu s o q 2 (x.Ents.map TEnt.pv) r τ=modS s o q (AKz 2 r) false τ:=fun s o q r τ=>Edz (by simpa using hE4)
    have hN4:=hN3.nest hrow4 (j:=4) rfl (r:=(mkL mEnt x.Ents (K4)).1.map TEnt.pv) (by simp only[List.length_map,AWz])
    simp only[List.set_set,List.set_cons_succ,List.set_cons_zero]at hN4
    have hM5:=hM4.nest hrow4 (j:=4) rfl (r:=(mkL mEnt x.Ents (K4)).1.map TEnt.pv) (by simp only[List.length_map,AWz])
    simp only[List.set_set,List.set_cons_succ,List.set_cons_zero]at hM5
    simp only[u4]
    have c5:=hN4.cell
    simp only[APz]at c5
    have hrow5:((mkR AZz TInode.ov l k j).set j [.i .i64 ((K0:Nat):Int),.i .i64 ((K0+1:Nat):Int),.i .i64 ((K0+1+1:Nat):Int),.o 1 ((mkL mB x.Data (K0+1+1+1)).1.map bpv),.o 2 ((mkL mEnt x.Ents (K4)).1.map TEnt.pv),.o 2 (x.Attrs.map TAttr.pv)])[j]? =some [.i .i64 ((K0:Nat):Int),.i .i64 ((K0+1:Nat):Int),.i .i64 ((K0+1+1:Nat):Int),.o 1 ((mkL mB x.Data (K0+1+1+1)).1.map bpv),.o 2 ((mkL mEnt x.Ents (K4)).1.map TEnt.pv),.o 2 (x.Attrs.map TAttr.pv)]:=by rw[List.getElem?_set_self (by rw[hlen];exact hj)]
    have n5:=hN4.sub hrow5 (j:=5) rfl
    simp only[APz]at n5
    simp only[go_sem,seval,h1,hlen,hcell,hg,hK,hw,List.length_set,w0,w1,w2,c1,c2,c3,c4,hrow3,hK4,AWz,List.length_map,c5,hrow4,hK5,AWz,List.length_map]
    refine Bzz (Elz m (hd0 (by decide)) _ _ _ _ _ x.Attrs hox.Attrs.1 (K5) hox.Attrs.2 (by rw[hK6];omega) (by simp only[List.length_cons];omega) rfl (by simp only[go_sem,seval,n5])) ?_
    rcases Classical.em (x.Attrs=[])with hE5|hE5
    ·have v5:x.Attrs.map TAttr.pv=(mkL Ahz x.Attrs (K5)).1.map TAttr.pv:=by rw[hE5];rfl
     have u5:∀s o q r τ,tu s o q 2 ((mkL Ahz x.Attrs (K5)).1.map TAttr.pv) r τ=τ:=by rw[hE5];intros;rfl
     have hN5:=hN4
     rw[v5]at hN5
     have hM6:=hM5
     rw[v5]at hM6
     simp only[v5]
     simp only[u5]
     have c6:=hN5.cell
     simp only[APz]at c6
     rw[hs']at hN5 hM6
     simp only[go_sem,seval,h1,hlen,hcell,hg,hK,hw,List.length_set,w0,w1,w2,c1,c2,c3,c4,hrow3,hK4,AWz,List.length_map,c5,hrow4,hK5,AWz,List.length_map,c6,v5,hK6,hs']
     exact finE _ rfl ⟨hN5,fun h=>absurd h (Nat.succ_ne_zero _),fun _=>hM6⟩
    ·have u5:∀s o q r τ,tu s o q 2 (x.Attrs.map TAttr.pv) r τ=modS s o q (AKz 2 r) false τ:=fun s o q r τ=>Edz (by simpa using hE5)
     have hN5:=hN4.nest hrow5 (j:=5) rfl (r:=(mkL Ahz x.Attrs (K5)).1.map TAttr.pv) (by simp only[List.length_map,AWz])
     simp only[List.set_set,List.set_cons_succ,List.set_cons_zero]at hN5
     have hM6:=hM5.nest hrow5 (j:=5) rfl (r:=(mkL Ahz x.Attrs (K5)).1.map TAttr.pv) (by simp only[List.length_map,AWz])
     simp only[List.set_set,List.set_cons_succ,List.set_cons_zero]at hM6
     simp only[u5]
     have c6:=hN5.cell
     simp only[APz]at c6
     rw[hs']at hN5 hM6
     simp only[go_sem,seval,h1,hlen,hcell,hg,hK,hw,List.length_set,w0,w1,w2,c1,c2,c3,c4,hrow3,hK4,AWz,List.length_map,c5,hrow4,hK5,AWz,List.length_map,c6,hrow5,hK6,AWz,List.length_map,hs']
     exact finE _ rfl ⟨hN5,fun h=>absurd h (Nat.succ_ne_zero _),fun _=>hM6⟩
 ·have hlen:=B7z (f:=AZz) (pv:=TInode.ov) (l:=l) (k:=k) (Nat.le_refl _)
  have he:=hI.end (r0:=l.map TInode.ov) (by simp)
  simp only[go_sem,seval,hlen,List.take_length]
  refine Bzz (DJz (σ:=σk) ⟨by simp,rfl⟩ (by rw[hI.1.len];exact hd) hI.1.pl (by decide) rfl) ?_
  rw[he,G4z]
  rfl
def mVol (x:TVol) (k:Nat):TVol×Nat:=(⟨((k:Nat):Int),mTxt (k+1),((((k+1+1) % 3:Nat):Int)==0),((k+1+1+1:Nat):Int),(mkL AZz x.T.Inodes (k+1+1+1+1)).1,(((mkL AZz x.T.Inodes (k+1+1+1+1)).2:Nat):Int)⟩,(mkL AZz x.T.Inodes (k+1+1+1+1)).2+1)
theorem Vdz:∀x k,k≤(mVol x k).2:=by
 intro x k
 have g0:=FLz IXz (l:=x.T.Inodes) (k:=k+1+1+1+1)
 unfold mVol
 simp only
 omega
set_option maxHeartbeats 4000000 in
theorem O1z (n:Nat) (hn:Big+4≤n) (d s o:Nat) (q:Path) (σ:St) (l:List TVol) (ho:∀y∈l,TVol.ok y) (k:Nat) (hl:l.length≤Bd) (hk:(mkL mVol l k).2≤9223372036854775800) (hd:d<σ.length) (hp:plain (σ.getD d .undef)=true)
  (hc:(ABz σ s o).atQ q=some (false,6,l.map TVol.ov)):icall env n 70 d σ [.c .one [.br s o q 0 0 false 6 (l.map TVol.ov)],.c .one [.sh false (.i .i64 ((k:Nat):Int))]]=some ((tu s o q 6 (l.map TVol.ov) ((mkL mVol l k).1.map TVol.ov) σ).set d (.c .one [.sh false (.i .i64 (((mkL mVol l k).2:Nat):Int))]),.c .one [.sh false (.i .i64 (((mkL mVol l k).2:Nat):Int))]):=by
 refine HHz (fn:=Tryz.f70) (d0:=3) hn rfl rfl (Nat.le_of_ble_eq_true rfl) fun m hd0=> ?_
 unfold Tryz.f70
 have hb:Bd=1048576:=rfl
 have hT:=fun k hk=>Gtz m (hd0 (by decide)) k hk
 simp only[go_sem,seval]
 refine H3z l.length (fun j σk=>slots 60 [(0,.c .one [.br (s+60) o q 0 0 false 6 (mkR mVol TVol.ov l k j)]),(1,.c .one [.sh false (.i .i64 (((mkL mVol (l.take j) k).2:Nat):Int))]),(5,.c .one [.sh false (.i .i64 ((j:Nat):Int))])]++upSt 60 σk) (Rnd s o q 6 d σ (mkR mVol TVol.ov l k)) (hd0 (Nat.zero_le _)) (by omega) ?_ (fun j σk hj h1 hw hI=> ?_) (fun σk hI=> ?_)
 ·simp only[go_sem,seval]
  exact finE σ (by rw[Cuz];rfl) ⟨.refl (by rw[Cuz];exact hc) hp,fun _=>rfl,fun h=>absurd h (Nat.lt_irrefl _)⟩
 ·have hx:l[j]? =some l[j]:=List.getElem?_eq_getElem hj
  have hox:=ho _ (List.getElem_mem hj)
  generalize l[j]=x at hx hox
  have hW:=hI.1
  have hcell:=hW.cell
  have hg:=G3z (f:=mVol) (pv:=TVol.ov) (k:=k) hx
  have hlen:=B7z (f:=mVol) (pv:=TVol.ov) (k:=k) (Nat.le_of_lt hj)
  have hm:=(DHz (f:=mVol) Vdz (l:=l) (k:=k) (j:=j+1)).2
  have ht:(mkL mVol (l.take (j+1)) k).2=(mVol x (mkL mVol (l.take j) k).2).2:=by rw[Dcz hx]
  have hs:∀p,p=TVol.ov (mVol x (mkL mVol (l.take j) k).2).1→(mkR mVol TVol.ov l k j).set j p=mkR mVol TVol.ov l k (j+1):=fun p hp=>G2z hx hp
  have hr:(mkR mVol TVol.ov l k (j+1)).length=(mkR mVol TVol.ov l k j).length:=by rw[hlen,B7z hj]
  obtain⟨K0,hK⟩:∃K,(mkL mVol (l.take j) k).2=K:=⟨_,rfl⟩
  rw[hK]at hs ht
  obtain⟨K5,hK5⟩:∃K,(mkL AZz x.T.Inodes (K0+1+1+1+1)).2=K:=⟨_,rfl⟩
  have ge4:=FLz IXz (l:=x.T.Inodes) (k:=K0+1+1+1+1)
  rw[hK5]at ge4
  have ht':(mkL mVol (l.take (j+1)) k).2=K5+1:=by rw[ht];simp only[mVol,hK5]
  have hs':(mkR mVol TVol.ov l k j).set j [.i .i64 ((K0:Nat):Int),.t (mTxt (K0+1)),.b ((((K0+1+1) % 3:Nat):Int)==0),.i .i64 ((K0+1+1+1:Nat):Int),.o 6 ((mkL AZz x.T.Inodes (K0+1+1+1+1)).1.map TInode.ov),.i .i64 ((K5:Nat):Int)]=mkR mVol TVol.ov l k (j+1):=hs _ (by simp only[mVol,TVol.ov,hK5])
  have w0:IntKind.i64.wrap (((K0:Nat):Int)+1)=((K0+1:Nat):Int):=by rw[ARz (by omega) (by omega)];omega
  have w1:IntKind.i64.wrap (((K0+1:Nat):Int)+1)=((K0+1+1:Nat):Int):=by rw[ARz (by omega) (by omega)];omega
  have t1:=hT (K0+1) (by omega)
  have w2:IntKind.i64.wrap (((K0+1+1:Nat):Int)+1)=((K0+1+1+1:Nat):Int):=by rw[ARz (by omega) (by omega)];omega
  have b2:((K0+1+1:Nat):Int).tmod 3=(((K0+1+1) % 3:Nat):Int):=rfl
  have w3:IntKind.i64.wrap (((K0+1+1+1:Nat):Int)+1)=((K0+1+1+1+1:Nat):Int):=by rw[ARz (by omega) (by omega)];omega
  have w5:IntKind.i64.wrap (((K5:Nat):Int)+1)=(((mkL mVol (l.take (j+1)) k).2:Nat):Int):=by rw[ht'];rw[ARz (by omega) (by omega)];omega
  have hW1:=hW.store (r:=(mkR mVol TVol.ov l k j).set j [.i .i64 ((K0:Nat):Int),.t x.Name,.b x.Ro,.i .i64 x.Limit,.o 6 (x.T.Inodes.map TInode.ov),.i .i64 x.T.Next]) (by simp only[List.length_set])
  have c1:=hW1.cell
  simp only[APz]at c1
  have hW2:=hW1.store (r:=(mkR mVol TVol.ov l k j).set j [.i .i64 ((K0:Nat):Int),.t (mTxt (K0+1)),.b x.Ro,.i .i64 x.Limit,.o 6 (x.T.Inodes.map TInode.ov),.i .i64 x.T.Next]) (by simp only[List.length_set])
  have c2:=hW2.cell
  simp only[APz]at c2
  have hW3:=hW2.store (r:=(mkR mVol TVol.ov l k j).set j [.i .i64 ((K0:Nat):Int),.t (mTxt (K0+1)),.b ((((K0+1+1) % 3:Nat):Int)==0),.i .i64 x.Limit,.o 6 (x.T.Inodes.map TInode.ov),.i .i64 x.T.Next]) (by simp only[List.length_set])
  have c3:=hW3.cell
  simp only[APz]at c3
  have hW4:=hW3.store (r:=(mkR mVol TVol.ov l k j).set j [.i .i64 ((K0:Nat):Int),.t (mTxt (K0+1)),.b ((((K0+1+1) % 3:Nat):Int)==0),.i .i64 ((K0+1+1+1:Nat):Int),.o 6 (x.T.Inodes.map TInode.ov),.i .i64 x.T.Next]) (by simp only[List.length_set])
  have c4:=hW4.cell
  simp only[APz]at c4
  have hrow4:((mkR mVol TVol.ov l k j).set j [.i .i64 ((K0:Nat):Int),.t (mTxt (K0+1)),.b ((((K0+1+1) % 3:Nat):Int)==0),.i .i64 ((K0+1+1+1:Nat):Int),.o 6 (x.T.Inodes.map TInode.ov),.i .i64 x.T.Next])[j]? =some [.i .i64 ((K0:Nat):Int),.t (mTxt (K0+1)),.b ((((K0+1+1) % 3:Nat):Int)==0),.i .i64 ((K0+1+1+1:Nat):Int),.o 6 (x.T.Inodes.map TInode.ov),.i .i64 x.T.Next]:=by rw[List.getElem?_set_self (by rw[hlen];exact hj)]
  have n4:=hW4.sub hrow4 (j:=4) rfl
  simp only[APz]at n4
  simp only[go_sem,seval,h1,hlen,hcell,hg,hK,hw,List.length_set,w0,w1,t1,w2,b2,w3,w5,c1,c2,c3,c4]
  refine Bzz (MYz m (hd0 (by decide)) _ _ _ _ _ x.T.Inodes hox.T.Inodes.1 (K0+1+1+1+1) hox.T.Inodes.2 (by rw[hK5];omega) (by simp only[List.length_cons];omega) rfl (by simp only[go_sem,seval,n4])) ?_
  rcases Classical.em (x.T.Inodes=[])with hE4|hE4
  ·have v4:x.T.Inodes.map TInode.ov=(mkL AZz x.T.Inodes (K0+1+1+1+1)).1.map TInode.ov:=by rw[hE4];rfl
   have u4:∀s o q r τ,tu s o q 6 ((mkL AZz x.T.Inodes (K0+1+1+1+1)).1.map TInode.ov) r τ=τ:=by rw[hE4];intros;rfl
   have hN4:=hW4
   rw[v4]at hN4
   simp only[v4]
   simp only[u4]
   have c5:=hN4.cell
   simp only[APz]at c5
   simp only[go_sem,seval,h1,hlen,hcell,hg,hK,hw,List.length_set,w0,w1,t1,w2,b2,w3,w5,c1,c2,c3,c4,c5,v4,hK5,hs']
   exact finE _ rfl ⟨hN4.store (by simp only[List.length_set,hr]),fun h=>absurd h (Nat.succ_ne_zero _),fun _=>hN4.nrm (by simp only[List.length_set,hr])⟩
  ·have u4:∀s o q r τ,tu s o q 6 (x.T.Inodes.map TInode.ov) r τ=modS s o q (AKz 6 r) false τ:=fun s o q r τ=>Edz (by simpa using hE4)
   have hN4:=hW4.nest hrow4 (j:=4) rfl (r:=(mkL AZz x.T.Inodes (K0+1+1+1+1)).1.map TInode.ov) (by simp only[List.length_map,AWz])
   simp only[List.set_set,List.set_cons_succ,List.set_cons_zero]at hN4
   simp only[u4]
   have c5:=hN4.cell
   simp only[APz]at c5
   simp only[go_sem,seval,h1,hlen,hcell,hg,hK,hw,List.length_set,w0,w1,t1,w2,b2,w3,w5,c1,c2,c3,c4,c5,hrow4,hK5,AWz,List.length_map,hs']
   exact finE _ rfl ⟨hN4.store (by simp only[List.length_set,hr]),fun h=>absurd h (Nat.succ_ne_zero _),fun _=>hN4.nrm (by simp only[List.length_set,hr])⟩
 ·have hlen:=B7z (f:=mVol) (pv:=TVol.ov) (l:=l) (k:=k) (Nat.le_refl _)
  have he:=hI.end (r0:=l.map TVol.ov) (by simp)
  simp only[go_sem,seval,hlen,List.take_length]
  refine Bzz (DJz (σ:=σk) ⟨by simp,rfl⟩ (by rw[hI.1.len];exact hd) hI.1.pl (by decide) rfl) ?_
  rw[he,G4z]
  rfl
set_option maxHeartbeats 4000000 in
theorem Nuz (n:Nat) (hn:Big+1≤n) (l:List UInt8) (ho:∀y∈l,okB y) (k:Nat) (hl:l.length≤Bd) (hk:(mkL mB l k).2≤9223372036854775800):pcall env n 25 [.c .one [.sh true (.s 1 ((mkL mB l k).1.map bpv))],.c .one [.sh false (.i .i64 ((k:Nat):Int))]] []=some ⟨.c .one [.sh false (.i .i64 (((mkL mB l k).2:Nat):Int))],[]⟩:=by
 refine walk (fn:=Tryz.f25) (d:=0) hn rfl rfl rfl (Nat.le_of_ble_eq_true rfl) fun m hd0=> ?_
 unfold Tryz.f25
 have hb:Bd=1048576:=rfl
 simp only[go_sem,seval]
 refine A5z l (fun j=>slots 22 [(0,.c .one [.sh true (.s 1 ((mkL mB l k).1.map bpv))]),(1,.c .one [.sh false (.i .i64 (((mkL mB (l.take j) k).2:Nat):Int))]),(5,.c .one [.sh false (.i .i64 ((j:Nat):Int))])]) (fun _=>True) (hd0 (Nat.zero_le _)) (by omega) ?_ (fun j x hx hm hj h1 hw _=> ?_) (fun _=> ?_)
 ·simp only[go_sem,seval];exact fin' rfl
 ·have hox:=ho _ hm
  have hg:=Phz (f:=mB) (k:=k) hx
  have hle:=(DHz (f:=mB) Mez (l:=l) (k:=k) (j:=j+1)).2
  have ht:(mkL mB (l.take (j+1)) k).2=(mB x (mkL mB (l.take j) k).2).2:=by rw[Dcz hx]
  obtain⟨K0,hK⟩:∃K,(mkL mB (l.take j) k).2=K:=⟨_,rfl⟩
  rw[hK]at hg ht
  have ht':(mkL mB (l.take (j+1)) k).2=K0+1:=by rw[ht];simp only[mB]
  simp only[mB,mB]at hg
  have w0:IntKind.i64.wrap (((K0:Nat):Int)+1)=(((mkL mB (l.take (j+1)) k).2:Nat):Int):=by rw[ht'];rw[ARz (by omega) (by omega)];omega
  simp only[go_sem,seval,h1,hg,hK,hw,AWz,List.length_map,w0,u8w]
  exact fin' rfl
 ·simp only[go_sem,seval,AWz,List.length_map,List.take_length]
end Go.Proofs.YtblelojdboefjaaGreatDoor.R
namespace Go.Proofs.YtblelojdboefjaaGreatDoor.R
open Go
theorem Uwz {α:Type} {f:α→Nat→α×Nat} {c:Nat}:∀(l:List α) (k:Nat),(∀x∈l,∀k,(f x k).2≤k+c)→(mkL f l k).2≤k+l.length*c
 |[],k,_=>by simp[mkL]
 |x::l,k,hf=>by
  have h1:=hf x List.mem_cons_self k
  have h2:=Uwz l (f x k).2 fun y hy=>hf y (List.mem_cons_of_mem _ hy)
  simp only[mkL,List.length_cons,Nat.succ_mul]
  omega
theorem I0z {α:Type} {f:α→Nat→α×Nat} {c b:Nat} {l:List α} {k:Nat} (hf:∀x∈l,∀k,(f x k).2≤k+c) (hl:l.length≤b):(mkL f l k).2≤k+b*c:=
 Nat.le_trans (Uwz l k hf) (Nat.add_le_add_left (Nat.mul_le_mul_right _ hl) _)
end Go.Proofs.YtblelojdboefjaaGreatDoor.R
namespace Go.Proofs.YtblelojdboefjaaGreatDoor.R
open Go
def mFs (x:TFs) (k:Nat):Nat:=(mkL mVol x.Vols k).2
set_option maxHeartbeats 1000000 in
theorem SDz (n:Nat) (hn:Big+6≤n) (d s:Nat) (σ:St) (x:TFs) (hx:x.ok) (k:Nat) (hk:mFs x k≤9223372036854775800) (hd:d<σ.length) (hp:plain (σ.getD d .undef)=true) (hc0:ABz σ s 0= .ow false 6 (x.Vols.map TVol.ov)):
  icall env n 23 d σ [.c .agg [.br s 0 [] 0 0 false 6 (x.Vols.map TVol.ov),.sh false (.i .i64 x.Next)],.c .one [.sh false (.i .i64 (k:Nat))]]=some ((tu s 0 [] 6 (x.Vols.map TVol.ov) ((mkL mVol x.Vols k).1.map TVol.ov) σ).set d (.c .one [.sh false (.i .i64 ((mFs x k:Nat)))]),.c .one [.sh false (.i .i64 ((mFs x k:Nat)))]):=by
 refine HHz (fn:=Tryz.f23) (d0:=5) hn rfl rfl (Nat.le_of_ble_eq_true rfl) fun m hd0=> ?_
 unfold Tryz.f23
 have hb:Bd=1048576:=rfl
 unfold mFs at hk ⊢
 obtain⟨K,hK⟩:∃K,(mkL mVol x.Vols k).2=K:=⟨_,rfl⟩
 rw[hK]at hk ⊢
 simp only[go_sem,seval,hc0]
 refine Bzz (O1z m (hd0 (by decide)) _ _ _ _ _ x.Vols hx.Vols.1 k hx.Vols.2 (by rw[hK];omega) (by simp only[List.length_cons];omega) rfl (by simp only[go_sem,seval,hc0])) ?_
 rcases Classical.em (x.Vols=[])with hE|hE
 ·have u:∀s o q r τ,tu s o q 6 (x.Vols.map TVol.ov) r τ=τ:=by rw[hE];intros;rfl
  simp only[u]
  simp only[go_sem,seval,hc0,hK]
  refine Bzz (DJz (σ:=_) (τ:=_) ⟨by simp,rfl⟩ (by simp only[go_sem,seval,E1z,hd]) (by first|exact hp|exact Ekz hp) (by decide) rfl) ?_
  show Eq _ _
  rw[u]
  all_goals rfl
 ·have u:∀s o q r τ,tu s o q 6 (x.Vols.map TVol.ov) r τ=modS s o q (AKz 6 r) false τ:=fun s o q r τ=>Edz (by simpa using hE)
  simp only[u]
  simp only[go_sem,seval,hc0,AWz,List.length_map,hK]
  refine Bzz (DJz (σ:=_) (τ:=_) ⟨by simp,rfl⟩ (by simp only[go_sem,seval,E1z,hd]) (by first|exact hp|exact Ekz hp) (by decide) rfl) ?_
  show Eq _ _
  rw[u]
  all_goals rfl
theorem Qgz {l:List TInode} (h:∀e∈l,e.ok) (hl:l.length≤Bd) (k:Nat):(mkL AZz l k).2≤k+5497561284608:=by
 refine I0z (c:=5242883) (b:=1048576) (fun e he k=> ?_) hl
 have hb:Bd=1048576:=rfl
 have h1:=I0z (f:=mB) (c:=1) (l:=e.Data) (k:=k+1+1+1) (fun x _ k=>Nat.le_refl _) (h e he).Data.2
 have h2:=I0z (f:=mEnt) (c:=2) (l:=e.Ents) (k:=(mkL mB e.Data (k+1+1+1)).2) (fun x _ k=>Nat.le_refl _) (h e he).Ents.2
 have h3:=I0z (f:=Ahz) (c:=2) (l:=e.Attrs) (k:=(mkL mEnt e.Ents (mkL mB e.Data (k+1+1+1)).2).2) (fun x _ k=>Nat.le_refl _) (h e he).Attrs.2
 simp only[AZz]
 omega
theorem XAz {x:TFs} (hx:x.ok) {k:Nat}:mFs x k≤k+5764610821574361088:=by
 unfold mFs
 refine I0z (c:=5497561284613) (b:=1048576) (fun e he k=> ?_) hx.Vols.2
 have ho:=(hx.Vols.1 e he).T.Inodes
 have h1:=Qgz ho.1 ho.2 (k+1+1+1+1)
 simp only[mVol]
 omega
theorem VLz {α:Type} {pv:α→List PV} {es:Nat} (l:List α):(∀s o q r τ,tu s o q es (l.map pv) r τ=τ)∨(∀s o q r τ,tu s o q es (l.map pv) r τ=modS s o q (AKz es r) false τ):=by
 rcases Classical.em (l=[])with hE|hE
 ·exact .inl (by rw[hE];intros;rfl)
 ·exact .inr fun s o q r τ=>Edz (by simpa using hE)
end Go.Proofs.YtblelojdboefjaaGreatDoor.R
namespace Go.Proofs.YtblelojdboefjaaGreatDoor.R
open Go
theorem VUz (d:TDelta):(putD d).length≤20000:=by
 unfold putD
 split
 ·split
  ·exact Nat.zero_le _
  ·rename_i h;exact Nat.le_of_not_lt h
 ·exact Nat.zero_le _
theorem Rqz {z:Bool} {ka kb:Int} {o:List UInt8} (h:o.length≤20000):(BBz z ka kb o).1.length≤20000:=by
 unfold BBz
 split
 ·exact Nat.zero_le _
 ·split
  ·exact Nat.zero_le _
  ·split
   ·exact Nat.zero_le _
   ·exact h
theorem Tjz (x:TFs) (a b:Int):(HPz x a b).1.length≤20000:=by
 unfold HPz
 split
 ·exact Nat.zero_le _
 ·exact Rqz (VUz _)
set_option maxHeartbeats 8000000 in
theorem Qjz (n:Nat) (hn:Big+2000001≤n) (x:TFs) (hx:x.ok) (a:Int) (_:inR a) (b:Int) (_:inR b):pcall env n 4 [.c .agg (x.pv.map AMz),.c .one [.sh false (.i .i64 (a))],.c .one [.sh false (.i .i64 (b))]] []=some ⟨pvSV (.b true),[]⟩:=by
 refine walk (fn:=Tryz.f4) (d:=2000000) hn rfl rfl rfl (Nat.le_of_ble_eq_true rfl) fun m hd=> ?_
 unfold Tryz.f4
 obtain⟨g,c0⟩:=VNz m (hd (by decide)) x hx
 have c1:=VMz m (hd (by decide)) x hx
 have c2:=Tkz m (hd (by decide)) x hx a b
 have c3:=Tlz m (hd (by decide)) x hx a b
 have c4:=Vvz m (hd (by decide)) x hx
 have hl:=Tjz x a b
 have hb:Bd=1048576:=rfl
 generalize HPz x a b=P at c2 c3 hl
 obtain⟨L,c⟩:=P
 simp only at hl
 have c5:=Ktz m (hd (by decide)) L (fun _ _=>trivial) (by omega)
 simp only[go_sem,A0z]at c0 c1 c2 c3 c4 c5
 simp only[go_sem,seval,c0,c1,c2,c3,c4,c5]
 refine Czz (fun h=> ?_) (fun h=> ?_)
 ·simp only[go_sem,seval,h]
 ·simp only[go_sem,seval,h,c0,c1,c2,c3,c4,c5]
  refine chk (by kernel_rfl) ?_
  have hk:=XAz hx (k:=1)
  refine Bzz (SDz m (hd (by decide)) _ _ _ x hx 1 (by omega) (by simp only[List.length_cons];omega) rfl rfl) ?_
  have hM:(mkL mB L 1).2≤9223372036854775800:=by have:=I0z (f:=mB) (c:=1) (l:=L) (k:=1) (fun x _ k=>Nat.le_refl _) hl;omega
  have g1:=Nuz m (hd (by decide)) L (fun _ _=>trivial) 1 (by omega) hM
  simp only[go_sem]at g1
  generalize mFs x 1=KD
  rcases VLz (pv:=TVol.ov) (es:=6) x.Vols with t0|t0
  all_goals
   simp only[t0]
   simp only[go_sem,seval,LQz,c5,AWz,List.length_map]
   refine Bzz (IYz m (hd (by decide)) _ _ _ _ _ L (fun _ _=>trivial) 1 (by omega) hM (by simp only[List.length_cons];omega) rfl rfl) ?_
   rcases Classical.em (L=[])with hE|hE
   ·have v:L.map bpv=(mkL mB L 1).1.map bpv:=by rw[hE];rfl
    have u:∀s o q r τ,tu s o q 1 ((mkL mB L 1).1.map bpv) r τ=τ:=by rw[hE];intros;rfl
    rw[v]at c3 c5
    simp only[v]
    simp only[u]
    generalize(mkL mB L 1).1=R at g1 c3 c5
    generalize(mkL mB L 1).2=K at g1
    simp only[go_sem,seval,LQz,c1,c3,c5,g1]
   ·have u:∀s o q r τ,tu s o q 1 (L.map bpv) r τ=modS s o q (AKz 1 r) false τ:=fun s o q r τ=>Edz (by simpa using hE)
    simp only[u]
    simp only[go_sem,seval,LQz,c1,c3,c5,g1,AWz,List.length_map]
end Go.Proofs.YtblelojdboefjaaGreatDoor.R
