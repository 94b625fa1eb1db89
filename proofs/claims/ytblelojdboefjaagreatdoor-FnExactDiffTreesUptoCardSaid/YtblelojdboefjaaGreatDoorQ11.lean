/- A tree marked; how far marks go. -/
import Derived.Test.YtblelojdboefjaaGreatDoorQ10
set_option linter.all false
set_option maxRecDepth 100000
namespace Go.Proofs.YtblelojdboefjaaGreatDoor.R
open Go
def mTab (x:TTab) (k:Nat):Nat:=(mkL Afz x.Inodes k).2
set_option maxHeartbeats 1000000 in
theorem Jfz (n:Nat) (hn:Big+5≤n) (d s:Nat) (σ:St) (x:TTab) (hx:x.ok) (k:Nat) (hk:mTab x k≤4611686018427387904) (hd:d<σ.length) (hp:plain (σ.getD d .undef)=true) (hc0:AAz σ s 0= .ow false 6 (x.Inodes.map TInode.ov)):
  icall env n 14 d σ [.c .agg [.br s 0 [] 0 0 false 6 (x.Inodes.map TInode.ov),.sh false (.i .i64 x.Next)],.c .one [.sh false (.i .i64 (k:Nat))]]=some ((tu s 0 [] 6 (x.Inodes.map TInode.ov) ((mkL Afz x.Inodes k).1.map TInode.ov) σ).set d (.c .one [.sh false (.i .i64 ((mTab x k:Nat)))]),.c .one [.sh false (.i .i64 ((mTab x k:Nat)))]):=by
 refine E0z (fn:=Tryz.f14) (d0:=4) hn rfl rfl (Nat.le_of_ble_eq_true rfl) fun m hd0=> ?_
 unfold Tryz.f14
 have hb:Bd=1048576:=rfl
 unfold mTab at hk ⊢
 obtain⟨K,hK⟩:∃K,(mkL Afz x.Inodes k).2=K:=⟨_,rfl⟩
 rw[hK]at hk ⊢
 simp only[go_sem,Nat.reduceLT,Nat.reduceAdd,Nat.reduceSub,Nat.reduceEqDiff,Nat.reduceLeDiff,Int.reduceEq,Int.reduceBEq,Int.reduceBNe,Int.reduceNeg,UInt8.reduceToNat,Nat.reduceBEq,hc0]
 refine Auz (LXz m (hd0 (by decide)) _ _ _ _ _ x.Inodes hx.Inodes.1 k hx.Inodes.2 (by rw[hK];omega) (by simp only[List.length_cons];omega) rfl (by simp only[go_sem,Nat.reduceLT,Nat.reduceAdd,Nat.reduceSub,Nat.reduceEqDiff,Nat.reduceLeDiff,Int.reduceEq,Int.reduceBEq,Int.reduceBNe,Int.reduceNeg,UInt8.reduceToNat,Nat.reduceBEq,hc0])) ?_
 rcases Classical.em (x.Inodes=[])with hE|hE
 ·have u:∀s o q r τ,tu s o q 6 (x.Inodes.map TInode.ov) r τ=τ:=by rw[hE];intros;rfl
  simp only[u]
  simp only[go_sem,Nat.reduceLT,Nat.reduceAdd,Nat.reduceSub,Nat.reduceEqDiff,Nat.reduceLeDiff,Int.reduceEq,Int.reduceBEq,Int.reduceBNe,Int.reduceNeg,UInt8.reduceToNat,Nat.reduceBEq,hc0,hK]
  refine Auz (A8z (σ:=_) (τ:=_) ⟨by simp,rfl⟩ (by simp only[go_sem,Nat.reduceLT,Nat.reduceAdd,Nat.reduceSub,Nat.reduceEqDiff,Nat.reduceLeDiff,Int.reduceEq,Int.reduceBEq,Int.reduceBNe,Int.reduceNeg,UInt8.reduceToNat,Nat.reduceBEq,Bfz,hd]) (by first|exact hp|exact AJz hp) (by decide) rfl) ?_
  show Eq _ _
  rw[u]
  all_goals rfl
 ·have u:∀s o q r τ,tu s o q 6 (x.Inodes.map TInode.ov) r τ=modS s o q (AHz 6 r) false τ:=fun s o q r τ=>Bnz (by simpa using hE)
  simp only[u]
  simp only[go_sem,Nat.reduceLT,Nat.reduceAdd,Nat.reduceSub,Nat.reduceEqDiff,Nat.reduceLeDiff,Int.reduceEq,Int.reduceBEq,Int.reduceBNe,Int.reduceNeg,UInt8.reduceToNat,Nat.reduceBEq,hc0,AQz,List.length_map,hK]
  refine Auz (A8z (σ:=_) (τ:=_) ⟨by simp,rfl⟩ (by simp only[go_sem,Nat.reduceLT,Nat.reduceAdd,Nat.reduceSub,Nat.reduceEqDiff,Nat.reduceLeDiff,Int.reduceEq,Int.reduceBEq,Int.reduceBNe,Int.reduceNeg,UInt8.reduceToNat,Nat.reduceBEq,Bfz,hd]) (by first|exact hp|exact AJz hp) (by decide) rfl) ?_
  show Eq _ _
  rw[u]
  all_goals rfl
theorem Sxz {α:Type} {f:α→Nat→α×Nat} {c:Nat}:∀(l:List α) (k:Nat),(∀x∈l,∀k,(f x k).2≤k+c)→(mkL f l k).2≤k+l.length*c
 |[],k,_=>by simp[mkL]
 |x::l,k,hf=>by
  have h1:=hf x List.mem_cons_self k
  have h2:=Sxz l (f x k).2 fun y hy=>hf y (List.mem_cons_of_mem _ hy)
  simp only[mkL,List.length_cons,Nat.succ_mul]
  omega
theorem Fyz {α:Type} {f:α→Nat→α×Nat} {c b:Nat} {l:List α} {k:Nat} (hf:∀x∈l,∀k,(f x k).2≤k+c) (hl:l.length≤b):(mkL f l k).2≤k+b*c:=
 Nat.le_trans (Sxz l k hf) (Nat.add_le_add_left (Nat.mul_le_mul_right _ hl) _)
theorem OHz {x:TTab} (hx:x.ok) {k:Nat}:mTab x k≤k+8796093022208:=by
 unfold mTab
 refine Fyz (c:=8388608) (b:=1048576) (fun e he k=> ?_) hx.Inodes.2
 have hb:Bd=1048576:=rfl
 have h1:=Fyz (f:=mB) (c:=1) (l:=e.Data) (k:=k+1+1+1) (fun x _ k=>Nat.le_refl _) (hx.Inodes.1 e he).Data.2
 have h2:=Fyz (f:=mEnt) (c:=2) (l:=e.Ents) (k:=(mkL mB e.Data (k+1+1+1)).2) (fun x _ k=>Nat.le_refl _) (hx.Inodes.1 e he).Ents.2
 have h3:=Fyz (f:=ANz) (c:=2) (l:=e.Attrs) (k:=(mkL mEnt e.Ents (mkL mB e.Data (k+1+1+1)).2).2) (fun x _ k=>Nat.le_refl _) (hx.Inodes.1 e he).Attrs.2
 simp only[Afz]
 omega
end Go.Proofs.YtblelojdboefjaaGreatDoor.R
namespace Go.Proofs.YtblelojdboefjaaGreatDoor.R
open Go
def Dpz (x:TDelta) (k:Nat):Nat:=(mkL ATz x.Fresh (mkL mS x.Gone (mkL ANz x.Attrs k).2).2).2
set_option maxHeartbeats 4000000 in
theorem MOz (n:Nat) (hn:Big+4≤n) (d s:Nat) (σ:St) (x:TDelta) (hx:x.ok) (k:Nat) (hk:Dpz x k≤4611686018427387904) (hd:d<σ.length) (hp:plain (σ.getD d .undef)=true)
  (hc0:AAz σ s 0= .ow false 2 (x.Attrs.map TAttr.pv)) (hc1:AAz σ s 1= .ow false 1 (x.Gone.map spv)) (hc2:AAz σ s 2= .ow false 5 (x.Fresh.map TEntry.ov)):
  icall env n 15 d σ [.c .agg [.br s 0 [] 0 0 false 2 (x.Attrs.map TAttr.pv),.br s 1 [] 0 0 false 1 (x.Gone.map spv),.br s 2 [] 0 0 false 5 (x.Fresh.map TEntry.ov)],.c .one [.sh false (.i .i64 (k:Nat))]]
   =some ((tu s 2 [] 5 (x.Fresh.map TEntry.ov) ((mkL ATz x.Fresh (mkL mS x.Gone (mkL ANz x.Attrs k).2).2).1.map TEntry.ov) (tu s 1 [] 1 (x.Gone.map spv) ((mkL mS x.Gone (mkL ANz x.Attrs k).2).1.map spv) (tu s 0 [] 2 (x.Attrs.map TAttr.pv) ((mkL ANz x.Attrs k).1.map TAttr.pv) σ))).set d (.c .one [.sh false (.i .i64 ((Dpz x k:Nat)))]),.c .one [.sh false (.i .i64 ((Dpz x k:Nat)))]):=by
 refine E0z (fn:=Tryz.f15) (d0:=3) hn rfl rfl (Nat.le_of_ble_eq_true rfl) fun m hd0=> ?_
 unfold Tryz.f15
 have hb:Bd=1048576:=rfl
 unfold Dpz at hk ⊢
 obtain⟨K1,hK1⟩:∃K,(mkL ANz x.Attrs k).2=K:=⟨_,rfl⟩
 rw[hK1]at hk ⊢
 obtain⟨K2,hK2⟩:∃K,(mkL mS x.Gone K1).2=K:=⟨_,rfl⟩
 rw[hK2]at hk ⊢
 obtain⟨K3,hK3⟩:∃K,(mkL ATz x.Fresh K2).2=K:=⟨_,rfl⟩
 rw[hK3]at hk ⊢
 have ge1:=Btz C3z (l:=x.Attrs) (k:=k)
 have ge2:=Btz Lez (l:=x.Gone) (k:=K1)
 have ge3:=Btz Fxz (l:=x.Fresh) (k:=K2)
 rw[hK1]at ge1
 rw[hK2]at ge2
 rw[hK3]at ge3
 simp only[go_sem,Nat.reduceLT,Nat.reduceAdd,Nat.reduceSub,Nat.reduceEqDiff,Nat.reduceLeDiff,Int.reduceEq,Int.reduceBEq,Int.reduceBNe,Int.reduceNeg,UInt8.reduceToNat,Nat.reduceBEq,hc0,hc1,hc2]
 refine Auz (CSz m (hd0 (by decide)) _ _ _ _ _ x.Attrs hx.Attrs.1 k hx.Attrs.2 (by rw[hK1];omega) (by simp only[List.length_cons];omega) rfl (by simp only[go_sem,Nat.reduceLT,Nat.reduceAdd,Nat.reduceSub,Nat.reduceEqDiff,Nat.reduceLeDiff,Int.reduceEq,Int.reduceBEq,Int.reduceBNe,Int.reduceNeg,UInt8.reduceToNat,Nat.reduceBEq,hc0,hc1,hc2])) ?_
 rcases Classical.em (x.Attrs=[])with hE0|hE0
 ·have u0:∀s o q r τ,tu s o q 2 (x.Attrs.map TAttr.pv) r τ=τ:=by rw[hE0];intros;rfl
  simp only[u0]
  simp only[go_sem,Nat.reduceLT,Nat.reduceAdd,Nat.reduceSub,Nat.reduceEqDiff,Nat.reduceLeDiff,Int.reduceEq,Int.reduceBEq,Int.reduceBNe,Int.reduceNeg,UInt8.reduceToNat,Nat.reduceBEq,hc0,hc1,hc2,hK1]
  refine Auz (GYz m (hd0 (by decide)) _ _ _ _ _ x.Gone hx.Gone.1 K1 hx.Gone.2 (by rw[hK2];omega) (by simp only[List.length_cons];omega) rfl (by simp only[go_sem,Nat.reduceLT,Nat.reduceAdd,Nat.reduceSub,Nat.reduceEqDiff,Nat.reduceLeDiff,Int.reduceEq,Int.reduceBEq,Int.reduceBNe,Int.reduceNeg,UInt8.reduceToNat,Nat.reduceBEq,hc0,hc1,hc2])) ?_
  rcases Classical.em (x.Gone=[])with hE1|hE1
  ·have u1:∀s o q r τ,tu s o q 1 (x.Gone.map spv) r τ=τ:=by rw[hE1];intros;rfl
   simp only[u1]
   simp only[go_sem,Nat.reduceLT,Nat.reduceAdd,Nat.reduceSub,Nat.reduceEqDiff,Nat.reduceLeDiff,Int.reduceEq,Int.reduceBEq,Int.reduceBNe,Int.reduceNeg,UInt8.reduceToNat,Nat.reduceBEq,hc0,hc1,hc2,hK1,hK2]
   refine Auz (Dxz m (hd0 (by decide)) _ _ _ _ _ x.Fresh hx.Fresh.1 K2 hx.Fresh.2 (by rw[hK3];omega) (by simp only[List.length_cons];omega) rfl (by simp only[go_sem,Nat.reduceLT,Nat.reduceAdd,Nat.reduceSub,Nat.reduceEqDiff,Nat.reduceLeDiff,Int.reduceEq,Int.reduceBEq,Int.reduceBNe,Int.reduceNeg,UInt8.reduceToNat,Nat.reduceBEq,hc0,hc1,hc2])) ?_
   rcases Classical.em (x.Fresh=[])with hE2|hE2
   ·have u2:∀s o q r τ,tu s o q 5 (x.Fresh.map TEntry.ov) r τ=τ:=by rw[hE2];intros;rfl
    simp only[u2]
    simp only[go_sem,Nat.reduceLT,Nat.reduceAdd,Nat.reduceSub,Nat.reduceEqDiff,Nat.reduceLeDiff,Int.reduceEq,Int.reduceBEq,Int.reduceBNe,Int.reduceNeg,UInt8.reduceToNat,Nat.reduceBEq,hc0,hc1,hc2,hK1,hK2,hK3]
    refine Auz (A8z (σ:=_) (τ:=_) ⟨by simp,rfl⟩ (by simp only[go_sem,Nat.reduceLT,Nat.reduceAdd,Nat.reduceSub,Nat.reduceEqDiff,Nat.reduceLeDiff,Int.reduceEq,Int.reduceBEq,Int.reduceBNe,Int.reduceNeg,UInt8.reduceToNat,Nat.reduceBEq,Bfz,hd]) (by first|exact hp|exact AJz hp|exact AJz (AJz hp)|exact AJz (AJz (AJz hp))) (by decide) rfl) ?_
    show Eq _ _
    rw[u2,u1,u0]
    all_goals rfl
   ·have u2:∀s o q r τ,tu s o q 5 (x.Fresh.map TEntry.ov) r τ=modS s o q (AHz 5 r) false τ:=fun s o q r τ=>Bnz (by simpa using hE2)
    simp only[u2]
    simp only[go_sem,Nat.reduceLT,Nat.reduceAdd,Nat.reduceSub,Nat.reduceEqDiff,Nat.reduceLeDiff,Int.reduceEq,Int.reduceBEq,Int.reduceBNe,Int.reduceNeg,UInt8.reduceToNat,Nat.reduceBEq,hc0,hc1,hc2,AQz,List.length_map,hK1,hK2,hK3]
    refine Auz (A8z (σ:=_) (τ:=_) ⟨by simp,rfl⟩ (by simp only[go_sem,Nat.reduceLT,Nat.reduceAdd,Nat.reduceSub,Nat.reduceEqDiff,Nat.reduceLeDiff,Int.reduceEq,Int.reduceBEq,Int.reduceBNe,Int.reduceNeg,UInt8.reduceToNat,Nat.reduceBEq,Bfz,hd]) (by first|exact hp|exact AJz hp|exact AJz (AJz hp)|exact AJz (AJz (AJz hp))) (by decide) rfl) ?_
    show Eq _ _
    rw[u2,u1,u0]
    all_goals rfl
  ·have u1:∀s o q r τ,tu s o q 1 (x.Gone.map spv) r τ=modS s o q (AHz 1 r) false τ:=fun s o q r τ=>Bnz (by simpa using hE1)
   simp only[u1]
   simp only[go_sem,Nat.reduceLT,Nat.reduceAdd,Nat.reduceSub,Nat.reduceEqDiff,Nat.reduceLeDiff,Int.reduceEq,Int.reduceBEq,Int.reduceBNe,Int.reduceNeg,UInt8.reduceToNat,Nat.reduceBEq,hc0,hc1,hc2,AQz,List.length_map,hK1,hK2]
   refine Auz (Dxz m (hd0 (by decide)) _ _ _ _ _ x.Fresh hx.Fresh.1 K2 hx.Fresh.2 (by rw[hK3];omega) (by simp only[List.length_cons];omega) rfl (by simp only[go_sem,Nat.reduceLT,Nat.reduceAdd,Nat.reduceSub,Nat.reduceEqDiff,Nat.reduceLeDiff,Int.reduceEq,Int.reduceBEq,Int.reduceBNe,Int.reduceNeg,UInt8.reduceToNat,Nat.reduceBEq,hc0,hc1,hc2])) ?_
   rcases Classical.em (x.Fresh=[])with hE2|hE2
   ·have u2:∀s o q r τ,tu s o q 5 (x.Fresh.map TEntry.ov) r τ=τ:=by rw[hE2];intros;rfl
    simp only[u2]
    simp only[go_sem,Nat.reduceLT,Nat.reduceAdd,Nat.reduceSub,Nat.reduceEqDiff,Nat.reduceLeDiff,Int.reduceEq,Int.reduceBEq,Int.reduceBNe,Int.reduceNeg,UInt8.reduceToNat,Nat.reduceBEq,hc0,hc1,hc2,hK1,hK2,hK3]
    refine Auz (A8z (σ:=_) (τ:=_) ⟨by simp,rfl⟩ (by simp only[go_sem,Nat.reduceLT,Nat.reduceAdd,Nat.reduceSub,Nat.reduceEqDiff,Nat.reduceLeDiff,Int.reduceEq,Int.reduceBEq,Int.reduceBNe,Int.reduceNeg,UInt8.reduceToNat,Nat.reduceBEq,Bfz,hd]) (by first|exact hp|exact AJz hp|exact AJz (AJz hp)|exact AJz (AJz (AJz hp))) (by decide) rfl) ?_
    show Eq _ _
    rw[u2,u1,u0]
    all_goals rfl
   ·have u2:∀s o q r τ,tu s o q 5 (x.Fresh.map TEntry.ov) r τ=modS s o q (AHz 5 r) false τ:=fun s o q r τ=>Bnz (by simpa using hE2)
    simp only[u2]
    simp only[go_sem,Nat.reduceLT,Nat.reduceAdd,Nat.reduceSub,Nat.reduceEqDiff,Nat.reduceLeDiff,Int.reduceEq,Int.reduceBEq,Int.reduceBNe,Int.reduceNeg,UInt8.reduceToNat,Nat.reduceBEq,hc0,hc1,hc2,AQz,List.length_map,hK1,hK2,hK3]
    refine Auz (A8z (σ:=_) (τ:=_) ⟨by simp,rfl⟩ (by simp only[go_sem,Nat.reduceLT,Nat.reduceAdd,Nat.reduceSub,Nat.reduceEqDiff,Nat.reduceLeDiff,Int.reduceEq,Int.reduceBEq,Int.reduceBNe,Int.reduceNeg,UInt8.reduceToNat,Nat.reduceBEq,Bfz,hd]) (by first|exact hp|exact AJz hp|exact AJz (AJz hp)|exact AJz (AJz (AJz hp))) (by decide) rfl) ?_
    show Eq _ _
    rw[u2,u1,u0]
    all_goals rfl
 ·have u0:∀s o q r τ,tu s o q 2 (x.Attrs.map TAttr.pv) r τ=modS s o q (AHz 2 r) false τ:=fun s o q r τ=>Bnz (by simpa using hE0)
  simp only[u0]
  simp only[go_sem,Nat.reduceLT,Nat.reduceAdd,Nat.reduceSub,Nat.reduceEqDiff,Nat.reduceLeDiff,Int.reduceEq,Int.reduceBEq,Int.reduceBNe,Int.reduceNeg,UInt8.reduceToNat,Nat.reduceBEq,hc0,hc1,hc2,AQz,List.length_map,hK1]
  refine Auz (GYz m (hd0 (by decide)) _ _ _ _ _ x.Gone hx.Gone.1 K1 hx.Gone.2 (by rw[hK2];omega) (by simp only[List.length_cons];omega) rfl (by simp only[go_sem,Nat.reduceLT,Nat.reduceAdd,Nat.reduceSub,Nat.reduceEqDiff,Nat.reduceLeDiff,Int.reduceEq,Int.reduceBEq,Int.reduceBNe,Int.reduceNeg,UInt8.reduceToNat,Nat.reduceBEq,hc0,hc1,hc2])) ?_
  rcases Classical.em (x.Gone=[])with hE1|hE1
  ·have u1:∀s o q r τ,tu s o q 1 (x.Gone.map spv) r τ=τ:=by rw[hE1];intros;rfl
   simp only[u1]
   simp only[go_sem,Nat.reduceLT,Nat.reduceAdd,Nat.reduceSub,Nat.reduceEqDiff,Nat.reduceLeDiff,Int.reduceEq,Int.reduceBEq,Int.reduceBNe,Int.reduceNeg,UInt8.reduceToNat,Nat.reduceBEq,hc0,hc1,hc2,hK1,hK2]
   refine Auz (Dxz m (hd0 (by decide)) _ _ _ _ _ x.Fresh hx.Fresh.1 K2 hx.Fresh.2 (by rw[hK3];omega) (by simp only[List.length_cons];omega) rfl (by simp only[go_sem,Nat.reduceLT,Nat.reduceAdd,Nat.reduceSub,Nat.reduceEqDiff,Nat.reduceLeDiff,Int.reduceEq,Int.reduceBEq,Int.reduceBNe,Int.reduceNeg,UInt8.reduceToNat,Nat.reduceBEq,hc0,hc1,hc2])) ?_
   rcases Classical.em (x.Fresh=[])with hE2|hE2
   ·have u2:∀s o q r τ,tu s o q 5 (x.Fresh.map TEntry.ov) r τ=τ:=by rw[hE2];intros;rfl
    simp only[u2]
    simp only[go_sem,Nat.reduceLT,Nat.reduceAdd,Nat.reduceSub,Nat.reduceEqDiff,Nat.reduceLeDiff,Int.reduceEq,Int.reduceBEq,Int.reduceBNe,Int.reduceNeg,UInt8.reduceToNat,Nat.reduceBEq,hc0,hc1,hc2,hK1,hK2,hK3]
    refine Auz (A8z (σ:=_) (τ:=_) ⟨by simp,rfl⟩ (by simp only[go_sem,Nat.reduceLT,Nat.reduceAdd,Nat.reduceSub,Nat.reduceEqDiff,Nat.reduceLeDiff,Int.reduceEq,Int.reduceBEq,Int.reduceBNe,Int.reduceNeg,UInt8.reduceToNat,Nat.reduceBEq,Bfz,hd]) (by first|exact hp|exact AJz hp|exact AJz (AJz hp)|exact AJz (AJz (AJz hp))) (by decide) rfl) ?_
    show Eq _ _
    rw[u2,u1,u0]
    all_goals rfl
   ·have u2:∀s o q r τ,tu s o q 5 (x.Fresh.map TEntry.ov) r τ=modS s o q (AHz 5 r) false τ:=fun s o q r τ=>Bnz (by simpa using hE2)
    simp only[u2]
    simp only[go_sem,Nat.reduceLT,Nat.reduceAdd,Nat.reduceSub,Nat.reduceEqDiff,Nat.reduceLeDiff,Int.reduceEq,Int.reduceBEq,Int.reduceBNe,Int.reduceNeg,UInt8.reduceToNat,Nat.reduceBEq,hc0,hc1,hc2,AQz,List.length_map,hK1,hK2,hK3]
    refine Auz (A8z (σ:=_) (τ:=_) ⟨by simp,rfl⟩ (by simp only[go_sem,Nat.reduceLT,Nat.reduceAdd,Nat.reduceSub,Nat.reduceEqDiff,Nat.reduceLeDiff,Int.reduceEq,Int.reduceBEq,Int.reduceBNe,Int.reduceNeg,UInt8.reduceToNat,Nat.reduceBEq,Bfz,hd]) (by first|exact hp|exact AJz hp|exact AJz (AJz hp)|exact AJz (AJz (AJz hp))) (by decide) rfl) ?_
    show Eq _ _
    rw[u2,u1,u0]
    all_goals rfl
  ·have u1:∀s o q r τ,tu s o q 1 (x.Gone.map spv) r τ=modS s o q (AHz 1 r) false τ:=fun s o q r τ=>Bnz (by simpa using hE1)
   simp only[u1]
   simp only[go_sem,Nat.reduceLT,Nat.reduceAdd,Nat.reduceSub,Nat.reduceEqDiff,Nat.reduceLeDiff,Int.reduceEq,Int.reduceBEq,Int.reduceBNe,Int.reduceNeg,UInt8.reduceToNat,Nat.reduceBEq,hc0,hc1,hc2,AQz,List.length_map,hK1,hK2]
   refine Auz (Dxz m (hd0 (by decide)) _ _ _ _ _ x.Fresh hx.Fresh.1 K2 hx.Fresh.2 (by rw[hK3];omega) (by simp only[List.length_cons];omega) rfl (by simp only[go_sem,Nat.reduceLT,Nat.reduceAdd,Nat.reduceSub,Nat.reduceEqDiff,Nat.reduceLeDiff,Int.reduceEq,Int.reduceBEq,Int.reduceBNe,Int.reduceNeg,UInt8.reduceToNat,Nat.reduceBEq,hc0,hc1,hc2])) ?_
   rcases Classical.em (x.Fresh=[])with hE2|hE2
   ·have u2:∀s o q r τ,tu s o q 5 (x.Fresh.map TEntry.ov) r τ=τ:=by rw[hE2];intros;rfl
    simp only[u2]
    simp only[go_sem,Nat.reduceLT,Nat.reduceAdd,Nat.reduceSub,Nat.reduceEqDiff,Nat.reduceLeDiff,Int.reduceEq,Int.reduceBEq,Int.reduceBNe,Int.reduceNeg,UInt8.reduceToNat,Nat.reduceBEq,hc0,hc1,hc2,hK1,hK2,hK3]
    refine Auz (A8z (σ:=_) (τ:=_) ⟨by simp,rfl⟩ (by simp only[go_sem,Nat.reduceLT,Nat.reduceAdd,Nat.reduceSub,Nat.reduceEqDiff,Nat.reduceLeDiff,Int.reduceEq,Int.reduceBEq,Int.reduceBNe,Int.reduceNeg,UInt8.reduceToNat,Nat.reduceBEq,Bfz,hd]) (by first|exact hp|exact AJz hp|exact AJz (AJz hp)|exact AJz (AJz (AJz hp))) (by decide) rfl) ?_
    show Eq _ _
    rw[u2,u1,u0]
    all_goals rfl
   ·have u2:∀s o q r τ,tu s o q 5 (x.Fresh.map TEntry.ov) r τ=modS s o q (AHz 5 r) false τ:=fun s o q r τ=>Bnz (by simpa using hE2)
    simp only[u2]
    simp only[go_sem,Nat.reduceLT,Nat.reduceAdd,Nat.reduceSub,Nat.reduceEqDiff,Nat.reduceLeDiff,Int.reduceEq,Int.reduceBEq,Int.reduceBNe,Int.reduceNeg,UInt8.reduceToNat,Nat.reduceBEq,hc0,hc1,hc2,AQz,List.length_map,hK1,hK2,hK3]
    refine Auz (A8z (σ:=_) (τ:=_) ⟨by simp,rfl⟩ (by simp only[go_sem,Nat.reduceLT,Nat.reduceAdd,Nat.reduceSub,Nat.reduceEqDiff,Nat.reduceLeDiff,Int.reduceEq,Int.reduceBEq,Int.reduceBNe,Int.reduceNeg,UInt8.reduceToNat,Nat.reduceBEq,Bfz,hd]) (by first|exact hp|exact AJz hp|exact AJz (AJz hp)|exact AJz (AJz (AJz hp))) (by decide) rfl) ?_
    show Eq _ _
    rw[u2,u1,u0]
    all_goals rfl
end Go.Proofs.YtblelojdboefjaaGreatDoor.R
namespace Go.Proofs.YtblelojdboefjaaGreatDoor.R
open Go
theorem QTz {x:TDelta} (hx:x.ok):Dpz x 1≤4611686018427387904:=by
 have ha:∀(l:List TAttr) (k:Nat),l.length≤1048576→(mkL ANz l k).2≤k+1048576*2:=fun l k h=>Fyz (fun x _ k=>Nat.le_refl _) h
 have h1:=ha x.Attrs 1 hx.Attrs.2
 have h2:(mkL mS x.Gone (mkL ANz x.Attrs 1).2).2≤(mkL ANz x.Attrs 1).2+1048576*1:=Fyz (fun x _ k=>Nat.le_refl _) hx.Gone.2
 have h3:(mkL ATz x.Fresh (mkL mS x.Gone (mkL ANz x.Attrs 1).2).2).2≤(mkL mS x.Gone (mkL ANz x.Attrs 1).2).2+1048576*4194304:=Fyz (fun e he k=>by
  have h4:=Fyz (f:=mB) (c:=1) (l:=e.Data) (k:=k+1+1) (fun x _ k=>Nat.le_refl _) (hx.Fresh.1 e he).Data.2
  have h5:=ha e.Attrs (mkL mB e.Data (k+1+1)).2 (hx.Fresh.1 e he).Attrs.2
  have hb:Bd=1048576:=rfl
  simp only[ATz]
  omega) hx.Fresh.2
 unfold Dpz
 omega
set_option maxHeartbeats 1000000 in
theorem Mkz (n:Nat) (hn:Big+4≤n) (x:TDelta) (hx:x.ok) (k:Nat) (hk:Dpz x k≤4611686018427387904):
  pcall env n 16 [.c .agg [.sh true (.s 2 ((mkL ANz x.Attrs k).1.map TAttr.pv)),.sh true (.s 1 ((mkL mS x.Gone (mkL ANz x.Attrs k).2).1.map spv)),.sh true (.s 5 ((mkL ATz x.Fresh (mkL mS x.Gone (mkL ANz x.Attrs k).2).2).1.map TEntry.pv))],.c .one [.sh false (.i .i64 (k:Nat))]] []=some ⟨.c .one [.sh false (.i .i64 ((Dpz x k:Nat)))],[]⟩:=by
 refine walk (fn:=Tryz.f16) (d:=3) hn rfl rfl rfl (Nat.le_of_ble_eq_true rfl) fun m hd=> ?_
 unfold Tryz.f16
 unfold Dpz at hk ⊢
 have ge1:=Btz C3z (l:=x.Attrs) (k:=k)
 have ge2:=Btz Lez (l:=x.Gone) (k:=(mkL ANz x.Attrs k).2)
 have ge3:=Btz Fxz (l:=x.Fresh) (k:=(mkL mS x.Gone (mkL ANz x.Attrs k).2).2)
 have h1:=Hwz m (hd (by decide)) x.Attrs hx.Attrs.1 k hx.Attrs.2 (by omega)
 have h2:=Kaz m (hd (by decide)) x.Gone hx.Gone.1 (mkL ANz x.Attrs k).2 hx.Gone.2 (by omega)
 have h3:=LZz m (hd (by decide)) x.Fresh hx.Fresh.1 (mkL mS x.Gone (mkL ANz x.Attrs k).2).2 hx.Fresh.2 hk
 try simp only[go_sem]at h1
 try simp only[go_sem]at h2
 try simp only[go_sem]at h3
 simp only[go_sem,Nat.reduceLT,Nat.reduceAdd,Nat.reduceSub,Nat.reduceEqDiff,Nat.reduceLeDiff,Int.reduceEq,Int.reduceBEq,Int.reduceBNe,Int.reduceNeg,UInt8.reduceToNat,Nat.reduceBEq,h1,h2,h3,KVz]
end Go.Proofs.YtblelojdboefjaaGreatDoor.R
namespace Go.Proofs.YtblelojdboefjaaGreatDoor.R
open Go
theorem Scz {a b:TTab} (ha:a.ok) (hb:b.ok):(FEz a b).ok:=by
 have hD:FEz a b=match Aaz a&&Aaz b with
  |true=>⟨C2z b,B7z (Anz b) (Anz a),Buz (Anz a) (Anz b)⟩
  |false=>⟨[],[],[]⟩:=rfl
 have hbd:Bd=1048576:=rfl
 have lX:=Ebz a
 have lY:=Ebz b
 cases h:(Aaz a&&Aaz b)with
 |false=>
  rw[h]at hD
  rw[hD]
  exact⟨⟨(fun _ h=>nomatch h),Nat.zero_le _⟩,⟨(fun _ h=>nomatch h),Nat.zero_le _⟩,⟨(fun _ h=>nomatch h),Nat.zero_le _⟩⟩
 |true=>
  rw[h]at hD
  rw[hD]
  refine⟨L1z hb,⟨fun y hy=> ?_,?_⟩,⟨fun y hy=> ?_,?_⟩⟩
  ·obtain⟨e,he,rfl⟩:=List.mem_map.1 (show y∈(((Anz a).filter (F2z (Anz b))).map (·.Path))from hy)
   exact(Eaz ha (List.mem_filter.1 he).1).1.Path
  ·have:=I3z (Y:=Anz b) (l:=Anz a) (j:=(Anz a).length)
   rw[List.take_length]at this
   show(B7z (Anz b) (Anz a)).length≤Bd
   omega
  ·exact(Eaz hb (List.mem_filter.1 (show y∈(Anz b).filter (DBz (Anz a))from hy)).1).1
  ·have:=Hxz (X:=Anz a) (l:=Anz b) (j:=(Anz b).length)
   rw[List.take_length]at this
   show(Buz (Anz a) (Anz b)).length≤Bd
   omega
theorem Puz {α:Type} {pv:α→List PV} {es:Nat} (l:List α):(∀s o q r τ,tu s o q es (l.map pv) r τ=τ)∨(∀s o q r τ,tu s o q es (l.map pv) r τ=modS s o q (AHz es r) false τ):=by
 rcases Classical.em (l=[])with hE|hE
 ·exact .inl (by rw[hE];intros;rfl)
 ·exact .inr fun s o q r τ=>Bnz (by simpa using hE)
set_option maxHeartbeats 16000000 in
theorem VAz (n:Nat) (hn:Big+2000001≤n) (a b:TTab) (ha:a.ok) (hb:b.ok):pcall env n 3 [.c .agg (a.pv.map ASz),.c .agg (b.pv.map ASz)] []=some ⟨pvSV (.b true),[]⟩:=by
 refine walk (fn:=Tryz.f3) (d:=2000000) hn rfl rfl rfl (Nat.le_of_ble_eq_true rfl) fun m hd=> ?_
 unfold Tryz.f3
 have hbd:Bd=1048576:=rfl
 obtain⟨f0,s0⟩:=Ltz m (hd (by decide)) a ha
 obtain⟨f1,s1⟩:=Ltz m (hd (by decide)) b hb
 have c0:=Lrz m (hd (by decide)) a ha
 have c1:=Lrz m (hd (by decide)) b hb
 have c2:=Nuz m (hd (by decide)) a b ha hb
 have c3:=Nvz m (hd (by decide)) a b ha hb
 have hx:=Scz ha hb
 generalize FEz a b=x at c2 c3 hx
 have c4:=PTz m (hd (by decide)) x hx
 have c5:=Msz m (hd (by decide)) a ha
 have c6:=Msz m (hd (by decide)) b hb
 simp only[go_sem,delO,S5z]at c0 c1 c2 c3 c4 c5 c6 s0 s1
 simp only[go_sem,Nat.reduceLT,Nat.reduceAdd,Nat.reduceSub,Nat.reduceEqDiff,Nat.reduceLeDiff,Int.reduceEq,Int.reduceBEq,Int.reduceBNe,Int.reduceNeg,UInt8.reduceToNat,Nat.reduceBEq,s0,s1]
 refine Doz (fun h=> ?_) (fun h=> ?_)
 ·simp only[go_sem,Nat.reduceLT,Nat.reduceAdd,Nat.reduceSub,Nat.reduceEqDiff,Nat.reduceLeDiff,Int.reduceEq,Int.reduceBEq,Int.reduceBNe,Int.reduceNeg,UInt8.reduceToNat,Nat.reduceBEq,h]
 simp only[go_sem,Nat.reduceLT,Nat.reduceAdd,Nat.reduceSub,Nat.reduceEqDiff,Nat.reduceLeDiff,Int.reduceEq,Int.reduceBEq,Int.reduceBNe,Int.reduceNeg,UInt8.reduceToNat,Nat.reduceBEq,h,s1]
 refine Doz (fun h=> ?_) (fun h=> ?_)
 ·simp only[go_sem,Nat.reduceLT,Nat.reduceAdd,Nat.reduceSub,Nat.reduceEqDiff,Nat.reduceLeDiff,Int.reduceEq,Int.reduceBEq,Int.reduceBNe,Int.reduceNeg,UInt8.reduceToNat,Nat.reduceBEq,h]
 simp only[go_sem,Nat.reduceLT,Nat.reduceAdd,Nat.reduceSub,Nat.reduceEqDiff,Nat.reduceLeDiff,Int.reduceEq,Int.reduceBEq,Int.reduceBNe,Int.reduceNeg,UInt8.reduceToNat,Nat.reduceBEq,h,c0,c1,c2,c3,c4,c5,c6]
 refine chk (by kernel_rfl) ?_
 refine chk (by kernel_rfl) ?_
 refine chk (by kernel_rfl) ?_
 have b1:=OHz ha (k:=1)
 have b2:=OHz hb (k:=mTab a 1)
 have hk:=QTz hx
 have g1:=Mkz m (hd (by decide)) x hx 1 hk
 obtain⟨KD,hKD⟩:∃K,Dpz x 1=K:=⟨_,rfl⟩
 rw[hKD]at g1
 have a0:((∀s o q r τ,tu s o q 2 (x.Attrs.map TAttr.pv) r τ=τ)∧∀k,(mkL ANz x.Attrs k).1.map TAttr.pv=x.Attrs.map TAttr.pv)∨(∀s o q r τ,tu s o q 2 (x.Attrs.map TAttr.pv) r τ=modS s o q (AHz 2 r) false τ):=by
  rcases Classical.em (x.Attrs=[])with hE|hE
  ·exact .inl (by rw[hE];exact⟨fun _ _ _ _ _=>rfl,fun _=>rfl⟩)
  ·exact .inr fun s o q r τ=>Bnz (by simpa using hE)
 have a1:((∀s o q r τ,tu s o q 1 (x.Gone.map spv) r τ=τ)∧∀k,(mkL mS x.Gone k).1.map spv=x.Gone.map spv)∨(∀s o q r τ,tu s o q 1 (x.Gone.map spv) r τ=modS s o q (AHz 1 r) false τ):=by
  rcases Classical.em (x.Gone=[])with hE|hE
  ·exact .inl (by rw[hE];exact⟨fun _ _ _ _ _=>rfl,fun _=>rfl⟩)
  ·exact .inr fun s o q r τ=>Bnz (by simpa using hE)
 have a2:((∀s o q r τ,tu s o q 5 (x.Fresh.map TEntry.ov) r τ=τ)∧∀k,(mkL ATz x.Fresh k).1.map TEntry.pv=x.Fresh.map TEntry.pv)∨(∀s o q r τ,tu s o q 5 (x.Fresh.map TEntry.ov) r τ=modS s o q (AHz 5 r) false τ):=by
  rcases Classical.em (x.Fresh=[])with hE|hE
  ·exact .inl (by rw[hE];exact⟨fun _ _ _ _ _=>rfl,fun _=>rfl⟩)
  ·exact .inr fun s o q r τ=>Bnz (by simpa using hE)
 refine Auz (Jfz m (hd (by decide)) _ _ _ a ha 1 (by omega) (by simp only[List.length_cons];omega) rfl rfl) ?_
 generalize mTab a 1=KA at b1 b2
 rcases Puz (pv:=TInode.ov) (es:=6) a.Inodes with t0|t0
 all_goals
  simp only[t0]
  simp only[go_sem,Nat.reduceLT,Nat.reduceAdd,Nat.reduceSub,Nat.reduceEqDiff,Nat.reduceLeDiff,Int.reduceEq,Int.reduceBEq,Int.reduceBNe,Int.reduceNeg,UInt8.reduceToNat,Nat.reduceBEq,AQz,List.length_map]
  refine Auz (Jfz m (hd (by decide)) _ _ _ b hb KA (by omega) (by simp only[List.length_cons];omega) rfl rfl) ?_
  rcases Puz (pv:=TInode.ov) (es:=6) b.Inodes with t1|t1
 all_goals
  simp only[t1]
  simp only[go_sem,Nat.reduceLT,Nat.reduceAdd,Nat.reduceSub,Nat.reduceEqDiff,Nat.reduceLeDiff,Int.reduceEq,Int.reduceBEq,Int.reduceBNe,Int.reduceNeg,UInt8.reduceToNat,Nat.reduceBEq,KVz,c4,AQz,List.length_map]
  refine Auz (MOz m (hd (by decide)) _ _ _ x hx 1 hk (by simp only[List.length_cons];omega) rfl rfl rfl rfl) ?_
  rw[hKD]
  rcases a0 with⟨a0,v0⟩|a0<;>rcases a1 with⟨a1,v1⟩|a1<;>rcases a2 with⟨a2,v2⟩|a2
 all_goals
  simp only[a0,a1,a2]
  try simp only[v0]at g1
  try simp only[v1]at g1
  try simp only[v2]at g1
  try simp only[go_sem]at g1
  simp only[go_sem,Nat.reduceLT,Nat.reduceAdd,Nat.reduceSub,Nat.reduceEqDiff,Nat.reduceLeDiff,Int.reduceEq,Int.reduceBEq,Int.reduceBNe,Int.reduceNeg,UInt8.reduceToNat,Nat.reduceBEq,c0,c1,c3,c4,g1,KVz,AQz,List.length_map]
  exact chk1 (by kernel_rfl)
end Go.Proofs.YtblelojdboefjaaGreatDoor.R
