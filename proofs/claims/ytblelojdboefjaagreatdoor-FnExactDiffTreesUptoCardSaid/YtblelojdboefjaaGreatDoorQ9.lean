/- The inodes that are reached: the reference. -/
import Derived.Test.YtblelojdboefjaaGreatDoorQ8
set_option linter.all false
set_option maxRecDepth 100000
namespace Go.Proofs.YtblelojdboefjaaGreatDoor.R
open Go
def Shut (l:List TInode) (L:List Int):Prop:=∀a∈L,∀x,AKz l a=some x→∀k∈B4z x,(AKz l k).isSome=true→k∈L
theorem Rtz {t:TTab} {l L:List Int} (h:RndK t l L l.length []):∀a∈l,∀x,AKz t.Inodes a=some x→∀k∈B4z x,(AKz t.Inodes k).isSome=true→k∈L:=by
 have:=h.kid
 rw[List.take_length]at this
 exact this
theorem Lyz {l:List TInode} {L:List Int} (hs:Shut l L) (h1:(AKz l 1).isSome=true→1∈L) {k:Int} (h:Rch l k):k∈L:=by
 induction h with
 |root hp=>exact h1 hp
 |step a k x _ hx hk hp ih=>exact hs a ih x hx k hk hp
theorem Ruz {t:TTab} {l L:List Int} {i:Nat} (hnd:l.Nodup) (h1:(AKz t.Inodes 1).isSome=true→1∈l) (h:RndK t l L l.length []) (hl:Shut t.Inodes l∨i+1≤l.length):Shut t.Inodes L∨i+1+1≤L.length:=by
 by_cases hs:Shut t.Inodes l
 ·left
  intro a ha x hx k hk hp
  exact h.sub k (hs a (Lyz hs h1 (h.r a ha)) x hx k hk hp)
 ·right
  have hl:=hl.resolve_left hs
  have:∃k,k∈L∧¬k∈l:=by
   refine Classical.byContradiction fun hno=>hs fun a ha x hx k hk hp=> ?_
   refine Classical.byContradiction fun hk2=>hno ⟨k,Rtz h a ha x hx k hk hp,hk2⟩
  obtain⟨k,hk,hk2⟩:=this
  have h1:(k::l).length≤L.length:=Cuz (List.nodup_cons.2 ⟨hk2,hnd⟩) fun j hj=>by
   rcases List.mem_cons.1 hj with rfl|hj
   ·exact hk
   ·exact h.sub j hj
  simp only[List.length_cons]at h1
  omega
theorem OQz {t:TTab} {L:List Int} (hnd:L.Nodup) (hr:∀k∈L,Rch t.Inodes k) (h1:(AKz t.Inodes 1).isSome=true→1∈L) (hs:Shut t.Inodes L):Full t.Inodes L:=
 ⟨hnd,fun k=>⟨hr k,Lyz hs h1⟩⟩
set_option maxHeartbeats 4000000 in
theorem KRz (n:Nat) (hn:Big+9≤n) (t:TTab) (ht:t.ok) (hs:Small t):∃(c:CV) (L:List Int),(∃fl,c= .sh fl (.s 1 (L.map ipv))∨c= .ow fl 1 (L.map ipv))∧Full t.Inodes L∧pcall env n 106 [.c .agg (t.pv.map ASz)] []=some ⟨.c .one [c],[]⟩:=by
 obtain⟨m,rfl⟩:=AFz hn
 have hB:=AXz
 have hbd:Bd=1048576:=rfl
 have hl:=hs.n
 have h8:8≤LIM:=by decide
 suffices h: @Wq _ (pcall env (m+1) 106 [.c .agg (t.pv.map ASz)] []) ⟨fun r=>∃(c:CV) (L:List Int),(∃fl,c= .sh fl (.s 1 (L.map ipv))∨c= .ow fl 1 (L.map ipv))∧Full t.Inodes L∧r=⟨.c .one [c],[]⟩⟩by
  obtain⟨r,h1,c,L,h2,h3,h4⟩:=h;exact⟨c,L,h2,h3,by rw[h1,h4]⟩
 have hl4:=Gaz m (deep hn (by decide)) t ht 1
 have hpg:=Iuz (l:=t.Inodes) (k:=1)
 simp only[go_sem]at hl4
 refine ADz (fn:=Tryz.f106) rfl rfl rfl (Nat.le_of_ble_eq_true rfl) ?_
 unfold Tryz.f106
 cases hpl:(AKz t.Inodes 1).isSome with
 |false=>
  rw[hpl]at hpg
  have hlt:BZz t.Inodes 1<0:=by simpa using hpg
  simp only[go_sem,Nat.reduceLT,Nat.reduceAdd,Nat.reduceSub,Nat.reduceEqDiff,Nat.reduceLeDiff,Int.reduceEq,Int.reduceBEq,Int.reduceBNe,Int.reduceNeg,UInt8.reduceToNat,Nat.reduceBEq,hl4,hlt]
  refine⟨_,[],⟨_,.inr rfl⟩,OQz List.nodup_nil (fun k hk=>by simp at hk) (fun h=>by rw[hpl]at h;simp at h) (fun a ha=>by simp at ha),rfl⟩
 |true=>
  rw[hpl]at hpg
  have hlt:¬BZz t.Inodes 1<0:=by simpa using hpg
  simp only[go_sem,Nat.reduceLT,Nat.reduceAdd,Nat.reduceSub,Nat.reduceEqDiff,Nat.reduceLeDiff,Int.reduceEq,Int.reduceBEq,Int.reduceBNe,Int.reduceNeg,UInt8.reduceToNat,Nat.reduceBEq,hl4,hlt,h8]
  refine AGz (fun r σ=>∃(i:Nat) (c:CV) (L:List Int),i≤t.Inodes.length∧r=t.Inodes.length - i∧(∃fl,c= .sh fl (.s 1 (L.map ipv))∨c= .ow fl 1 (L.map ipv))∧L.Nodup∧(∀k∈L,Rch t.Inodes k)∧1∈L∧(Shut t.Inodes L∨i+1≤L.length)∧σ=slots 24 [(1,.c .box [.sh true (.s 6 (t.Inodes.map TInode.pv)),.sh false (.i .i64 t.Next)]),(3,.c .one [c]),(4,.c .one [.sh false (.i .i64 (i:Nat))])]) t.Inodes.length (by omega) ?_ ?_
  ·simp only[go_sem,Nat.reduceLT,Nat.reduceAdd,Nat.reduceSub,Nat.reduceEqDiff,Nat.reduceLeDiff,Int.reduceEq,Int.reduceBEq,Int.reduceBNe,Int.reduceNeg,UInt8.reduceToNat,Nat.reduceBEq]
   refine⟨0,_,[1],Nat.zero_le _,rfl,⟨_,.inr rfl⟩,by simp,fun k hk=> ?_,by simp,.inr (by simp),rfl⟩
   have:k=1:=by simpa using hk
   subst this;exact .root hpl
  ·rintro r σ ⟨i,c,L,hi,rfl,hc,hnd,hr,h1,hsh,rfl⟩
   by_cases hlt2:i<t.Inodes.length
   ·have h2:((i:Int)<(t.Inodes.length:Int)):=by omega
    obtain⟨c',L',hc',hrnd,hnx⟩:=Qbz m (deep hn (by decide)) t ht hs L hnd hr
    simp only[go_sem]at hnx
    have hgr:=Ruz hnd (fun _=>h1) hrnd hsh
    have h1':=hrnd.sub 1 h1
    rcases hc with⟨fl,rfl|rfl⟩<;>rcases hc' with rfl|rfl|rfl<;>
    ·simp only[go_sem,Nat.reduceLT,Nat.reduceAdd,Nat.reduceSub,Nat.reduceEqDiff,Nat.reduceLeDiff,Int.reduceEq,Int.reduceBEq,Int.reduceBNe,Int.reduceNeg,UInt8.reduceToNat,Nat.reduceBEq,h2,hnx,ACz hlt2 (by omega)]
     first
     |exact⟨_,by omega,i+1,.sh true (.s 1 (L'.map ipv)),L',hlt2,rfl,⟨_,.inl rfl⟩,hrnd.nd,hrnd.r,h1',hgr,by with_reducible rfl⟩
     |exact⟨_,by omega,i+1,.sh fl (.s 1 (L'.map ipv)),L',hlt2,rfl,⟨_,.inl rfl⟩,hrnd.nd,hrnd.r,h1',hgr,by with_reducible rfl⟩
     |exact⟨_,by omega,i+1,.sh false (.s 1 (L'.map ipv)),L',hlt2,rfl,⟨_,.inl rfl⟩,hrnd.nd,hrnd.r,h1',hgr,by with_reducible rfl⟩
     |exact⟨_,by omega,i+1,.ow false 1 (L'.map ipv),L',hlt2,rfl,⟨_,.inr rfl⟩,hrnd.nd,hrnd.r,h1',hgr,by with_reducible rfl⟩
   ·have h2:¬((i:Int)<(t.Inodes.length:Int)):=by omega
    obtain rfl:i=t.Inodes.length:=by omega
    have hfull:=OQz hnd hr (fun _=>h1) (hsh.resolve_right (by have:=GTz hs hnd hr;omega))
    rcases hc with⟨fl,rfl|rfl⟩
    ·simp only[go_sem,Nat.reduceLT,Nat.reduceAdd,Nat.reduceSub,Nat.reduceEqDiff,Nat.reduceLeDiff,Int.reduceEq,Int.reduceBEq,Int.reduceBNe,Int.reduceNeg,UInt8.reduceToNat,Nat.reduceBEq,h2]
     exact⟨_,L,⟨_,.inl rfl⟩,hfull,rfl⟩
    ·simp only[go_sem,Nat.reduceLT,Nat.reduceAdd,Nat.reduceSub,Nat.reduceEqDiff,Nat.reduceLeDiff,Int.reduceEq,Int.reduceBEq,Int.reduceBNe,Int.reduceNeg,UInt8.reduceToNat,Nat.reduceBEq,h2]
     exact⟨_,L,⟨_,.inr rfl⟩,hfull,rfl⟩
end Go.Proofs.YtblelojdboefjaaGreatDoor.R
namespace Go.Proofs.YtblelojdboefjaaGreatDoor.R
open Go
open Classical in
noncomputable def rchN (l:List TInode):Nat:=if h:∃L,Full l L then h.choose.length else 0
theorem OAz {l:List TInode} {L:List Int} (h:Full l L):L.length=rchN l:=by
 have hx:∃L,Full l L:=⟨L,h⟩
 unfold rchN
 rw[dif_pos hx]
 exact h.len hx.choose_spec
def Erz (l:List TInode) (x:TInode):Bool:=allB x.Ents.length fun i=>match x.Ents[i]? with
 |some e=>(AKz l e.Ino).isSome
 |none=>true
def IEz (l:List TInode) (x:TInode):Bool:=((BFz l x.Ino:Nat):Int)==x.Links&&Erz l x
def Bez (l:List TInode) (i:Nat):Bool:=match l[i]? with
 |some x=>IEz l x
 |none=>true
noncomputable def Aaz (t:TTab):Bool:=tabI t&&decide (rchN t.Inodes=t.Inodes.length)&&allB t.Inodes.length (Bez t.Inodes)
theorem Iqz {t:TTab} (h:tabI t=true):Small t:=by
 unfold tabI at h
 simp only[Bool.and_eq_true,Bool.not_eq_true',decide_eq_false_iff_not]at h
 have hn:=h.1.2
 refine⟨by omega,fun x hx=> ?_⟩
 obtain⟨i,hi⟩:=List.getElem?_of_mem hx
 unfold Cbz at hn
 have h1:=C7z hn (List.getElem?_eq_some_iff.1 hi).1
 have h2:Atz x=true:=by
  unfold BOz EWz at h1
  rw[hi]at h1
  simp only[Bool.and_eq_true]at h1
  exact h1.1.1
 unfold Atz at h2
 simp only[Bool.and_eq_true]at h2
 have h3:=h2.1.1.2
 unfold B8z at h3
 simp only[Bool.and_eq_true,decide_eq_true_eq]at h3
 omega
theorem Lpz {l:List TInode} {j:Nat} {x:TInode} (h:l[j]? =some x) (hb:(((BFz l x.Ino:Nat):Int)==x.Links)=false):Bez l j=false:=by
 simp only[Bez,h,IEz,hb,Bool.false_and]
theorem Loz {l:List TInode} {j:Nat} {x:TInode} (h:l[j]? =some x) (hb:(((BFz l x.Ino:Nat):Int)==x.Links)=true):Bez l j=Erz l x:=by
 simp only[Bez,h,IEz,hb,Bool.true_and]
theorem J3z {l:List TInode} {x:TInode} {i:Nat} {e:TEnt} (h:x.Ents[i]? =some e) (hb:(AKz l e.Ino).isSome=false):Erz l x=false:=by
 unfold Erz
 exact C8z (List.getElem?_eq_some_iff.1 h).1 (by rw[h];exact hb)
theorem L7z {l:List TInode} {k:Int}:decide (BZz l k<0)= !(AKz l k).isSome:=by
 rw[←Iuz]
 by_cases h:BZz l k<0
 ·rw[decide_eq_true h,decide_eq_false (by omega)];rfl
 ·rw[decide_eq_false h,decide_eq_true (by omega)];rfl
set_option maxHeartbeats 8000000 in
theorem GEz (n:Nat) (hn:Big+10≤n) (t:TTab) (ht:t.ok):pcall env n 38 [.c .agg (t.pv.map ASz)] []=some ⟨pvSV (.b (Aaz t)),[]⟩:=by
 obtain⟨m,rfl⟩:=AFz hn
 have hB:=AXz
 have hbd:Bd=1048576:=rfl
 have hl:=ht.Inodes.2
 have ho:=ht.Inodes.1
 have htab:=Onz m (deep hn (by decide)) t ht
 rw[←Unz]at htab
 simp only[go_sem]at htab
 refine ARz (ADz (fn:=Tryz.f38) rfl rfl rfl (Nat.le_of_ble_eq_true rfl) ?_)
 unfold Tryz.f38
 cases htb:tabI t with
 |false=>
  have e:Aaz t=false:=by unfold Aaz;rw[htb];rfl
  rw[e]
  simp only[go_sem,Nat.reduceLT,Nat.reduceAdd,Nat.reduceSub,Nat.reduceEqDiff,Nat.reduceLeDiff,Int.reduceEq,Int.reduceBEq,Int.reduceBNe,Int.reduceNeg,UInt8.reduceToNat,Nat.reduceBEq,htab,htb]
  exact chk1 (by kernel_rfl)
 |true=>
 have hs:=Iqz htb
 obtain⟨c,L,hc,hfull,hre⟩:=KRz m (deep hn (by decide)) t ht hs
 simp only[go_sem]at hre
 have hrl:=OAz hfull
 have hLb:=GTz hs hfull.nd (fun k hk=>(hfull.mem k).1 hk)
 by_cases hlen:L.length=t.Inodes.length
 case neg=>
  have e:Aaz t=false:=by
   unfold Aaz
   rw[decide_eq_false (by rw[←hrl];exact hlen)]
   simp
  have hbne:(((L.length:Nat):Int) !=(t.Inodes.length:Nat))=true:=by simp;omega
  rw[e]
  rcases hc with⟨fl,rfl|rfl⟩<;>
  ·simp only[go_sem,Nat.reduceLT,Nat.reduceAdd,Nat.reduceSub,Nat.reduceEqDiff,Nat.reduceLeDiff,Int.reduceEq,Int.reduceBEq,Int.reduceBNe,Int.reduceNeg,UInt8.reduceToNat,Nat.reduceBEq,htab,htb,hre,hbne]
   exact chk1 (by kernel_rfl)
 case pos=>
 have hbne:(((L.length:Nat):Int) !=(t.Inodes.length:Nat))=false:=by simp;omega
 have hdec:decide (rchN t.Inodes=t.Inodes.length)=true:=decide_eq_true (by rw[←hrl];exact hlen)
 have bad:∀j,j<t.Inodes.length→Bez t.Inodes j=false→Aaz t=false:=fun j hj e=>by
  unfold Aaz;rw[C8z hj e];simp
 have good:(∀i,i<t.Inodes.length→Bez t.Inodes i=true)→Aaz t=true:=fun h=>by
  unfold Aaz;rw[htb,hdec,Ckz h];rfl
 have hbt:t.Inodes.length<m:=by omega
 apply M0z
 case main=>
  intro key
  rcases id hc with⟨fl,h9|h9⟩
  ·simp only[go_sem,Nat.reduceLT,Nat.reduceAdd,Nat.reduceSub,Nat.reduceEqDiff,Nat.reduceLeDiff,Int.reduceEq,Int.reduceBEq,Int.reduceBNe,Int.reduceNeg,UInt8.reduceToNat,Nat.reduceBEq,htab,htb,hre,h9,hbne]
   refine chk (by kernel_rfl) ?_
   refine AGz (fun r σ=>∃j:Nat,j≤t.Inodes.length∧r=t.Inodes.length - j∧(∀i,i<j→Bez t.Inodes i=true)∧σ=slots 53 [(1,.c .box [.sh true (.s 6 (t.Inodes.map TInode.pv)),.sh false (.i .i64 t.Next)]),(3,.c .one [.sh false (.i .i64 (j:Nat))])]) t.Inodes.length hbt ?_ key
   simp only[go_sem,Nat.reduceLT,Nat.reduceAdd,Nat.reduceSub,Nat.reduceEqDiff,Nat.reduceLeDiff,Int.reduceEq,Int.reduceBEq,Int.reduceBNe,Int.reduceNeg,UInt8.reduceToNat,Nat.reduceBEq]
   exact⟨0,Nat.zero_le _,rfl,fun i hi=>absurd hi (Nat.not_lt_zero _),rfl⟩
  ·simp only[go_sem,Nat.reduceLT,Nat.reduceAdd,Nat.reduceSub,Nat.reduceEqDiff,Nat.reduceLeDiff,Int.reduceEq,Int.reduceBEq,Int.reduceBNe,Int.reduceNeg,UInt8.reduceToNat,Nat.reduceBEq,htab,htb,hre,h9,hbne]
   refine chk (by kernel_rfl) ?_
   refine AGz (fun r σ=>∃j:Nat,j≤t.Inodes.length∧r=t.Inodes.length - j∧(∀i,i<j→Bez t.Inodes i=true)∧σ=slots 53 [(1,.c .box [.sh true (.s 6 (t.Inodes.map TInode.pv)),.sh false (.i .i64 t.Next)]),(3,.c .one [.sh false (.i .i64 (j:Nat))])]) t.Inodes.length hbt ?_ key
   simp only[go_sem,Nat.reduceLT,Nat.reduceAdd,Nat.reduceSub,Nat.reduceEqDiff,Nat.reduceLeDiff,Int.reduceEq,Int.reduceBEq,Int.reduceBNe,Int.reduceNeg,UInt8.reduceToNat,Nat.reduceBEq]
   exact⟨0,Nat.zero_le _,rfl,fun i hi=>absurd hi (Nat.not_lt_zero _),rfl⟩
 case pf=>
  rintro r σ ⟨j,hj,rfl,hp,rfl⟩
  by_cases hlt:j<t.Inodes.length
  ·have h1:((j:Int)<(t.Inodes.length:Int)):=by omega
   have hx:t.Inodes[j]? =some t.Inodes[j]:=List.getElem?_eq_getElem hlt
   have hok:=ho _ (List.getElem_mem hlt)
   generalize t.Inodes[j]=a at hx hok
   have step:Bez t.Inodes j=true→∀i,i<j+1→Bez t.Inodes i=true:=fun e i hi=>by
    rcases Nat.lt_succ_iff_lt_or_eq.1 hi with h|h
    ·exact hp i h
    ·subst h;exact e
   have hln:=MUz m (deep hn (by decide)) t ht a.Ino
   simp only[go_sem]at hln
   cases hk:(((BFz t.Inodes a.Ino:Nat):Int)==a.Links)with
   |false=>
    rw[bad j hlt (Lpz hx hk)]
    have hk':(((BFz t.Inodes a.Ino:Nat):Int) !=a.Links)=true:=by unfold bne;rw[hk];rfl
    simp only[go_sem,Nat.reduceLT,Nat.reduceAdd,Nat.reduceSub,Nat.reduceEqDiff,Nat.reduceLeDiff,Int.reduceEq,Int.reduceBEq,Int.reduceBNe,Int.reduceNeg,UInt8.reduceToNat,Nat.reduceBEq,h1,hx,hln,hk']
    exact chk1 (by kernel_rfl)
   |true=>
    have hk':(((BFz t.Inodes a.Ino:Nat):Int) !=a.Links)=false:=by unfold bne;rw[hk];rfl
    have e2:=Loz hx hk
    simp only[go_sem,Nat.reduceLT,Nat.reduceAdd,Nat.reduceSub,Nat.reduceEqDiff,Nat.reduceLeDiff,Int.reduceEq,Int.reduceBEq,Int.reduceBNe,Int.reduceNeg,UInt8.reduceToNat,Nat.reduceBEq,h1,hx,hln,hk']
    refine chk (by kernel_rfl) ?_
    have hel:=hok.Ents.2
    refine AGz (fun r σ=>∃i:Nat,i≤a.Ents.length∧r=a.Ents.length - i∧(∀q,q<i→∀e,a.Ents[q]? =some e→(AKz t.Inodes e.Ino).isSome=true)∧σ=slots 53 [(1,.c .box [.sh true (.s 6 (t.Inodes.map TInode.pv)),.sh false (.i .i64 t.Next)]),(3,.c .one [.sh false (.i .i64 (j:Nat))]),(4,.c .box [.sh false (.i .i64 a.Ino),.sh false (.i .i64 a.Kind),.sh false (.i .i64 a.Links),.sh true (.s 1 (a.Data.map bpv)),.sh true (.s 2 (a.Ents.map TEnt.pv)),.sh true (.s 2 (a.Attrs.map TAttr.pv))]),(5,.c .one [.sh false (.i .i64 (i:Nat))])]) a.Ents.length (by omega) ?_ ?_
    ·simp only[go_sem,Nat.reduceLT,Nat.reduceAdd,Nat.reduceSub,Nat.reduceEqDiff,Nat.reduceLeDiff,Int.reduceEq,Int.reduceBEq,Int.reduceBNe,Int.reduceNeg,UInt8.reduceToNat,Nat.reduceBEq]
     exact⟨0,Nat.zero_le _,rfl,fun q hq=>absurd hq (Nat.not_lt_zero _),rfl⟩
    ·rintro r σ ⟨i,hi,rfl,hpe,rfl⟩
     by_cases hlt2:i<a.Ents.length
     ·have h2:((i:Int)<(a.Ents.length:Int)):=by omega
      have hy:a.Ents[i]? =some a.Ents[i]:=List.getElem?_eq_getElem hlt2
      generalize a.Ents[i]=e at hy
      have hpl:=Gaz m (deep hn (by decide)) t ht e.Ino
      have hpg:=L7z (l:=t.Inodes) (k:=e.Ino)
      simp only[go_sem]at hpl
      cases hps:(AKz t.Inodes e.Ino).isSome with
      |false=>
       rw[hps]at hpg
       have hpg':BZz t.Inodes e.Ino<0:=by simpa using hpg
       rw[bad j hlt (by rw[e2];exact J3z hy hps)]
       simp only[go_sem,Nat.reduceLT,Nat.reduceAdd,Nat.reduceSub,Nat.reduceEqDiff,Nat.reduceLeDiff,Int.reduceEq,Int.reduceBEq,Int.reduceBNe,Int.reduceNeg,UInt8.reduceToNat,Nat.reduceBEq,h2,hy,hpl,hpg']
       exact chk1 (by kernel_rfl)
      |true=>
       rw[hps]at hpg
       have hpg':¬BZz t.Inodes e.Ino<0:=by simpa using hpg
       simp only[go_sem,Nat.reduceLT,Nat.reduceAdd,Nat.reduceSub,Nat.reduceEqDiff,Nat.reduceLeDiff,Int.reduceEq,Int.reduceBEq,Int.reduceBNe,Int.reduceNeg,UInt8.reduceToNat,Nat.reduceBEq,h2,hy,hpl,hpg',ACz hlt2 (by omega)]
       refine chk (by kernel_rfl) ⟨_,by omega,i+1,hlt2,rfl,fun q hq e' he'=> ?_,rfl⟩
       rcases Nat.lt_succ_iff_lt_or_eq.1 hq with h|h
       ·exact hpe q h e' he'
       ·subst h;rw[hy]at he';injection he' with he';subst he';exact hps
     ·have h2:¬((i:Int)<(a.Ents.length:Int)):=by omega
      obtain rfl:i=a.Ents.length:=by omega
      have e3:Bez t.Inodes j=true:=by
       rw[e2]
       unfold Erz
       refine Ckz fun q hq=> ?_
       rw[List.getElem?_eq_getElem hq]
       exact hpe q hq _ (List.getElem?_eq_getElem hq)
      simp only[go_sem,Nat.reduceLT,Nat.reduceAdd,Nat.reduceSub,Nat.reduceEqDiff,Nat.reduceLeDiff,Int.reduceEq,Int.reduceBEq,Int.reduceBNe,Int.reduceNeg,UInt8.reduceToNat,Nat.reduceBEq,h2,ACz hlt (by omega)]
      exact⟨_,by omega,j+1,hlt,rfl,step e3,rfl⟩
  ·have h1:¬((j:Int)<(t.Inodes.length:Int)):=by omega
   obtain rfl:j=t.Inodes.length:=by omega
   rw[good hp]
   simp only[go_sem,Nat.reduceLT,Nat.reduceAdd,Nat.reduceSub,Nat.reduceEqDiff,Nat.reduceLeDiff,Int.reduceEq,Int.reduceBEq,Int.reduceBNe,Int.reduceNeg,UInt8.reduceToNat,Nat.reduceBEq,h1]
set_option maxHeartbeats 8000000 in
theorem GFz (n:Nat) (hn:Big+10≤n) (t:TTab) (ht:t.ok):pcall env n 44 [.c .agg (t.pv.map ASz)] []=some ⟨pvSV (.b (Aaz t)),[]⟩:=by
 obtain⟨m,rfl⟩:=AFz hn
 have hB:=AXz
 have hbd:Bd=1048576:=rfl
 have hl:=ht.Inodes.2
 have ho:=ht.Inodes.1
 have htab:=Ooz m (deep hn (by decide)) t ht
 simp only[go_sem]at htab
 refine ARz (ADz (fn:=Tryz.f44) rfl rfl rfl (Nat.le_of_ble_eq_true rfl) ?_)
 unfold Tryz.f44
 cases htb:tabI t with
 |false=>
  have e:Aaz t=false:=by unfold Aaz;rw[htb];rfl
  rw[e]
  simp only[go_sem,Nat.reduceLT,Nat.reduceAdd,Nat.reduceSub,Nat.reduceEqDiff,Nat.reduceLeDiff,Int.reduceEq,Int.reduceBEq,Int.reduceBNe,Int.reduceNeg,UInt8.reduceToNat,Nat.reduceBEq,htab,htb]
  exact chk1 (by kernel_rfl)
 |true=>
 have hs:=Iqz htb
 obtain⟨L,hfull,hL1000,hre⟩:=KSz m (deep hn (by decide)) t ht hs
 simp only[go_sem]at hre
 have hrl:=OAz hfull
 have hLb:=GTz hs hfull.nd (fun k hk=>(hfull.mem k).1 hk)
 by_cases hlen:L.length=t.Inodes.length
 case neg=>
  have e:Aaz t=false:=by
   unfold Aaz
   rw[decide_eq_false (by rw[←hrl];exact hlen)]
   simp
  have hbne:(((L.length:Nat):Int) !=(t.Inodes.length:Nat))=true:=by simp;omega
  rw[e]
  simp only[go_sem,Nat.reduceLT,Nat.reduceAdd,Nat.reduceSub,Nat.reduceEqDiff,Nat.reduceLeDiff,Int.reduceEq,Int.reduceBEq,Int.reduceBNe,Int.reduceNeg,UInt8.reduceToNat,Nat.reduceBEq,htab,htb,hre,hbne]
  exact chk1 (by kernel_rfl)
 case pos=>
 have hbne:(((L.length:Nat):Int) !=(t.Inodes.length:Nat))=false:=by simp;omega
 have hdec:decide (rchN t.Inodes=t.Inodes.length)=true:=decide_eq_true (by rw[←hrl];exact hlen)
 have bad:∀j,j<t.Inodes.length→Bez t.Inodes j=false→Aaz t=false:=fun j hj e=>by
  unfold Aaz;rw[C8z hj e];simp
 have good:(∀i,i<t.Inodes.length→Bez t.Inodes i=true)→Aaz t=true:=fun h=>by
  unfold Aaz;rw[htb,hdec,Ckz h];rfl
 have hbt:t.Inodes.length<m:=by omega
 simp only[go_sem,Nat.reduceLT,Nat.reduceAdd,Nat.reduceSub,Nat.reduceEqDiff,Nat.reduceLeDiff,Int.reduceEq,Int.reduceBEq,Int.reduceBNe,Int.reduceNeg,UInt8.reduceToNat,Nat.reduceBEq,htab,htb,hre,hbne]
 refine chk (by kernel_rfl) ?_
 refine AGz (fun r σ=>∃j:Nat,j≤t.Inodes.length∧r=t.Inodes.length - j∧(∀i,i<j→Bez t.Inodes i=true)∧σ=slots 47 [(1,.c .box [.sh true (.s 6 (t.Inodes.map TInode.pv)),.sh false (.i .i64 t.Next)]),(20,.c .one [.sh true (.s 6 (t.Inodes.map TInode.pv))]),(21,.c .one [.sh false (.i .i64 (t.Inodes.length:Nat))]),(22,.c .one [.sh false (.i .i64 (j:Nat))])]) t.Inodes.length hbt ?_ ?_
 ·simp only[go_sem,Nat.reduceLT,Nat.reduceAdd,Nat.reduceSub,Nat.reduceEqDiff,Nat.reduceLeDiff,Int.reduceEq,Int.reduceBEq,Int.reduceBNe,Int.reduceNeg,UInt8.reduceToNat,Nat.reduceBEq]
  exact⟨0,Nat.zero_le _,rfl,fun i hi=>absurd hi (Nat.not_lt_zero _),rfl⟩
 ·rintro r σ ⟨j,hj,rfl,hp,rfl⟩
  by_cases hlt:j<t.Inodes.length
  ·have h1:((j:Int)<(t.Inodes.length:Int)):=by omega
   have hx:t.Inodes[j]? =some t.Inodes[j]:=List.getElem?_eq_getElem hlt
   have hok:=ho _ (List.getElem_mem hlt)
   generalize t.Inodes[j]=a at hx hok
   have step:Bez t.Inodes j=true→∀i,i<j+1→Bez t.Inodes i=true:=fun e i hi=>by
    rcases Nat.lt_succ_iff_lt_or_eq.1 hi with h|h
    ·exact hp i h
    ·subst h;exact e
   have hln:=MVz m (deep hn (by decide)) t ht a.Ino
   simp only[go_sem]at hln
   cases hk:(((BFz t.Inodes a.Ino:Nat):Int)==a.Links)with
   |false=>
    rw[bad j hlt (Lpz hx hk)]
    have hk':(a.Links !=((BFz t.Inodes a.Ino:Nat):Int))=true:=by unfold bne;rw[BEq.comm,hk];rfl
    simp only[go_sem,Nat.reduceLT,Nat.reduceAdd,Nat.reduceSub,Nat.reduceEqDiff,Nat.reduceLeDiff,Int.reduceEq,Int.reduceBEq,Int.reduceBNe,Int.reduceNeg,UInt8.reduceToNat,Nat.reduceBEq,h1,hx,hln,hk']
    exact chk1 (by kernel_rfl)
   |true=>
    have hk':(a.Links !=((BFz t.Inodes a.Ino:Nat):Int))=false:=by unfold bne;rw[BEq.comm,hk];rfl
    have e2:=Loz hx hk
    simp only[go_sem,Nat.reduceLT,Nat.reduceAdd,Nat.reduceSub,Nat.reduceEqDiff,Nat.reduceLeDiff,Int.reduceEq,Int.reduceBEq,Int.reduceBNe,Int.reduceNeg,UInt8.reduceToNat,Nat.reduceBEq,h1,hx,hln,hk']
    refine chk (by kernel_rfl) ?_
    have hel:=hok.Ents.2
    refine AGz (fun r σ=>∃i:Nat,i≤a.Ents.length∧r=a.Ents.length - i∧(∀q,q<i→∀e,a.Ents[q]? =some e→(AKz t.Inodes e.Ino).isSome=true)∧σ=slots 47 [(1,.c .box [.sh true (.s 6 (t.Inodes.map TInode.pv)),.sh false (.i .i64 t.Next)]),(4,.c .box [.sh false (.i .i64 a.Ino),.sh false (.i .i64 a.Kind),.sh false (.i .i64 a.Links),.sh true (.s 1 (a.Data.map bpv)),.sh true (.s 2 (a.Ents.map TEnt.pv)),.sh true (.s 2 (a.Attrs.map TAttr.pv))]),(20,.c .one [.sh true (.s 6 (t.Inodes.map TInode.pv))]),(21,.c .one [.sh false (.i .i64 (t.Inodes.length:Nat))]),(22,.c .one [.sh false (.i .i64 (j:Nat))]),(34,.c .one [.sh true (.s 2 (a.Ents.map TEnt.pv))]),(35,.c .one [.sh false (.i .i64 (a.Ents.length:Nat))]),(36,.c .one [.sh false (.i .i64 (i:Nat))])]) a.Ents.length (by omega) ?_ ?_
    ·simp only[go_sem,Nat.reduceLT,Nat.reduceAdd,Nat.reduceSub,Nat.reduceEqDiff,Nat.reduceLeDiff,Int.reduceEq,Int.reduceBEq,Int.reduceBNe,Int.reduceNeg,UInt8.reduceToNat,Nat.reduceBEq]
     exact⟨0,Nat.zero_le _,rfl,fun q hq=>absurd hq (Nat.not_lt_zero _),rfl⟩
    ·rintro r σ ⟨i,hi,rfl,hpe,rfl⟩
     by_cases hlt2:i<a.Ents.length
     ·have h2:((i:Int)<(a.Ents.length:Int)):=by omega
      have hy:a.Ents[i]? =some a.Ents[i]:=List.getElem?_eq_getElem hlt2
      generalize a.Ents[i]=e at hy
      have hpl:=JXz m (deep hn (by decide)) t ht e.Ino
      have hpg:=L7z (l:=t.Inodes) (k:=e.Ino)
      simp only[go_sem]at hpl
      cases hps:(AKz t.Inodes e.Ino).isSome with
      |false=>
       rw[hps]at hpg
       have hpg':BZz t.Inodes e.Ino<0:=by simpa using hpg
       rw[bad j hlt (by rw[e2];exact J3z hy hps)]
       simp only[go_sem,Nat.reduceLT,Nat.reduceAdd,Nat.reduceSub,Nat.reduceEqDiff,Nat.reduceLeDiff,Int.reduceEq,Int.reduceBEq,Int.reduceBNe,Int.reduceNeg,UInt8.reduceToNat,Nat.reduceBEq,h2,hy,hpl,hpg']
      |true=>
       rw[hps]at hpg
       have hpg':¬BZz t.Inodes e.Ino<0:=by simpa using hpg
       simp only[go_sem,Nat.reduceLT,Nat.reduceAdd,Nat.reduceSub,Nat.reduceEqDiff,Nat.reduceLeDiff,Int.reduceEq,Int.reduceBEq,Int.reduceBNe,Int.reduceNeg,UInt8.reduceToNat,Nat.reduceBEq,h2,hy,hpl,hpg',ACz hlt2 (by omega)]
       refine⟨_,by omega,i+1,hlt2,rfl,fun q hq e' he'=> ?_,rfl⟩
       rcases Nat.lt_succ_iff_lt_or_eq.1 hq with h|h
       ·exact hpe q h e' he'
       ·subst h;rw[hy]at he';injection he' with he';subst he';exact hps
     ·have h2:¬((i:Int)<(a.Ents.length:Int)):=by omega
      obtain rfl:i=a.Ents.length:=by omega
      have e3:Bez t.Inodes j=true:=by
       rw[e2]
       unfold Erz
       refine Ckz fun q hq=> ?_
       rw[List.getElem?_eq_getElem hq]
       exact hpe q hq _ (List.getElem?_eq_getElem hq)
      simp only[go_sem,Nat.reduceLT,Nat.reduceAdd,Nat.reduceSub,Nat.reduceEqDiff,Nat.reduceLeDiff,Int.reduceEq,Int.reduceBEq,Int.reduceBNe,Int.reduceNeg,UInt8.reduceToNat,Nat.reduceBEq,h2,ACz hlt (by omega)]
      exact⟨_,by omega,j+1,hlt,rfl,step e3,rfl⟩
  ·have h1:¬((j:Int)<(t.Inodes.length:Int)):=by omega
   obtain rfl:j=t.Inodes.length:=by omega
   rw[good hp]
   simp only[go_sem,Nat.reduceLT,Nat.reduceAdd,Nat.reduceSub,Nat.reduceEqDiff,Nat.reduceLeDiff,Int.reduceEq,Int.reduceBEq,Int.reduceBNe,Int.reduceNeg,UInt8.reduceToNat,Nat.reduceBEq,h1]
end Go.Proofs.YtblelojdboefjaaGreatDoor.R
namespace Go.Proofs.YtblelojdboefjaaGreatDoor.R
open Go
def entI (es:List TEnt) (nm:List UInt8):Int:=match es.find? (fun e=>e.Name.toList==nm)with
 |some e=>e.Ino
 |none=>0
theorem I6z {es:List TEnt} {nm:List UInt8} {j:Nat} {a:TEnt} (hx:es[j]? =some a) (ha:(a.Name.toList==nm)=true) (hp:∀(i:Nat) (y:TEnt),i<j→es[i]? =some y→(y.Name.toList==nm)=false):entI es nm=a.Ino:=by
 have:es.find? (fun e=>e.Name.toList==nm)=some a:=by
  rw[List.find?_eq_some_iff_getElem]
  obtain⟨hj,hja⟩:=List.getElem?_eq_some_iff.1 hx
  exact⟨ha,j,hj,hja,fun i hi=>by simpa using hp i _ hi (List.getElem?_eq_getElem (by omega))⟩
 unfold entI;rw[this]
theorem Mvz {es:List TEnt} {nm:List UInt8} (hp:∀(i:Nat) (y:TEnt),i<es.length→es[i]? =some y→(y.Name.toList==nm)=false):entI es nm=0:=by
 have:es.find? (fun e=>e.Name.toList==nm)=none:=by
  rw[List.find?_eq_none]
  intro y hy
  obtain⟨i,hi⟩:=List.getElem?_of_mem hy
  simpa using hp i y (List.getElem?_eq_some_iff.1 hi).1 hi
 unfold entI;rw[this]
set_option maxHeartbeats 1000000 in
theorem PVz (n:Nat) (hn:Big+2≤n) (x:TInode) (hxo:x.ok) (s:ByteArray):pcall env n 206 [.c .agg (x.pv.map ASz),pvSV (.t s)] []=some ⟨pvSV (.i .i64 (entI x.Ents s.toList)),[]⟩:=by
 obtain⟨m,rfl⟩:=AFz hn
 have hB:=AXz
 have hbd:Bd=1048576:=rfl
 have hl:=hxo.Ents.2
 refine ARz (ADz (fn:=Tryz.f206) rfl rfl rfl (Nat.le_of_ble_eq_true rfl) ?_)
 unfold Tryz.f206
 simp only[go_sem,Nat.reduceLT,Nat.reduceAdd,Nat.reduceSub,Nat.reduceEqDiff,Nat.reduceLeDiff,Int.reduceEq,Int.reduceBEq,Int.reduceBNe,Int.reduceNeg,UInt8.reduceToNat,Nat.reduceBEq]
 refine AGz (fun r σ=>∃j:Nat,j≤x.Ents.length∧r=x.Ents.length - j∧(∀(i:Nat) (y:TEnt),i<j→x.Ents[i]? =some y→(y.Name.toList==s.toList)=false)∧σ=slots 21 [(1,.c .one [.sh false (.t s)]),(2,.c .box [.sh false (.i .i64 x.Ino),.sh false (.i .i64 x.Kind),.sh false (.i .i64 x.Links),.sh true (.s 1 (x.Data.map bpv)),.sh true (.s 2 (x.Ents.map TEnt.pv)),.sh true (.s 2 (x.Attrs.map TAttr.pv))]),(8,.c .one [.sh true (.s 2 (x.Ents.map TEnt.pv))]),(9,.c .one [.sh false (.i .i64 (x.Ents.length:Nat))]),(10,.c .one [.sh false (.i .i64 (j:Nat))])]) x.Ents.length (by omega) ?_ ?_
 ·simp only[go_sem,Nat.reduceLT,Nat.reduceAdd,Nat.reduceSub,Nat.reduceEqDiff,Nat.reduceLeDiff,Int.reduceEq,Int.reduceBEq,Int.reduceBNe,Int.reduceNeg,UInt8.reduceToNat,Nat.reduceBEq]
  exact⟨0,Nat.zero_le _,rfl,fun i y hi=>absurd hi (Nat.not_lt_zero _),rfl⟩
 ·rintro r σ ⟨j,hj,rfl,hp,rfl⟩
  by_cases hlt:j<x.Ents.length
  ·have h1:((j:Int)<(x.Ents.length:Int)):=by omega
   have hx:x.Ents[j]? =some x.Ents[j]:=List.getElem?_eq_getElem hlt
   generalize x.Ents[j]=a at hx
   cases ha:(a.Name.toList==s.toList)with
   |true=>
    rw[I6z hx ha hp]
    simp only[go_sem,Nat.reduceLT,Nat.reduceAdd,Nat.reduceSub,Nat.reduceEqDiff,Nat.reduceLeDiff,Int.reduceEq,Int.reduceBEq,Int.reduceBNe,Int.reduceNeg,UInt8.reduceToNat,Nat.reduceBEq,h1,hx,ha]
   |false=>
    simp only[go_sem,Nat.reduceLT,Nat.reduceAdd,Nat.reduceSub,Nat.reduceEqDiff,Nat.reduceLeDiff,Int.reduceEq,Int.reduceBEq,Int.reduceBNe,Int.reduceNeg,UInt8.reduceToNat,Nat.reduceBEq,h1,hx,ha,ACz hlt (by omega)]
    refine⟨_,by omega,j+1,hlt,rfl,fun i y hi hy=> ?_,by with_reducible rfl⟩
    rcases Nat.lt_succ_iff_lt_or_eq.1 hi with h|h
    ·exact hp i y h hy
    ·subst h;rw[hx]at hy;injection hy with hy;subst hy;exact ha
  ·have h1:¬((j:Int)<(x.Ents.length:Int)):=by omega
   obtain rfl:j=x.Ents.length:=by omega
   rw[Mvz hp]
   simp only[go_sem,Nat.reduceLT,Nat.reduceAdd,Nat.reduceSub,Nat.reduceEqDiff,Nat.reduceLeDiff,Int.reduceEq,Int.reduceBEq,Int.reduceBNe,Int.reduceNeg,UInt8.reduceToNat,Nat.reduceBEq,h1]
set_option maxHeartbeats 1000000 in
theorem PUz (n:Nat) (hn:Big+2≤n) (x:TInode) (hxo:x.ok) (s:ByteArray):pcall env n 251 [.c .agg (x.pv.map ASz),pvSV (.t s)] []=some ⟨pvSV (.i .i64 (entI x.Ents s.toList)),[]⟩:=by
 obtain⟨m,rfl⟩:=AFz hn
 have hB:=AXz
 have hbd:Bd=1048576:=rfl
 have hl:=hxo.Ents.2
 refine ARz (ADz (fn:=Tryz.f251) rfl rfl rfl (Nat.le_of_ble_eq_true rfl) ?_)
 unfold Tryz.f251
 simp only[go_sem,Nat.reduceLT,Nat.reduceAdd,Nat.reduceSub,Nat.reduceEqDiff,Nat.reduceLeDiff,Int.reduceEq,Int.reduceBEq,Int.reduceBNe,Int.reduceNeg,UInt8.reduceToNat,Nat.reduceBEq]
 refine AGz (fun r σ=>∃j:Nat,j≤x.Ents.length∧r=x.Ents.length - j∧(∀(i:Nat) (y:TEnt),i<j→x.Ents[i]? =some y→(y.Name.toList==s.toList)=false)∧σ=slots 27 [(1,.c .one [.sh false (.t s)]),(2,.c .box [.sh false (.i .i64 x.Ino),.sh false (.i .i64 x.Kind),.sh false (.i .i64 x.Links),.sh true (.s 1 (x.Data.map bpv)),.sh true (.s 2 (x.Ents.map TEnt.pv)),.sh true (.s 2 (x.Attrs.map TAttr.pv))]),(5,.c .one [.sh false (.i .i64 (j:Nat))])]) x.Ents.length (by omega) ?_ ?_
 ·simp only[go_sem,Nat.reduceLT,Nat.reduceAdd,Nat.reduceSub,Nat.reduceEqDiff,Nat.reduceLeDiff,Int.reduceEq,Int.reduceBEq,Int.reduceBNe,Int.reduceNeg,UInt8.reduceToNat,Nat.reduceBEq]
  exact⟨0,Nat.zero_le _,rfl,fun i y hi=>absurd hi (Nat.not_lt_zero _),rfl⟩
 ·rintro r σ ⟨j,hj,rfl,hp,rfl⟩
  by_cases hlt:j<x.Ents.length
  ·have h1:((j:Int)<(x.Ents.length:Int)):=by omega
   have hx:x.Ents[j]? =some x.Ents[j]:=List.getElem?_eq_getElem hlt
   generalize x.Ents[j]=a at hx
   cases ha:(a.Name.toList==s.toList)with
   |true=>
    rw[I6z hx ha hp]
    simp only[go_sem,Nat.reduceLT,Nat.reduceAdd,Nat.reduceSub,Nat.reduceEqDiff,Nat.reduceLeDiff,Int.reduceEq,Int.reduceBEq,Int.reduceBNe,Int.reduceNeg,UInt8.reduceToNat,Nat.reduceBEq,h1,hx,ha]
   |false=>
    simp only[go_sem,Nat.reduceLT,Nat.reduceAdd,Nat.reduceSub,Nat.reduceEqDiff,Nat.reduceLeDiff,Int.reduceEq,Int.reduceBEq,Int.reduceBNe,Int.reduceNeg,UInt8.reduceToNat,Nat.reduceBEq,h1,hx,ha,ACz hlt (by omega)]
    refine⟨_,by omega,j+1,hlt,rfl,fun i y hi hy=> ?_,by with_reducible rfl⟩
    rcases Nat.lt_succ_iff_lt_or_eq.1 hi with h|h
    ·exact hp i y h hy
    ·subst h;rw[hx]at hy;injection hy with hy;subst hy;exact ha
  ·have h1:¬((j:Int)<(x.Ents.length:Int)):=by omega
   obtain rfl:j=x.Ents.length:=by omega
   rw[Mvz hp]
   simp only[go_sem,Nat.reduceLT,Nat.reduceAdd,Nat.reduceSub,Nat.reduceEqDiff,Nat.reduceLeDiff,Int.reduceEq,Int.reduceBEq,Int.reduceBNe,Int.reduceNeg,UInt8.reduceToNat,Nat.reduceBEq,h1]
end Go.Proofs.YtblelojdboefjaaGreatDoor.R
namespace Go.Proofs.YtblelojdboefjaaGreatDoor.R
open Go
def BCz (l:List TInode):List (List UInt8)→Int→Int×Int
 |[],k=>(k,0)
 |nm::ns,k=>match AKz l k with
  |none=>(0,2)
  |some x=>match x.Kind==2 with
   |false=>(0,3)
   |true=>match entI x.Ents nm==0 with
    |true=>(0,2)
    |false=>BCz l ns (entI x.Ents nm)
def Amz (l:List TInode) (p:List UInt8):Int×Int:=match Bbz p with
 |none=>(0,1)
 |some ns=>BCz l ns 1
theorem JCz {l:List TInode} {nm:List UInt8} {ns:List (List UInt8)} {k:Int} (h:AKz l k=none):BCz l (nm::ns) k=(0,2):=by
 simp only[BCz,h]
theorem JEz {l:List TInode} {nm:List UInt8} {ns:List (List UInt8)} {k:Int} {x:TInode} (h:AKz l k=some x) (hk:(x.Kind==2)=false):BCz l (nm::ns) k=(0,3):=by
 simp only[BCz,h,hk]
theorem JBz {l:List TInode} {nm:List UInt8} {ns:List (List UInt8)} {k:Int} {x:TInode} (h:AKz l k=some x) (hk:(x.Kind==2)=true) (he:(entI x.Ents nm==0)=true):BCz l (nm::ns) k=(0,2):=by
 simp only[BCz,h,hk,he]
theorem JDz {l:List TInode} {nm:List UInt8} {ns:List (List UInt8)} {k:Int} {x:TInode} (h:AKz l k=some x) (hk:(x.Kind==2)=true) (he:(entI x.Ents nm==0)=false):BCz l (nm::ns) k=BCz l ns (entI x.Ents nm):=by
 simp only[BCz,h,hk,he]
theorem F8z {α:Type} {l:List α} {i:Nat} {a:α} (h:l[i]? =some a):l.drop i=a::l.drop (i+1):=by
 obtain⟨hj,ha⟩:=List.getElem?_eq_some_iff.1 h
 rw[List.drop_eq_getElem_cons hj,ha]
theorem MAz {p:List UInt8} {ns:List (List UInt8)} (h:Bbz p=some ns):ns.length≤30:=by
 unfold Bbz at h
 split at h
 ·injection h with h;subst h;simp
 ·split at h
  ·split at h
   ·rename_i hc
    injection h with h;subst h
    simp only[Bool.and_eq_true,decide_eq_true_eq]at hc
    exact hc.1
   ·simp at h
  ·simp at h
def tup2 (w:Int×Int):List CV:=[.sh false (.i .i64 w.1),.sh false (.i .i64 w.2)]
set_option maxHeartbeats 4000000 in
theorem Qcz (n:Nat) (hn:Big+4≤n) (t:TTab) (ht:t.ok) (ns:List (List UInt8)) (hns:ns.length≤Bd):pcall env n 241 [.c .agg (t.pv.map ASz),.c .one [.sh true (.s 1 (ns.map ppv))]] []=some ⟨.c (.tup [(false,1),(false,1)]) (tup2 (BCz t.Inodes ns 1)),[]⟩:=by
 obtain⟨m,rfl⟩:=AFz hn
 have hB:=AXz
 have hbd:Bd=1048576:=rfl
 refine ARz (ADz (fn:=Tryz.f241) rfl rfl rfl (Nat.le_of_ble_eq_true rfl) ?_)
 unfold Tryz.f241
 simp only[go_sem,Nat.reduceLT,Nat.reduceAdd,Nat.reduceSub,Nat.reduceEqDiff,Nat.reduceLeDiff,Int.reduceEq,Int.reduceBEq,Int.reduceBNe,Int.reduceNeg,UInt8.reduceToNat,Nat.reduceBEq]
 generalize hW:BCz t.Inodes ns 1=W
 refine AGz (fun r σ=>∃(i:Nat) (k:Int),i≤ns.length∧r=ns.length - i∧BCz t.Inodes (ns.drop i) k=W∧σ=slots 40 [(1,.c .one [.sh true (.s 1 (ns.map ppv))]),(2,.c .box [.sh true (.s 6 (t.Inodes.map TInode.pv)),.sh false (.i .i64 t.Next)]),(6,.c .one [.sh false (.i .i64 k)]),(7,.c .one [.sh false (.i .i64 (i:Nat))])]) ns.length (by omega) ?_ ?_
 ·simp only[go_sem,Nat.reduceLT,Nat.reduceAdd,Nat.reduceSub,Nat.reduceEqDiff,Nat.reduceLeDiff,Int.reduceEq,Int.reduceBEq,Int.reduceBNe,Int.reduceNeg,UInt8.reduceToNat,Nat.reduceBEq]
  exact⟨0,1,Nat.zero_le _,rfl,hW,rfl⟩
 ·rintro r σ ⟨i,k,hi,rfl,hw,rfl⟩
  by_cases hlt:i<ns.length
  ·have h1:((i:Int)<(ns.length:Int)):=by omega
   have hx:ns[i]? =some ns[i]:=List.getElem?_eq_getElem hlt
   generalize ns[i]=nm at hx
   rw[F8z hx]at hw
   have hl4:=Gaz m (deep hn (by decide)) t ht k
   simp only[go_sem]at hl4
   rcases Eez t.Inodes k with⟨p1,p2⟩|⟨j,x,p1,hxj,p2⟩
   ·rw[JCz p2]at hw
    subst hw
    rw[p1]at hl4
    simp only[go_sem,Nat.reduceLT,Nat.reduceAdd,Nat.reduceSub,Nat.reduceEqDiff,Nat.reduceLeDiff,Int.reduceEq,Int.reduceBEq,Int.reduceBNe,Int.reduceNeg,UInt8.reduceToNat,Nat.reduceBEq,h1,hl4,tup2]
   ·have hno:AKz t.Inodes k=some x:=p2
    rw[p1]at hl4
    have hneg:¬((j:Int)<0):=by omega
    cases hk:(x.Kind==2)with
    |false=>
     have hk':(x.Kind !=2)=true:=by unfold bne;rw[hk];rfl
     rw[JEz hno hk]at hw
     subst hw
     simp only[go_sem,Nat.reduceLT,Nat.reduceAdd,Nat.reduceSub,Nat.reduceEqDiff,Nat.reduceLeDiff,Int.reduceEq,Int.reduceBEq,Int.reduceBNe,Int.reduceNeg,UInt8.reduceToNat,Nat.reduceBEq,h1,hl4,hneg,hxj,hk',tup2]
    |true=>
     have hk':(x.Kind !=2)=false:=by unfold bne;rw[hk];rfl
     have hxo:=ht.Inodes.1 _ (List.mem_of_getElem? hxj)
     have hen:=PUz m (deep hn (by decide)) x hxo ⟨⟨nm⟩⟩
     simp only[go_sem]at hen
     cases he:(entI x.Ents nm==0)with
     |true=>
      rw[JBz hno hk he]at hw
      subst hw
      simp only[go_sem,Nat.reduceLT,Nat.reduceAdd,Nat.reduceSub,Nat.reduceEqDiff,Nat.reduceLeDiff,Int.reduceEq,Int.reduceBEq,Int.reduceBNe,Int.reduceNeg,UInt8.reduceToNat,Nat.reduceBEq,h1,hl4,hneg,hxj,hk',hx,hen,he,tup2]
      exact chk1 (by kernel_rfl)
     |false=>
      rw[JDz hno hk he]at hw
      simp only[go_sem,Nat.reduceLT,Nat.reduceAdd,Nat.reduceSub,Nat.reduceEqDiff,Nat.reduceLeDiff,Int.reduceEq,Int.reduceBEq,Int.reduceBNe,Int.reduceNeg,UInt8.reduceToNat,Nat.reduceBEq,h1,hl4,hneg,hxj,hk',hx,hen,he,ACz hlt (by omega)]
      exact chk (by kernel_rfl) ⟨_,by omega,i+1,_,hlt,rfl,hw,by with_reducible rfl⟩
  ·have h1:¬((i:Int)<(ns.length:Int)):=by omega
   obtain rfl:i=ns.length:=by omega
   rw[List.drop_length]at hw
   have hw:(k,(0:Int))=W:=hw
   subst hw
   simp only[go_sem,Nat.reduceLT,Nat.reduceAdd,Nat.reduceSub,Nat.reduceEqDiff,Nat.reduceLeDiff,Int.reduceEq,Int.reduceBEq,Int.reduceBNe,Int.reduceNeg,UInt8.reduceToNat,Nat.reduceBEq,h1,tup2]
theorem IQz (n:Nat) (hn:Big+5≤n) (t:TTab) (ht:t.ok) (p:List UInt8) (hp:p.length≤Bd):pcall env n 193 [.c .agg (t.pv.map ASz),pvSV (.t ⟨⟨p⟩⟩)] []=some ⟨.c (.tup [(false,1),(false,1)]) (tup2 (Amz t.Inodes p)),[]⟩:=by
 obtain⟨m,rfl⟩:=AFz hn
 have hbd:Bd=1048576:=rfl
 have hsp:=Lvz m (deep hn (by decide)) p hp
 simp only[go_sem]at hsp
 refine ARz (ADz (fn:=Tryz.f193) rfl rfl rfl (Nat.le_of_ble_eq_true rfl) ?_)
 unfold Tryz.f193
 unfold Amz
 cases hpl:Bbz p with
 |none=>
  rw[hpl]at hsp
  simp only[DMz]at hsp
  simp only[go_sem,Nat.reduceLT,Nat.reduceAdd,Nat.reduceSub,Nat.reduceEqDiff,Nat.reduceLeDiff,Int.reduceEq,Int.reduceBEq,Int.reduceBNe,Int.reduceNeg,UInt8.reduceToNat,Nat.reduceBEq,hsp,tup2]
 |some ns=>
  rw[hpl]at hsp
  simp only[DMz]at hsp
  have hw:=Qcz m (deep hn (by decide)) t ht ns (Nat.le_trans (MAz hpl) (by decide))
  simp only[go_sem,tup2]at hw
  simp only[go_sem,Nat.reduceLT,Nat.reduceAdd,Nat.reduceSub,Nat.reduceEqDiff,Nat.reduceLeDiff,Int.reduceEq,Int.reduceBEq,Int.reduceBNe,Int.reduceNeg,UInt8.reduceToNat,Nat.reduceBEq,hsp,hw,tup2]
set_option maxHeartbeats 4000000 in
theorem GCz (n:Nat) (hn:Big+8≤n) (t:TTab) (ht:t.ok) (p:List UInt8) (hp:p.length≤Bd):pcall env n 122 [.c .agg (t.pv.map ASz),pvSV (.t ⟨⟨p⟩⟩)] []=some ⟨.c (.tup [(false,1),(false,1)]) (tup2 (Amz t.Inodes p)),[]⟩:=by
 obtain⟨m,rfl⟩:=AFz hn
 have hB:=AXz
 have hbd:Bd=1048576:=rfl
 have hsp:=Lwz m (deep hn (by decide)) p hp
 simp only[go_sem]at hsp
 refine ARz (ADz (fn:=Tryz.f122) rfl rfl rfl (Nat.le_of_ble_eq_true rfl) ?_)
 unfold Tryz.f122
 cases hpl:Bbz p with
 |none=>
  rw[show Amz t.Inodes p=(0,1)by unfold Amz;rw[hpl]]
  rw[hpl]at hsp
  simp only[EGz]at hsp
  simp only[go_sem,Nat.reduceLT,Nat.reduceAdd,Nat.reduceSub,Nat.reduceEqDiff,Nat.reduceLeDiff,Int.reduceEq,Int.reduceBEq,Int.reduceBNe,Int.reduceNeg,UInt8.reduceToNat,Nat.reduceBEq,hsp,tup2]
 |some ns=>
  rw[show Amz t.Inodes p=BCz t.Inodes ns 1 by unfold Amz;rw[hpl]]
  rw[hpl]at hsp
  have hnl:=MAz hpl
  cases ns with
  |nil=>
   simp only[EGz]at hsp
   simp only[go_sem,Nat.reduceLT,Nat.reduceAdd,Nat.reduceSub,Nat.reduceEqDiff,Nat.reduceLeDiff,Int.reduceEq,Int.reduceBEq,Int.reduceBNe,Int.reduceNeg,UInt8.reduceToNat,Nat.reduceBEq,hsp,tup2]
   refine B1z (by omega) ?_
   simp only[go_sem,Nat.reduceLT,Nat.reduceAdd,Nat.reduceSub,Nat.reduceEqDiff,Nat.reduceLeDiff,Int.reduceEq,Int.reduceBEq,Int.reduceBNe,Int.reduceNeg,UInt8.reduceToNat,Nat.reduceBEq,tup2,BCz]
  |cons a ns=>
  simp only[EGz]at hsp
  generalize hqs:a::ns=qs at hsp hnl ⊢
  generalize hW:BCz t.Inodes qs 1=W
  simp only[go_sem,Nat.reduceLT,Nat.reduceAdd,Nat.reduceSub,Nat.reduceEqDiff,Nat.reduceLeDiff,Int.reduceEq,Int.reduceBEq,Int.reduceBNe,Int.reduceNeg,UInt8.reduceToNat,Nat.reduceBEq,hsp,tup2]
  refine AGz (fun r σ=>∃(i:Nat) (k:Int),i≤qs.length∧r=qs.length - i∧BCz t.Inodes (qs.drop i) k=W∧σ=slots 46 [(2,.c .box [.sh true (.s 6 (t.Inodes.map TInode.pv)),.sh false (.i .i64 t.Next)]),(8,.c .one [.sh false (.i .i64 k)]),(20,.c .one [.sh false (.s 1 (qs.map ppv))]),(21,.c .one [.sh false (.i .i64 (qs.length:Nat))]),(22,.c .one [.sh false (.i .i64 (i:Nat))])]) qs.length (by omega) ?_ ?_
  ·simp only[go_sem,Nat.reduceLT,Nat.reduceAdd,Nat.reduceSub,Nat.reduceEqDiff,Nat.reduceLeDiff,Int.reduceEq,Int.reduceBEq,Int.reduceBNe,Int.reduceNeg,UInt8.reduceToNat,Nat.reduceBEq]
   exact⟨0,1,Nat.zero_le _,rfl,hW,rfl⟩
  ·rintro r σ ⟨i,k,hi,rfl,hw,rfl⟩
   by_cases hlt:i<qs.length
   ·have h1:((i:Int)<(qs.length:Int)):=by omega
    have hx:qs[i]? =some qs[i]:=List.getElem?_eq_getElem hlt
    generalize qs[i]=nm at hx
    rw[F8z hx]at hw
    have hat:=Byz m (deep hn (by decide)) t ht k
    simp only[go_sem]at hat
    unfold atC at hat
    cases hf:AKz t.Inodes k with
    |none=>
     rw[JCz hf]at hw
     unfold AKz at hf
     rw[hf]at hat
     simp only[go_sem,Bpz]at hat
     subst hw
     simp only[go_sem,Nat.reduceLT,Nat.reduceAdd,Nat.reduceSub,Nat.reduceEqDiff,Nat.reduceLeDiff,Int.reduceEq,Int.reduceBEq,Int.reduceBNe,Int.reduceNeg,UInt8.reduceToNat,Nat.reduceBEq,h1,hx,hat,tup2]
    |some x=>
     have hno:=hf
     have hxo:=ht.Inodes.1 _ (Ayz hf).1
     unfold AKz at hf
     rw[hf]at hat
     simp only[go_sem,BMz]at hat
     cases hk:(x.Kind==2)with
     |false=>
      have hk':(x.Kind !=2)=true:=by unfold bne;rw[hk];rfl
      rw[JEz hno hk]at hw
      subst hw
      simp only[go_sem,Nat.reduceLT,Nat.reduceAdd,Nat.reduceSub,Nat.reduceEqDiff,Nat.reduceLeDiff,Int.reduceEq,Int.reduceBEq,Int.reduceBNe,Int.reduceNeg,UInt8.reduceToNat,Nat.reduceBEq,h1,hx,hat,hk',tup2]
     |true=>
      have hk':(x.Kind !=2)=false:=by unfold bne;rw[hk];rfl
      have hen:=PVz m (deep hn (by decide)) x hxo ⟨⟨nm⟩⟩
      simp only[go_sem]at hen
      cases he:(entI x.Ents nm==0)with
      |true=>
       rw[JBz hno hk he]at hw
       subst hw
       simp only[go_sem,Nat.reduceLT,Nat.reduceAdd,Nat.reduceSub,Nat.reduceEqDiff,Nat.reduceLeDiff,Int.reduceEq,Int.reduceBEq,Int.reduceBNe,Int.reduceNeg,UInt8.reduceToNat,Nat.reduceBEq,h1,hx,hat,hk',hen,he,tup2]
      |false=>
       rw[JDz hno hk he]at hw
       simp only[go_sem,Nat.reduceLT,Nat.reduceAdd,Nat.reduceSub,Nat.reduceEqDiff,Nat.reduceLeDiff,Int.reduceEq,Int.reduceBEq,Int.reduceBNe,Int.reduceNeg,UInt8.reduceToNat,Nat.reduceBEq,h1,hx,hat,hk',hen,he,ACz hlt (by omega)]
       exact⟨_,by omega,i+1,_,hlt,rfl,hw,by with_reducible rfl⟩
   ·have h1:¬((i:Int)<(qs.length:Int)):=by omega
    obtain rfl:i=qs.length:=by omega
    rw[List.drop_length]at hw
    have hw:(k,(0:Int))=W:=hw
    subst hw
    simp only[go_sem,Nat.reduceLT,Nat.reduceAdd,Nat.reduceSub,Nat.reduceEqDiff,Nat.reduceLeDiff,Int.reduceEq,Int.reduceBEq,Int.reduceBNe,Int.reduceNeg,UInt8.reduceToNat,Nat.reduceBEq,h1,tup2]
def Glz (l:List TInode) (p:List UInt8):List CV:=match(Amz l p).2==0 with
 |false=>Bpz++[.sh false (.i .i64 (Amz l p).2)]
 |true=>match AKz l (Amz l p).1 with
  |none=>Bpz++[.sh false (.i .i64 2)]
  |some x=>BMz x++[.sh false (.i .i64 0)]
set_option maxHeartbeats 4000000 in
theorem Naz (n:Nat) (hn:Big+9≤n) (t:TTab) (ht:t.ok) (p:List UInt8) (hp:p.length≤Bd):pcall env n 87 [.c .agg (t.pv.map ASz),pvSV (.t ⟨⟨p⟩⟩)] []=some ⟨.c (.tup [(true,6),(false,1)]) (Glz t.Inodes p),[]⟩:=by
 obtain⟨m,rfl⟩:=AFz hn
 have hbd:Bd=1048576:=rfl
 have hwk:=GCz m (deep hn (by decide)) t ht p hp
 have hat:=Byz m (deep hn (by decide)) t ht (Amz t.Inodes p).1
 simp only[go_sem,tup2]at hwk hat
 refine ARz (ADz (fn:=Tryz.f87) rfl rfl rfl (Nat.le_of_ble_eq_true rfl) ?_)
 unfold Tryz.f87
 unfold Glz
 cases hc:((Amz t.Inodes p).2==0)with
 |false=>
  have hc':((Amz t.Inodes p).2 !=0)=true:=by unfold bne;rw[hc];rfl
  simp only[go_sem,Nat.reduceLT,Nat.reduceAdd,Nat.reduceSub,Nat.reduceEqDiff,Nat.reduceLeDiff,Int.reduceEq,Int.reduceBEq,Int.reduceBNe,Int.reduceNeg,UInt8.reduceToNat,Nat.reduceBEq,hwk,hc',Bpz]
 |true=>
  have hc':((Amz t.Inodes p).2 !=0)=false:=by unfold bne;rw[hc];rfl
  unfold atC at hat
  cases hf:AKz t.Inodes (Amz t.Inodes p).1 with
  |none=>
   unfold AKz at hf
   rw[hf]at hat
   simp only[go_sem,Bpz]at hat
   simp only[go_sem,Nat.reduceLT,Nat.reduceAdd,Nat.reduceSub,Nat.reduceEqDiff,Nat.reduceLeDiff,Int.reduceEq,Int.reduceBEq,Int.reduceBNe,Int.reduceNeg,UInt8.reduceToNat,Nat.reduceBEq,hwk,hc',hat,Bpz]
  |some x=>
   unfold AKz at hf
   rw[hf]at hat
   simp only[go_sem,BMz]at hat
   simp only[go_sem,Nat.reduceLT,Nat.reduceAdd,Nat.reduceSub,Nat.reduceEqDiff,Nat.reduceLeDiff,Int.reduceEq,Int.reduceBEq,Int.reduceBNe,Int.reduceNeg,UInt8.reduceToNat,Nat.reduceBEq,hwk,hc',hat,BMz]
set_option maxHeartbeats 4000000 in
theorem NZz (n:Nat) (hn:Big+9≤n) (t:TTab) (ht:t.ok) (p:List UInt8) (hp:p.length≤Bd):pcall env n 111 [.c .agg (t.pv.map ASz),pvSV (.t ⟨⟨p⟩⟩)] []=some ⟨.c (.tup [(true,6),(false,1)]) (Glz t.Inodes p),[]⟩:=by
 obtain⟨m,rfl⟩:=AFz hn
 have hbd:Bd=1048576:=rfl
 have hwk:=IQz m (deep hn (by decide)) t ht p hp
 have hat:=Cqz m (deep hn (by decide)) t ht (Amz t.Inodes p).1
 simp only[go_sem,tup2]at hwk hat
 refine ARz (ADz (fn:=Tryz.f111) rfl rfl rfl (Nat.le_of_ble_eq_true rfl) ?_)
 unfold Tryz.f111
 unfold Glz
 cases hc:((Amz t.Inodes p).2==0)with
 |false=>
  have hc':((Amz t.Inodes p).2 !=0)=true:=by unfold bne;rw[hc];rfl
  simp only[go_sem,Nat.reduceLT,Nat.reduceAdd,Nat.reduceSub,Nat.reduceEqDiff,Nat.reduceLeDiff,Int.reduceEq,Int.reduceBEq,Int.reduceBNe,Int.reduceNeg,UInt8.reduceToNat,Nat.reduceBEq,hwk,hc',Bpz]
 |true=>
  have hc':((Amz t.Inodes p).2 !=0)=false:=by unfold bne;rw[hc];rfl
  unfold atC at hat
  cases hf:AKz t.Inodes (Amz t.Inodes p).1 with
  |none=>
   unfold AKz at hf
   rw[hf]at hat
   simp only[go_sem,Bpz]at hat
   simp only[go_sem,Nat.reduceLT,Nat.reduceAdd,Nat.reduceSub,Nat.reduceEqDiff,Nat.reduceLeDiff,Int.reduceEq,Int.reduceBEq,Int.reduceBNe,Int.reduceNeg,UInt8.reduceToNat,Nat.reduceBEq,hwk,hc',hat,Bpz]
  |some x=>
   unfold AKz at hf
   rw[hf]at hat
   simp only[go_sem,BMz]at hat
   simp only[go_sem,Nat.reduceLT,Nat.reduceAdd,Nat.reduceSub,Nat.reduceEqDiff,Nat.reduceLeDiff,Int.reduceEq,Int.reduceBEq,Int.reduceBNe,Int.reduceNeg,UInt8.reduceToNat,Nat.reduceBEq,hwk,hc',hat,BMz]
end Go.Proofs.YtblelojdboefjaaGreatDoor.R
namespace Go.Proofs.YtblelojdboefjaaGreatDoor.R
open Go
def Awz (l:List TInode) (k:Int):List TEnt:=match AKz l k with
 |some x=>x.Ents
 |none=>[]
def own (l:List TInode) (k:Int):List Int:=(Awz l k).map (·.Ino)
def lv (l:List TInode):Nat→List Int→List Int
 |0,s=>s
 |k+1,s=>lv l k (s.flatMap (own l))
theorem D8z (l:List TInode):∀(k:Nat) (s:List Int),lv l (k+1) s=(lv l k s).flatMap (own l)
 |0,s=>rfl
 |k+1,s=>D8z l k (s.flatMap (own l))
theorem QUz (l:List TInode):∀k,lv l k []=[]
 |0=>rfl
 |k+1=>QUz l k
theorem Enz (l:List TInode):∀(k:Nat) (a b:List Int),lv l k (a++b)=lv l k a++lv l k b
 |0,a,b=>rfl
 |k+1,a,b=>by simp only[lv,List.flatMap_append];exact Enz l k _ _
theorem U5z {l:List TInode} {k:Nat} {s:List Int} (h:lv l k s=[]) {d:Int} (hd:d∈s):lv l k [d]=[]:=by
 obtain⟨a,b,rfl⟩:=List.append_of_mem hd
 rw[show a++d::b=a++([d]++b)from rfl,Enz,Enz]at h
 simp only[List.append_eq_nil_iff]at h
 exact h.2.1
structure Tree (l:List TInode):Prop where
 one:∀d y,own l d≠[]→(own l y).count d≤1
 par:∀d y z,own l d≠[]→d∈own l y→d∈own l z→y=z
 root:∀y,¬(1:Int)∈own l y
 few:l.length≤30
 ten:∀y,(own l y).length≤10
theorem N6z {g:Int→Nat}:∀{L:List Int},(∀y,g y≤1)→(∀y z,0<g y→0<g z→y=z)→(∀y,0<g y→L.count y≤1)→(L.map g).sum≤1
 |[],_,_,_=>by simp
 |a::L,h1,h2,h3=>by
  simp only[List.map_cons,List.sum_cons]
  by_cases ha:g a=0
  ·rw[ha,Nat.zero_add]
   exact N6z h1 h2 fun y hy=>Nat.le_trans (List.count_le_count_cons) (h3 y hy)
  ·have hpos:0<g a:=Nat.pos_of_ne_zero ha
   have hz:(L.map g).sum=0:=by
    have:∀y∈L,g y=0:=fun y hy=>by
     refine Classical.byContradiction fun hne=> ?_
     have e:=h2 a y hpos (Nat.pos_of_ne_zero hne)
     subst e
     have:=h3 a hpos
     rw[List.count_cons_self]at this
     have:=List.count_pos_iff.2 hy
     omega
    clear h3 h2
    induction L with
    |nil=>rfl
    |cons b L ih=>
     simp only[List.map_cons,List.sum_cons]
     rw[this b (by simp),ih fun y hy=>this y (by simp[hy])]
   have:=h1 a
   omega
theorem J9z (l:List TInode) (d:Int):∀L:List Int,(L.flatMap (own l)).count d=(L.map fun y=>(own l y).count d).sum
 |[]=>by simp
 |a::L=>by simp only[List.flatMap_cons,List.count_append,List.map_cons,List.sum_cons,J9z l d L]
theorem MXz (l:List TInode):∀L:List Int,(L.flatMap (own l)).length=(L.map fun y=>(own l y).length).sum
 |[]=>by simp
 |a::L=>by simp only[List.flatMap_cons,List.length_append,List.map_cons,List.sum_cons,MXz l L]
theorem Tree.lev {l:List TInode} (h:Tree l) (y0:Int):∀k d,own l d≠[]→(lv l k (own l y0)).count d≤1
 |0,d,hd=>h.one d y0 hd
 |k+1,d,hd=>by
  rw[D8z,J9z]
  refine N6z (fun y=>h.one d y hd) (fun y z hy hz=>h.par d y z hd (List.count_pos_iff.1 hy) (List.count_pos_iff.1 hz)) fun y hy=> ?_
  refine Tree.lev h y0 k y fun e=> ?_
  rw[e]at hy
  simp at hy
theorem E8z {l:List TInode} {d:Int} (h:own l d≠[]):d∈l.map (·.Ino):=by
 unfold own Awz at h
 cases hx:AKz l d with
 |none=>rw[hx]at h;simp at h
 |some x=>
  obtain⟨h1,h2⟩:=Ayz hx
  exact List.mem_map.2 ⟨x,h1,h2⟩
theorem Ibz:∀{L:List Int},(∀d∈L,L.count d≤1)→L.Nodup
 |[],_=>List.nodup_nil
 |a::L,h=>by
  refine List.nodup_cons.2 ⟨fun ha=> ?_,Ibz fun d hd=>Nat.le_trans List.count_le_count_cons (h d (by simp[hd]))⟩
  have:=h a (by simp)
  rw[List.count_cons_self]at this
  have:=List.count_pos_iff.2 ha
  omega
theorem Gkz {g:Int→Nat}:∀L:List Int,(L.map g).sum=((L.filter fun d=>g d !=0).map g).sum
 |[]=>rfl
 |a::L=>by
  simp only[List.map_cons,List.sum_cons,List.filter_cons]
  by_cases ha:g a=0
  ·simp[ha,Gkz L]
  ·simp[ha,Gkz L]
theorem N5z {g:Int→Nat} (hg:∀d,g d≤10):∀L:List Int,(L.map g).sum≤L.length*10
 |[]=>by simp
 |a::L=>by
  have:=N5z hg L
  have:=hg a
  simp only[List.map_cons,List.sum_cons,List.length_cons]
  omega
theorem Tree.wide {l:List TInode} (h:Tree l) (y0:Int):∀k,(lv l k (own l y0)).length≤300
 |0=>Nat.le_trans (h.ten y0) (by decide)
 |k+1=>by
  rw[D8z,MXz,Gkz]
  generalize hL:(lv l k (own l y0)).filter (fun d=>(own l d).length !=0)=L
  have hne:∀d∈L,own l d≠[]:=fun d hd e=>by
   subst hL
   have:=(List.mem_filter.1 hd).2
   rw[e]at this
   simp at this
  have hnd:L.Nodup:=Ibz fun d hd=>by
   have h1:=h.lev y0 k d (hne d hd)
   subst hL
   exact Nat.le_trans (List.Sublist.count_le d List.filter_sublist) h1
  have h1:=Cuz hnd fun d hd=>E8z (hne d hd)
  have h2:=N5z h.ten L
  have h3:=h.few
  simp only[List.length_map]at h1
  omega
theorem Tree.apart {l:List TInode} (h:Tree l):∀(i j:Nat) (d:Int),i<j→own l d≠[]→d∈lv l i (own l 1)→¬d∈lv l j (own l 1)
 |0,j+1,d,_,hd,hi,hj=>by
  rw[D8z]at hj
  obtain⟨y,hy,hdy⟩:=List.mem_flatMap.1 hj
  have e:=h.par d 1 y hd hi hdy
  subst e
  cases j with
  |zero=>exact h.root 1 hy
  |succ j=>
   rw[D8z]at hy
   obtain⟨z,_,hz⟩:=List.mem_flatMap.1 hy
   exact h.root z hz
 |i+1,j+1,d,hij,hd,hi,hj=>by
  rw[D8z]at hi hj
  obtain⟨y,hy,hdy⟩:=List.mem_flatMap.1 hi
  obtain⟨z,hz,hdz⟩:=List.mem_flatMap.1 hj
  have e:=h.par d y z hd hdy hdz
  subst e
  exact h.apart i j y (by omega) (fun e=>by rw[e]at hdy;simp at hdy) hy hz
theorem Tree.noRoot {l:List TInode} (h:Tree l):∀k,¬(1:Int)∈lv l k (own l 1)
 |0,h1=>h.root 1 h1
 |k+1,h1=>by
  rw[D8z]at h1
  obtain⟨y,_,hy⟩:=List.mem_flatMap.1 h1
  exact h.root y hy
theorem Tree.chain {l:List TInode} (h:Tree l):∀k,lv l k (own l 1)≠[]→∃L:List Int,L.length=k∧L.Nodup∧∀d∈L,own l d≠[]∧∃i,i<k∧d∈lv l i (own l 1)
 |0,_=>⟨[],rfl,List.nodup_nil,fun d hd=>by simp at hd⟩
 |k+1,hne=>by
  rw[D8z]at hne
  have:∃d,d∈lv l k (own l 1)∧own l d≠[]:=by
   refine Classical.byContradiction fun hno=>hne ?_
   rw[List.flatMap_eq_nil_iff]
   intro d hd
   exact Classical.byContradiction fun he=>hno ⟨d,hd,he⟩
  obtain⟨d,hd,hod⟩:=this
  obtain⟨L,h1,h2,h3⟩:=h.chain k fun e=>by rw[e]at hd;simp at hd
  refine⟨d::L,by simp[h1],List.nodup_cons.2 ⟨fun hdL=> ?_,h2⟩,fun a ha=> ?_⟩
  ·obtain⟨_,i,hi,hdi⟩:=h3 d hdL
   exact h.apart i k d hi hod hdi hd
  ·rcases List.mem_cons.1 ha with rfl|ha
   ·exact⟨hod,k,Nat.lt_succ_self k,hd⟩
   ·obtain⟨q1,i,hi,q2⟩:=h3 a ha
    exact⟨q1,i,by omega,q2⟩
theorem Tree.low {l:List TInode} (h:Tree l):lv l 30 (own l 1)=[]:=by
 refine Classical.byContradiction fun hne=> ?_
 obtain⟨L,h1,h2,h3⟩:=h.chain 30 hne
 have h4:=Cuz (L:=L) (M:=l.map (·.Ino)) h2 fun d hd=>E8z (h3 d hd).1
 have hroot:own l 1≠[]:=fun e=>by rw[e,QUz]at hne;exact hne rfl
 have h5:=Cuz (L:=1::L) (M:=l.map (·.Ino)) (List.nodup_cons.2 ⟨fun h1L=>by
  obtain⟨_,i,_,hi⟩:=h3 1 h1L
  exact h.noRoot i hi,h2⟩) fun d hd=>by
   rcases List.mem_cons.1 hd with rfl|hd
   ·exact E8z hroot
   ·exact E8z (h3 d hd).1
 have:=h.few
 simp only[List.length_cons,List.length_map]at h5
 omega
end Go.Proofs.YtblelojdboefjaaGreatDoor.R
namespace Go.Proofs.YtblelojdboefjaaGreatDoor.R
open Go
theorem Bdz {t:TTab} (h:Aaz t=true):tabI t=true∧(∀x∈t.Inodes,Atz x=true∧((BFz t.Inodes x.Ino:Nat):Int)=x.Links∧Erz t.Inodes x=true):=by
 unfold Aaz at h
 simp only[Bool.and_eq_true]at h
 refine⟨h.1.1,fun x hx=> ?_⟩
 obtain⟨i,hi⟩:=List.getElem?_of_mem hx
 have hlt:=(List.getElem?_eq_some_iff.1 hi).1
 have h1:=C7z h.2 hlt
 unfold Bez IEz at h1
 rw[hi]at h1
 simp only[Bool.and_eq_true,beq_iff_eq]at h1
 have h0:=h.1.1
 unfold tabI at h0
 simp only[Bool.and_eq_true]at h0
 have h2:=h0.1.2
 unfold Cbz at h2
 have h3:=C7z h2 hlt
 unfold BOz EWz at h3
 rw[hi]at h3
 simp only[Bool.and_eq_true]at h3
 exact⟨h3.1.1,h1.1,h1.2⟩
theorem LIz {x:TInode} (h:Atz x=true) (he:x.Ents≠[]):(x.Kind==2)=true∧x.Links≤1:=by
 unfold Atz at h
 simp only[Bool.and_eq_true]at h
 have hk:=h.2
 unfold FBz at hk
 split at hk
 ·rename_i h1
  have:x.Ents.length=0:=by simpa using hk
  exact absurd (List.length_eq_zero_iff.1 this) he
 ·split at hk
  ·rename_i h2
   simp only[Bool.and_eq_true,decide_eq_true_eq]at hk
   exact⟨h2,hk.2⟩
  ·simp at hk
theorem PHz {x:TInode} (h:Atz x=true) (h1:x.Ino=1):x.Links=0:=by
 unfold Atz at h
 simp only[Bool.and_eq_true]at h
 have:=h.1.1.1.1.2.2
 rw[h1]at this
 simpa using this
theorem G0z {l:List TInode} {x:TInode} {d:Int} (hx:x∈l):Dqz x d≤BFz l d:=by
 unfold BFz
 induction l with
 |nil=>simp at hx
 |cons a l ih=>
  simp only[List.map_cons,List.sum_cons]
  rcases List.mem_cons.1 hx with rfl|hx
  ·omega
  ·have:=ih hx;omega
theorem QVz {l:List TInode} {x y:TInode} {d:Int} (hx:x∈l) (hy:y∈l) (hne:x.Ino≠y.Ino):Dqz x d+Dqz y d≤BFz l d:=by
 unfold BFz
 induction l with
 |nil=>simp at hx
 |cons a l ih=>
  simp only[List.map_cons,List.sum_cons]
  rcases List.mem_cons.1 hx with rfl|hx2
  ·rcases List.mem_cons.1 hy with rfl|hy2
   ·exact absurd rfl hne
   ·have:=G0z (d:=d) hy2;unfold BFz at this;omega
  ·rcases List.mem_cons.1 hy with rfl|hy2
   ·have:=G0z (d:=d) hx2;unfold BFz at this;omega
   ·have:=ih hx2 hy2;omega
theorem MWz (es:List TEnt) (d:Int):Drz es d=(es.map (·.Ino)).count d:=by
 unfold Drz
 rw[List.count_eq_countP,List.countP_map]
 congr 1
theorem Fvz {t:TTab} (h:Aaz t=true) {y d:Int} (hd:d∈own t.Inodes y):∃x∈t.Inodes,x.Ino=y∧(own t.Inodes y).count d=Dqz x d:=by
 unfold own Awz at hd ⊢
 cases hx:AKz t.Inodes y with
 |none=>rw[hx]at hd;simp at hd
 |some x=>
  rw[hx]at hd
  obtain⟨h1,h2⟩:=Ayz hx
  refine⟨x,h1,h2,?_⟩
  have hne:x.Ents≠[]:=fun e=>by simp only[e]at hd;simp at hd
  rw[I0z (LIz ((Bdz h).2 x h1).1 hne).1,MWz]
theorem OZz {t:TTab} (h:Aaz t=true) {d:Int} (hd:own t.Inodes d≠[]):BFz t.Inodes d≤1:=by
 unfold own Awz at hd
 cases hx:AKz t.Inodes d with
 |none=>rw[hx]at hd;simp at hd
 |some x=>
  rw[hx]at hd
  obtain⟨h1,h2⟩:=Ayz hx
  have hne:x.Ents≠[]:=fun e=>hd (by simp only[e];rfl)
  obtain⟨q1,q2,_⟩:=(Bdz h).2 x h1
  have:=(LIz q1 hne).2
  rw[h2]at q2
  omega
theorem N3z {t:TTab} (h:Aaz t=true):Tree t.Inodes:=by
 have hs:=Iqz (Bdz h).1
 refine⟨fun d y hd=> ?_,fun d y z hd hy hz=> ?_,fun y hy=> ?_,hs.n,fun y=> ?_⟩
 ·by_cases hm:d∈own t.Inodes y
  ·obtain⟨x,hx,_,hc⟩:=Fvz h hm
   have h1:=G0z (d:=d) hx
   have h2:=OZz h hd
   omega
  ·rw[List.count_eq_zero.2 hm];omega
 ·obtain⟨a,ha,hay,hca⟩:=Fvz h hy
  obtain⟨b,hb,hbz,hcb⟩:=Fvz h hz
  have h1:=List.count_pos_iff.2 hy
  have h2:=List.count_pos_iff.2 hz
  have h3:=OZz h hd
  refine Classical.byContradiction fun hne=> ?_
  have:=QVz (d:=d) ha hb (by rw[hay,hbz];exact hne)
  omega
 ·obtain⟨a,ha,hay,hca⟩:=Fvz h hy
  have h1:=List.count_pos_iff.2 hy
  have h2:=G0z (d:=1) ha
  have h0:=(Bdz h).1
  unfold tabI E5z at h0
  simp only[Bool.and_eq_true]at h0
  have h3:=h0.2
  cases hr:t.Inodes.find? (fun x=>x.Ino==1)with
  |none=>rw[hr]at h3;simp at h3
  |some r=>
   obtain⟨q1,q2⟩:=Ayz (l:=t.Inodes) (k:=1) hr
   obtain⟨q3,q4,_⟩:=(Bdz h).2 r q1
   rw[q2]at q4
   have:=PHz q3 q2
   omega
 ·unfold own Awz
  cases hx:AKz t.Inodes y with
  |none=>simp
  |some x=>rw[List.length_map];exact hs.e x (Ayz hx).1
def AWz (l:List TInode):Nat→List TEnt→List UInt8→List (List UInt8)
 |0,_,_=>[]
 |f+1,es,p=>es.flatMap fun e=>(p++[47]++e.Name.toList)::AWz l f (Awz l e.Ino) (p++[47]++e.Name.toList)
structure Flat' (l:List TInode) (f:Nat) (s:List Int):Prop where
 low:lv l f s=[]
 wide:∀k,(lv l k s).length≤300
def cntN (l:List TInode):Nat→List Int→Nat
 |0,_=>0
 |f+1,s=>(s.map fun d=>1+cntN l f (own l d)).sum
theorem Paz (l:List TInode):∀(f:Nat) (a b:List Int),cntN l f (a++b)=cntN l f a+cntN l f b
 |0,a,b=>rfl
 |f+1,a,b=>by simp[cntN]
theorem M4z (l:List TInode) (f:Nat):∀s:List Int,cntN l (f+1) s=s.length+cntN l f (s.flatMap (own l))
 |[]=>by cases f<;>simp[cntN]
 |a::s=>by
  have:=M4z l f s
  simp only[cntN,List.map_cons,List.sum_cons,List.length_cons,List.flatMap_cons,Paz]at this ⊢
  omega
theorem RBz (l:List TInode):∀(f:Nat) (s:List Int),(∀k,(lv l k s).length≤300)→cntN l f s≤f*300
 |0,s,_=>Nat.le_refl 0
 |f+1,s,h=>by
  rw[M4z]
  have h1:=h 0
  have h2:=RBz l f (s.flatMap (own l)) fun k=>h (k+1)
  simp only[lv]at h1
  omega
theorem K1z (l:List TInode):∀(f:Nat) (es:List TEnt) (p:List UInt8),(AWz l f es p).length=cntN l f (es.map (·.Ino))
 |0,es,p=>rfl
 |f+1,es,p=>by
  simp only[AWz,cntN,List.length_flatMap,List.map_map]
  congr 1
  refine List.map_congr_left fun e _=> ?_
  have:=K1z l f (Awz l e.Ino) (p++[47]++e.Name.toList)
  simp only[List.length_cons,Function.comp,this,own]
  omega
end Go.Proofs.YtblelojdboefjaaGreatDoor.R
namespace Go.Proofs.YtblelojdboefjaaGreatDoor.R
open Go
theorem JZz (l:List TInode) (f:Nat) (es:List TEnt) (e:TEnt) (p:List UInt8):AWz l (f+1) (es++[e]) p=AWz l (f+1) es p++((p++[47]++e.Name.toList)::AWz l f (Awz l e.Ino) (p++[47]++e.Name.toList)):=by
 simp[AWz]
theorem JYz {l:List TInode} {f:Nat} {es:List TEnt} {p:List UInt8} (i:Nat):(AWz l (f+1) (es.take i) p).length≤(AWz l (f+1) es p).length:=by
 have:AWz l (f+1) es p=AWz l (f+1) (es.take i) p++AWz l (f+1) (es.drop i) p:=by
  simp only[AWz]
  rw[←List.flatMap_append,List.take_append_drop]
 rw[this,List.length_append];omega
theorem PBz {l:List TInode} {k:Nat} {s:List Int} {d:Int} (hd:d∈s):(lv l k [d]).length≤(lv l k s).length:=by
 obtain⟨a,b,rfl⟩:=List.append_of_mem hd
 rw[show a++d::b=a++([d]++b)from rfl,Enz,Enz,List.length_append,List.length_append];omega
theorem Flat'.down {l:List TInode} {f:Nat} {s:List Int} (h:Flat' l (f+1) s) {d:Int} (hd:d∈s):Flat' l f (own l d):=by
 have h1:∀k,lv l (k+1) [d]=lv l k (own l d):=fun k=>by simp only[lv,List.flatMap_cons,List.flatMap_nil,List.append_nil]
 refine⟨?_,fun k=> ?_⟩
 ·rw[←h1];exact U5z h.low hd
 ·rw[←h1];exact Nat.le_trans (PBz hd) (h.wide (k+1))
theorem Flat'.cnt {l:List TInode} {f:Nat} {es:List TEnt} (h:Flat' l f (es.map (·.Ino))) (p:List UInt8):(AWz l f es p).length≤f*300:=by
 rw[K1z];exact RBz l f _ h.wide
def Cyz:TInode:=⟨0,0,0,[],[],[]⟩
theorem Liz:Cyz.ok:=⟨by unfold inR Cyz;decide,by unfold inR Cyz;decide,by unfold inR Cyz;decide,⟨fun y hy=>by simp[Cyz]at hy,Nat.zero_le _⟩,⟨fun y hy=>by simp[Cyz]at hy,Nat.zero_le _⟩,⟨fun y hy=>by simp[Cyz]at hy,Nat.zero_le _⟩⟩
theorem Kqz (nm:List UInt8):ByteArray.toList ⟨⟨nm⟩⟩=nm:=Pzz
set_option maxHeartbeats 4000000 in
theorem Snz (t:TTab) (ht:t.ok):∀(f:Nat),f≤40→∀(n:Nat),Big+(7+f)≤n→∀(x:TInode),x.ok→Flat' t.Inodes f (x.Ents.map (·.Ino))→∀(p:List UInt8),p.length+f*1048577≤100000000→
  pcall env n 203 [.c .agg (t.pv.map ASz),.c .agg (x.pv.map ASz),pvSV (.t ⟨⟨p⟩⟩)] []=some ⟨.c .one [.ow false 1 ((AWz t.Inodes f x.Ents p).map ppv)],[]⟩:=by
 intro f
 induction f with
 |zero=>
  intro hf n hn x hx hfl p hp
  obtain⟨m,rfl⟩:=AFz hn
  have hB:=AXz
  have he:x.Ents=[]:=by
   have:=hfl.low
   simpa[lv]using this
  refine ARz (ADz (fn:=Tryz.f203) rfl rfl rfl (Nat.le_of_ble_eq_true rfl) ?_)
  unfold Tryz.f203
  simp only[go_sem,Nat.reduceLT,Nat.reduceAdd,Nat.reduceSub,Nat.reduceEqDiff,Nat.reduceLeDiff,Int.reduceEq,Int.reduceBEq,Int.reduceBNe,Int.reduceNeg,UInt8.reduceToNat,Nat.reduceBEq,he]
  refine B1z (by omega) ?_
  simp only[go_sem,Nat.reduceLT,Nat.reduceAdd,Nat.reduceSub,Nat.reduceEqDiff,Nat.reduceLeDiff,Int.reduceEq,Int.reduceBEq,Int.reduceBNe,Int.reduceNeg,UInt8.reduceToNat,Nat.reduceBEq,he,AWz]
 |succ f ih=>
  intro hf n hn x hx hfl p hp
  obtain⟨m,rfl⟩:=AFz hn
  have hB:=AXz
  have hbd:Bd=1048576:=rfl
  have hlim:LIM=70368744177664:=rfl
  have hel:=hx.Ents.2
  have hcn:=hfl.cnt p
  have hm:Big+(7+f)≤m:=by omega
  refine ARz (ADz (fn:=Tryz.f203) rfl rfl rfl (Nat.le_of_ble_eq_true rfl) ?_)
  unfold Tryz.f203
  simp only[go_sem,Nat.reduceLT,Nat.reduceAdd,Nat.reduceSub,Nat.reduceEqDiff,Nat.reduceLeDiff,Int.reduceEq,Int.reduceBEq,Int.reduceBNe,Int.reduceNeg,UInt8.reduceToNat,Nat.reduceBEq]
  refine AGz (fun r σ=>∃i:Nat,i≤x.Ents.length∧r=x.Ents.length - i∧σ=slots 45 [(2,.c .one [.sh false (.t ⟨⟨p⟩⟩)]),(3,.c .box [.sh true (.s 6 (t.Inodes.map TInode.pv)),.sh false (.i .i64 t.Next)]),(4,.c .box [.sh false (.i .i64 x.Ino),.sh false (.i .i64 x.Kind),.sh false (.i .i64 x.Links),.sh true (.s 1 (x.Data.map bpv)),.sh true (.s 2 (x.Ents.map TEnt.pv)),.sh true (.s 2 (x.Attrs.map TAttr.pv))]),(7,.c .one [.ow false 1 ((AWz t.Inodes (f+1) (x.Ents.take i) p).map ppv)]),(15,.c .one [.sh true (.s 2 (x.Ents.map TEnt.pv))]),(16,.c .one [.sh false (.i .i64 (x.Ents.length:Nat))]),(17,.c .one [.sh false (.i .i64 (i:Nat))])]) x.Ents.length (by omega) ?_ ?_
  ·simp only[go_sem,Nat.reduceLT,Nat.reduceAdd,Nat.reduceSub,Nat.reduceEqDiff,Nat.reduceLeDiff,Int.reduceEq,Int.reduceBEq,Int.reduceBNe,Int.reduceNeg,UInt8.reduceToNat,Nat.reduceBEq]
   exact⟨0,Nat.zero_le _,rfl,rfl⟩
  ·rintro r σ ⟨i,hi,rfl,rfl⟩
   by_cases hlt:i<x.Ents.length
   ·have h1:((i:Int)<(x.Ents.length:Int)):=by omega
    have hy:x.Ents[i]? =some x.Ents[i]:=List.getElem?_eq_getElem hlt
    have hmem:=List.getElem_mem hlt
    have heo:=hx.Ents.1 _ hmem
    generalize x.Ents[i]=e at hy hmem heo
    have htk:x.Ents.take (i+1)=x.Ents.take i++[e]:=by rw[List.take_add_one,hy];rfl
    have hsn:=JZz t.Inodes f (x.Ents.take i) e p
    rw[←htk]at hsn
    have hle:=JYz (l:=t.Inodes) (f:=f) (es:=x.Ents) (p:=p) (i+1)
    rw[hsn,List.length_append,List.length_cons]at hle
    have hdn:=hfl.down (List.mem_map.2 ⟨e,hmem,rfl⟩:e.Ino∈x.Ents.map (·.Ino))
    have hnl:=heo.Name
    obtain⟨⟨⟨nm⟩⟩,ino⟩:=e
    unfold okS at hnl
    simp only[DOz]at hnl
    simp only[Kqz]at hsn hle
    have hq:(p++[47]++nm).length+f*1048577≤100000000:=by simp only[List.length_append,List.length_cons,List.length_nil];omega
    have c1:(((p.length+1:Nat):Int)>IntKind.i64.max)=False:=KCz (by omega)
    have c2:(((p.length+1+nm.length:Nat):Int)>IntKind.i64.max)=False:=KCz (by omega)
    have l1:((AWz t.Inodes (f+1) (x.Ents.take i) p).length+1)*16≤LIM:=by omega
    have hat:=Byz m (by omega) t ht ino
    simp only[go_sem]at hat
    unfold atC at hat
    cases hno:AKz t.Inodes ino with
    |none=>
     have hents:Awz t.Inodes ino=[]:=by unfold Awz;rw[hno]
     have hrec:=ih (by omega) m hm Cyz Liz (by unfold own at hdn;rw[hents]at hdn;exact hdn) (p++[47]++nm) hq
     unfold AKz at hno
     rw[hno]at hat
     simp only[go_sem,Bpz]at hat
     simp only[go_sem,TInode.pv,Cyz]at hrec
     have l2:((AWz t.Inodes (f+1) (x.Ents.take i) p).length+1+(AWz t.Inodes f [] (p++[47]++nm)).length)*16≤LIM:=by
      rw[hents]at hle;omega
     simp only[go_sem,Nat.reduceLT,Nat.reduceAdd,Nat.reduceSub,Nat.reduceEqDiff,Nat.reduceLeDiff,Int.reduceEq,Int.reduceBEq,Int.reduceBNe,Int.reduceNeg,UInt8.reduceToNat,Nat.reduceBEq,h1,hy,IMz,DOz,c1,c2,l1,hat,hrec,l2,ACz hlt (by omega)]
     have hst:(AWz t.Inodes (f+1) (x.Ents.take (i+1)) p).map ppv=(AWz t.Inodes (f+1) (x.Ents.take i) p).map ppv++[[.t ⟨⟨p++[47]++nm⟩⟩]]++(AWz t.Inodes f [] (p++[47]++nm)).map ppv:=by
      rw[hsn,hents,List.map_append,List.map_cons];simp only[List.append_assoc,List.cons_append,List.nil_append,ppv]
     refine⟨_,by omega,i+1,hlt,rfl,?_⟩
     rw[hst]
    |some y=>
     have hents:Awz t.Inodes ino=y.Ents:=by unfold Awz;rw[hno]
     have hyo:=ht.Inodes.1 _ (Ayz hno).1
     have hrec:=ih (by omega) m hm y hyo (by unfold own at hdn;rw[hents]at hdn;exact hdn) (p++[47]++nm) hq
     unfold AKz at hno
     rw[hno]at hat
     simp only[go_sem,BMz]at hat
     simp only[go_sem,TInode.pv]at hrec
     have l2:((AWz t.Inodes (f+1) (x.Ents.take i) p).length+1+(AWz t.Inodes f y.Ents (p++[47]++nm)).length)*16≤LIM:=by
      rw[hents]at hle;omega
     simp only[go_sem,Nat.reduceLT,Nat.reduceAdd,Nat.reduceSub,Nat.reduceEqDiff,Nat.reduceLeDiff,Int.reduceEq,Int.reduceBEq,Int.reduceBNe,Int.reduceNeg,UInt8.reduceToNat,Nat.reduceBEq,h1,hy,IMz,DOz,c1,c2,l1,hat,hrec,l2,ACz hlt (by omega)]
     have hst:(AWz t.Inodes (f+1) (x.Ents.take (i+1)) p).map ppv=(AWz t.Inodes (f+1) (x.Ents.take i) p).map ppv++[[.t ⟨⟨p++[47]++nm⟩⟩]]++(AWz t.Inodes f y.Ents (p++[47]++nm)).map ppv:=by
      rw[hsn,hents,List.map_append,List.map_cons];simp only[List.append_assoc,List.cons_append,List.nil_append,ppv]
     refine⟨_,by omega,i+1,hlt,rfl,?_⟩
     rw[hst]
   ·have h1:¬((i:Int)<(x.Ents.length:Int)):=by omega
    obtain rfl:i=x.Ents.length:=by omega
    rw[List.take_length]
    simp only[go_sem,Nat.reduceLT,Nat.reduceAdd,Nat.reduceSub,Nat.reduceEqDiff,Nat.reduceLeDiff,Int.reduceEq,Int.reduceBEq,Int.reduceBNe,Int.reduceNeg,UInt8.reduceToNat,Nat.reduceBEq,h1]
end Go.Proofs.YtblelojdboefjaaGreatDoor.R
namespace Go.Proofs.YtblelojdboefjaaGreatDoor.R
open Go
set_option maxHeartbeats 4000000 in
theorem PDz (t:TTab) (ht:t.ok):∀(f:Nat),f≤40→∀(n:Nat),Big+(7+f)≤n→∀(k:Int),Flat' t.Inodes f (own t.Inodes k)→∀(p:List UInt8),p.length+f*1048577≤100000000→∀(out:List (List UInt8)),out.length+(AWz t.Inodes f (Awz t.Inodes k) p).length≤1000000→
  pcall env n 191 [.c .agg (t.pv.map ASz),pvSV (.i .i64 k),pvSV (.t ⟨⟨p⟩⟩),.bp 0 0] [[.ow false 1 (out.map ppv)]]=some ⟨.c (.tup []) [],[[.ow false 1 ((out++AWz t.Inodes f (Awz t.Inodes k) p).map ppv)]]⟩:=by
 intro f
 induction f with
 |zero=>
  intro hf n hn k hfl p hp out hout
  obtain⟨m,rfl⟩:=AFz hn
  have hB:=AXz
  have he:Awz t.Inodes k=[]:=by
   have:=hfl.low
   simpa[lv,own]using this
  have hat:=Cqz m (by omega) t ht k
  simp only[go_sem]at hat
  unfold atC at hat
  refine ARz (ADz (fn:=Tryz.f191) rfl rfl rfl (Nat.le_of_ble_eq_true rfl) ?_)
  unfold Tryz.f191
  cases hno:AKz t.Inodes k with
  |none=>
   unfold AKz at hno
   rw[hno]at hat
   simp only[go_sem,Bpz]at hat
   simp only[go_sem,Nat.reduceLT,Nat.reduceAdd,Nat.reduceSub,Nat.reduceEqDiff,Nat.reduceLeDiff,Int.reduceEq,Int.reduceBEq,Int.reduceBNe,Int.reduceNeg,UInt8.reduceToNat,Nat.reduceBEq,hat,AWz]
   refine B1z (by omega) ?_
   simp only[go_sem,Nat.reduceLT,Nat.reduceAdd,Nat.reduceSub,Nat.reduceEqDiff,Nat.reduceLeDiff,Int.reduceEq,Int.reduceBEq,Int.reduceBNe,Int.reduceNeg,UInt8.reduceToNat,Nat.reduceBEq,AWz]
  |some x=>
   have hxe:x.Ents=[]:=by
    unfold Awz at he
    rw[hno]at he
    exact he
   unfold AKz at hno
   rw[hno]at hat
   simp only[go_sem,BMz,hxe]at hat
   simp only[go_sem,Nat.reduceLT,Nat.reduceAdd,Nat.reduceSub,Nat.reduceEqDiff,Nat.reduceLeDiff,Int.reduceEq,Int.reduceBEq,Int.reduceBNe,Int.reduceNeg,UInt8.reduceToNat,Nat.reduceBEq,hat,AWz]
   refine B1z (by omega) ?_
   simp only[go_sem,Nat.reduceLT,Nat.reduceAdd,Nat.reduceSub,Nat.reduceEqDiff,Nat.reduceLeDiff,Int.reduceEq,Int.reduceBEq,Int.reduceBNe,Int.reduceNeg,UInt8.reduceToNat,Nat.reduceBEq,AWz]
 |succ f ih=>
  intro hf n hn k hfl p hp out hout
  obtain⟨m,rfl⟩:=AFz hn
  have hB:=AXz
  have hbd:Bd=1048576:=rfl
  have hlim:LIM=70368744177664:=rfl
  have hm:Big+(7+f)≤m:=by omega
  have hat:=Cqz m (by omega) t ht k
  simp only[go_sem]at hat
  unfold atC at hat
  refine ARz (ADz (fn:=Tryz.f191) rfl rfl rfl (Nat.le_of_ble_eq_true rfl) ?_)
  unfold Tryz.f191
  cases hno:AKz t.Inodes k with
  |none=>
   have he:Awz t.Inodes k=[]:=by unfold Awz;rw[hno]
   have hnil:AWz t.Inodes (f+1) [] p=[]:=by simp[AWz]
   rw[he,hnil,List.append_nil]
   unfold AKz at hno
   rw[hno]at hat
   simp only[go_sem,Bpz]at hat
   simp only[go_sem,Nat.reduceLT,Nat.reduceAdd,Nat.reduceSub,Nat.reduceEqDiff,Nat.reduceLeDiff,Int.reduceEq,Int.reduceBEq,Int.reduceBNe,Int.reduceNeg,UInt8.reduceToNat,Nat.reduceBEq,hat]
   refine B1z (by omega) ?_
   simp only[go_sem,Nat.reduceLT,Nat.reduceAdd,Nat.reduceSub,Nat.reduceEqDiff,Nat.reduceLeDiff,Int.reduceEq,Int.reduceBEq,Int.reduceBNe,Int.reduceNeg,UInt8.reduceToNat,Nat.reduceBEq]
  |some x=>
   have he:Awz t.Inodes k=x.Ents:=by unfold Awz;rw[hno]
   have hxo:=ht.Inodes.1 _ (Ayz hno).1
   have hel:=hxo.Ents.2
   unfold own at hfl
   rw[he]at hfl hout ⊢
   have hcn:=hfl.cnt p
   unfold AKz at hno
   rw[hno]at hat
   simp only[go_sem,BMz]at hat
   simp only[go_sem,Nat.reduceLT,Nat.reduceAdd,Nat.reduceSub,Nat.reduceEqDiff,Nat.reduceLeDiff,Int.reduceEq,Int.reduceBEq,Int.reduceBNe,Int.reduceNeg,UInt8.reduceToNat,Nat.reduceBEq,hat]
   refine AGz (fun r σ=>∃i:Nat,i≤x.Ents.length∧r=x.Ents.length - i∧σ=slots 52 [(2,.c .one [.sh false (.t ⟨⟨p⟩⟩)]),(3,.bp 52 0),(4,.c .box [.sh true (.s 6 (t.Inodes.map TInode.pv)),.sh false (.i .i64 t.Next)]),(8,.c .box [.sh false (.i .i64 x.Ino),.sh false (.i .i64 x.Kind),.sh false (.i .i64 x.Links),.ow false 1 (x.Data.map bpv),.ow false 2 (x.Ents.map TEnt.pv),.ow false 2 (x.Attrs.map TAttr.pv)]),(10,.c .one [.sh false (.i .i64 (i:Nat))])]++[.c .box [.ow false 1 ((out++AWz t.Inodes (f+1) (x.Ents.take i) p).map ppv)]]) x.Ents.length (by omega) ?_ ?_
   ·simp only[go_sem,Nat.reduceLT,Nat.reduceAdd,Nat.reduceSub,Nat.reduceEqDiff,Nat.reduceLeDiff,Int.reduceEq,Int.reduceBEq,Int.reduceBNe,Int.reduceNeg,UInt8.reduceToNat,Nat.reduceBEq]
    refine⟨0,Nat.zero_le _,rfl,?_⟩
    simp only[List.take_zero,AWz,List.flatMap_nil,List.append_nil]
    rfl
   ·rintro r σ ⟨i,hi,rfl,rfl⟩
    by_cases hlt:i<x.Ents.length
    ·have h1:((i:Int)<(x.Ents.length:Int)):=by omega
     have hy:x.Ents[i]? =some x.Ents[i]:=List.getElem?_eq_getElem hlt
     have hmem:=List.getElem_mem hlt
     have heo:=hxo.Ents.1 _ hmem
     generalize x.Ents[i]=e at hy hmem heo
     have htk:x.Ents.take (i+1)=x.Ents.take i++[e]:=by rw[List.take_add_one,hy];rfl
     have hsn:=JZz t.Inodes f (x.Ents.take i) e p
     rw[←htk]at hsn
     have hle:=JYz (l:=t.Inodes) (f:=f) (es:=x.Ents) (p:=p) (i+1)
     rw[hsn,List.length_append,List.length_cons]at hle
     have hdn:=hfl.down (List.mem_map.2 ⟨e,hmem,rfl⟩:e.Ino∈x.Ents.map (·.Ino))
     have hnl:=heo.Name
     obtain⟨⟨⟨nm⟩⟩,ino⟩:=e
     unfold okS at hnl
     simp only[DOz]at hnl
     simp only[Kqz]at hsn hle
     have hq:(p++[47]++nm).length+f*1048577≤100000000:=by simp only[List.length_append,List.length_cons,List.length_nil];omega
     have c1:(((p.length+1:Nat):Int)>IntKind.i64.max)=False:=KCz (by omega)
     have c2:(((p.length+1+nm.length:Nat):Int)>IntKind.i64.max)=False:=KCz (by omega)
     have l1:(out.length+(AWz t.Inodes (f+1) (x.Ents.take i) p).length+1)*16≤LIM:=by omega
     have hrec:=ih (by omega) m hm ino hdn (p++[47]++nm) hq ((out++AWz t.Inodes (f+1) (x.Ents.take i) p)++[p++[47]++nm]) (by simp only[List.length_append,List.length_cons,List.length_nil]at hle ⊢;omega)
     simp only[go_sem,List.map_append]at hrec
     simp only[go_sem,Nat.reduceLT,Nat.reduceAdd,Nat.reduceSub,Nat.reduceEqDiff,Nat.reduceLeDiff,Int.reduceEq,Int.reduceBEq,Int.reduceBNe,Int.reduceNeg,UInt8.reduceToNat,Nat.reduceBEq,h1,hy,IMz,DOz,c1,c2,l1,List.map_append,hrec,ACz hlt (by omega)]
     have hst:(AWz t.Inodes (f+1) (x.Ents.take (i+1)) p).map ppv=(AWz t.Inodes (f+1) (x.Ents.take i) p).map ppv++[[.t ⟨⟨p++[47]++nm⟩⟩]]++(AWz t.Inodes f (Awz t.Inodes ino) (p++[47]++nm)).map ppv:=by
      rw[hsn,List.map_append,List.map_cons];simp only[List.append_assoc,List.cons_append,List.nil_append,ppv]
     refine chk (by kernel_rfl) ⟨_,by omega,i+1,hlt,rfl,?_⟩
     rw[hst]
     simp only[List.append_assoc]
    ·have h1:¬((i:Int)<(x.Ents.length:Int)):=by omega
     obtain rfl:i=x.Ents.length:=by omega
     rw[List.take_length]
     simp only[go_sem,Nat.reduceLT,Nat.reduceAdd,Nat.reduceSub,Nat.reduceEqDiff,Nat.reduceLeDiff,Int.reduceEq,Int.reduceBEq,Int.reduceBNe,Int.reduceNeg,UInt8.reduceToNat,Nat.reduceBEq,h1]
end Go.Proofs.YtblelojdboefjaaGreatDoor.R
namespace Go.Proofs.YtblelojdboefjaaGreatDoor.R
open Go
theorem KYz:∀(x y:List UInt8),Op.bytesLess x y=decide (x<y)
 |[],[]=>by simp[Op.bytesLess]
 |_::_,[]=>by simp[Op.bytesLess]
 |[],_::_=>by simp[Op.bytesLess]
 |a::x,b::y=>by
  rw[Op.bytesLess,KYz x y]
  simp only[List.cons_lt_cons_iff]
  by_cases h1:a<b<;>by_cases h2:a=b<;>by_cases h3:x<y<;>simp[h1,h2,h3]
theorem QWz (x y:List UInt8):(Op.bytesLess x y||x==y)=decide (x≤y):=by
 rw[KYz]
 by_cases h:x<y
 ·have:x≤y:=List.le_of_lt h
  simp[h,this]
 ·by_cases h2:x=y
  ·subst h2;simp[List.le_refl]
  ·have:¬x≤y:=fun h3=>h2 (List.le_antisymm h3 h)
   simp[h,h2,this]
abbrev Ord (l:List (List UInt8)):Prop:=l.Pairwise (fun a b=>a≤b)
theorem R6z {l m:List (List UInt8)} (h1:Ord l) (h2:Ord m) (p:l.Perm m):l=m:=
 List.Perm.eq_of_pairwise (le:=fun a b=>a≤b) (fun a b _ _ h h'=>List.le_antisymm h h') h1 h2 p
theorem LWz (l:List (List UInt8)):Ord (BIz l):=by
 unfold BIz
 have:=Goz (le:=fun(x y:List UInt8)=>decide (x≤y)) (fun a b c h1 h2=>by simp only[decide_eq_true_eq]at h1 h2 ⊢;exact List.le_trans h1 h2) (fun a b=>by simpa using List.le_total a b) l
 exact this.imp fun h=>by simpa using h
theorem Daz (l:List (List UInt8)):(BIz l).Perm l:=DEz _ l
theorem HJz (l:List (List UInt8)):(BIz l).length=l.length:=(Daz l).length_eq
theorem R5z {l m:List (List UInt8)} (h1:Ord m) (p:m.Perm l):m=BIz l:=
 R6z h1 (LWz l) (p.trans (Daz l).symm)
theorem MFz {S:List (List UInt8)} (h:Ord S) {k:Nat} {x:List UInt8} (hk:k≤S.length) (hd:∀y∈S.drop k,x≤y) (ht:∀j a,k=j+1→S[j]? =some a→a≤x):Ord (A2z S k x):=by
 unfold A2z Ord
 have hsp:Ord (S.take k++S.drop k):=by rw[List.take_append_drop];exact h
 rw[Ord,List.pairwise_append]at hsp
 have hbelow:∀a∈S.take k,a≤x:=fun a ha=>by
  cases k with
  |zero=>simp at ha
  |succ j=>
   have hj:S[j]? =some S[j]:=List.getElem?_eq_getElem (by omega)
   have hlast:=ht j _ rfl hj
   rw[List.take_add_one,hj]at ha hsp
   rcases List.mem_append.1 ha with h1|h1
   ·have:=(List.pairwise_append.1 hsp.1).2.2 a h1 S[j] (by simp)
    exact List.le_trans this hlast
   ·have:a=S[j]:=by simpa using h1
    rw[this];exact hlast
 rw[List.pairwise_append]
 refine⟨hsp.1,List.pairwise_cons.2 ⟨hd,hsp.2.1⟩,fun a ha b hb=> ?_⟩
 rcases List.mem_cons.1 hb with rfl|hb
 ·exact hbelow a ha
 ·exact hsp.2.2 a ha b hb
theorem Ksz:∀l:List (List UInt8),texts? (l.map ppv)=some l
 |[]=>rfl
 |p::l=>by simp[texts?,ppv,Ksz l]
theorem N7z {l:List (List UInt8)} {j:Nat} {a:List UInt8}:(l.map ppv).set j [.t ⟨⟨a⟩⟩]=(l.set j a).map ppv:=by
 rw[List.map_set];rfl
end Go.Proofs.YtblelojdboefjaaGreatDoor.R
namespace Go.Proofs.YtblelojdboefjaaGreatDoor.R
open Go
theorem MYz {α:Type} {a b:List α} {j:Nat} (h:j<a.length):(a++b)[j]? =a[j]? :=List.getElem?_append_left h
theorem LAz {α:Type} {a b:List α} {j:Nat} {x:α} (h:j<a.length):(a++b).set j x=a.set j x++b:=List.set_append_left _ _ h
set_option maxHeartbeats 8000000 in
theorem LDz (n:Nat) (hn:Big+1≤n) (l:List (List UInt8)) (hl:l.length≤1000000):pcall env n 192 [.c .one [.sh true (.s 1 (l.map ppv))]] []=some ⟨.c .one [.ow false 1 ((BIz l).map ppv)],[]⟩:=by
 obtain⟨m,rfl⟩:=AFz hn
 have hB:=AXz
 have hbd:Bd=1048576:=rfl
 have hlim:LIM=70368744177664:=rfl
 have l1:l.length*16≤LIM:=by omega
 refine ARz (ADz (fn:=Tryz.f192) rfl rfl rfl (Nat.le_of_ble_eq_true rfl) ?_)
 unfold Tryz.f192
 cases hlz:l with
 |nil=>
  simp only[go_sem,Nat.reduceLT,Nat.reduceAdd,Nat.reduceSub,Nat.reduceEqDiff,Nat.reduceLeDiff,Int.reduceEq,Int.reduceBEq,Int.reduceBNe,Int.reduceNeg,UInt8.reduceToNat,Nat.reduceBEq]
  have l0:0≤LIM:=Nat.zero_le _
  simp only[go_sem,Nat.reduceLT,Nat.reduceAdd,Nat.reduceSub,Nat.reduceEqDiff,Nat.reduceLeDiff,Int.reduceEq,Int.reduceBEq,Int.reduceBNe,Int.reduceNeg,UInt8.reduceToNat,Nat.reduceBEq,l0,Nat.zero_mul]
  refine B1z (by omega) ?_
  simp only[go_sem,Nat.reduceLT,Nat.reduceAdd,Nat.reduceSub,Nat.reduceEqDiff,Nat.reduceLeDiff,Int.reduceEq,Int.reduceBEq,Int.reduceBNe,Int.reduceNeg,UInt8.reduceToNat,Nat.reduceBEq]
  refine Evz (by decide) ?_
  simp only[go_sem,Nat.reduceLT,Nat.reduceAdd,Nat.reduceSub,Nat.reduceEqDiff,Nat.reduceLeDiff,Int.reduceEq,Int.reduceBEq,Int.reduceBNe,Int.reduceNeg,UInt8.reduceToNat,Nat.reduceBEq]
  rw[show BIz []=[]from rfl]
  rfl
 |cons l0 ls=>
 rw[←hlz]
 have hpos:0<l.length:=by rw[hlz];simp
 simp only[go_sem,Nat.reduceLT,Nat.reduceAdd,Nat.reduceSub,Nat.reduceEqDiff,Nat.reduceLeDiff,Int.reduceEq,Int.reduceBEq,Int.reduceBNe,Int.reduceNeg,UInt8.reduceToNat,Nat.reduceBEq,l1]
 refine AGz (fun r σ=>∃(i:Nat) (S O:List (List UInt8)),i≤l.length∧0<i∧r=l.length - i∧Ord S∧S.Perm (l.take i)∧O=S++l.drop i∧σ=slots 47 [(3,.c .one [.ow false 1 (O.map ppv)]),(4,.c .one [.sh false (.i .i64 (i:Nat))])]) (l.length - 1) (by omega) ?_ ?_
 ·simp only[go_sem,Nat.reduceLT,Nat.reduceAdd,Nat.reduceSub,Nat.reduceEqDiff,Nat.reduceLeDiff,Int.reduceEq,Int.reduceBEq,Int.reduceBNe,Int.reduceNeg,UInt8.reduceToNat,Nat.reduceBEq]
  refine⟨1,l.take 1,l,hpos,Nat.one_pos,rfl,?_,.refl _,(List.take_append_drop 1 l).symm,rfl⟩
  rw[hlz];simp[Ord]
 ·rintro r σ ⟨i,S,O,hi,hi0,rfl,hS,hP,hO,rfl⟩
  have hSl:S.length=i:=by rw[hP.length_eq,List.length_take];omega
  have hOl:O.length=l.length:=by rw[hO,List.length_append,List.length_drop,hSl];omega
  by_cases hlt:i<l.length
  ·have h1:((i:Int)<(l.length:Int)):=by omega
   have hx:l[i]? =some l[i]:=List.getElem?_eq_getElem hlt
   generalize l[i]=x at hx
   have hOx:O[i]? =some x:=by
    rw[hO,List.getElem?_append_right (by omega),hSl,Nat.sub_self,List.getElem?_drop,Nat.add_zero,hx]
   have hO2:O=A2z S i x++l.drop (i+1):=by rw[hO,←hSl,Mjz,hSl,F8z hx,List.append_assoc];rfl
   simp only[go_sem,Nat.reduceLT,Nat.reduceAdd,Nat.reduceSub,Nat.reduceEqDiff,Nat.reduceLeDiff,Int.reduceEq,Int.reduceBEq,Int.reduceBNe,Int.reduceNeg,UInt8.reduceToNat,Nat.reduceBEq,hOl,h1,hOx,ppv]
   refine AGz (fun r σ=>∃(k:Nat) (z:List UInt8) (O:List (List UInt8)),k≤S.length∧r=k+1∧(∀y∈S.drop k,x≤y)∧O=A2z S k z++l.drop (i+1)∧σ=slots 47 [(3,.c .one [.ow false 1 (O.map ppv)]),(4,.c .one [.sh false (.i .i64 (i:Nat))]),(5,.c .one [.sh false (.t ⟨⟨x⟩⟩)]),(6,.c .one [.sh false (.i .i64 (k:Nat))])]) (S.length+1) (by omega) ?_ ?_
   ·simp only[go_sem,Nat.reduceLT,Nat.reduceAdd,Nat.reduceSub,Nat.reduceEqDiff,Nat.reduceLeDiff,Int.reduceEq,Int.reduceBEq,Int.reduceBNe,Int.reduceNeg,UInt8.reduceToNat,Nat.reduceBEq]
    exact⟨i,x,O,by omega,by omega,fun y hy=>by rw[←hSl,List.drop_length]at hy;simp at hy,hO2,rfl⟩
   ·rintro r σ ⟨k,z,O,hk,rfl,hd,hO,rfl⟩
    have hat:O[k]? =some z:=by rw[hO,MYz (by rw[G8z hk];omega),OPz hk]
    have hst:(O.map ppv).set k [.t ⟨⟨x⟩⟩]=(A2z S k x++l.drop (i+1)).map ppv:=by rw[N7z,hO,LAz (by rw[G8z hk];omega),G7z hk]
    have done:Ord (A2z S k x)→∃k',k'<l.length - i∧∃(i':Nat) (S' O':List (List UInt8)),i'≤l.length∧0<i'∧k'=l.length - i'∧Ord S'∧S'.Perm (l.take i')∧O'=S'++l.drop i'∧slots 47 [(3,.c .one [.ow false 1 ((A2z S k x++l.drop (i+1)).map ppv)]),(4,.c .one [.sh false (.i .i64 ((i+1:Nat)))])]=slots 47 [(3,.c .one [.ow false 1 (O'.map ppv)]),(4,.c .one [.sh false (.i .i64 (i':Nat))])]:=fun h=>
     ⟨_,by omega,i+1,A2z S k x,_,hlt,by omega,rfl,h,by
      rw[List.take_add_one,hx]
      exact(LJz S k x).trans (hP.append_right _),rfl,rfl⟩
    cases k with
    |zero=>
     have hfin:=done (MFz hS hk hd fun j a hj=>by omega)
     simp only[go_sem,Nat.reduceLT,Nat.reduceAdd,Nat.reduceSub,Nat.reduceEqDiff,Nat.reduceLeDiff,Int.reduceEq,Int.reduceBEq,Int.reduceBNe,Int.reduceNeg,UInt8.reduceToNat,Nat.reduceBEq]at hfin
     simp only[go_sem,Nat.reduceLT,Nat.reduceAdd,Nat.reduceSub,Nat.reduceEqDiff,Nat.reduceLeDiff,Int.reduceEq,Int.reduceBEq,Int.reduceBNe,Int.reduceNeg,UInt8.reduceToNat,Nat.reduceBEq,hat,hst,ACz hlt (by omega)]
     exact hfin
    |succ j=>
     have hy:S[j]? =some S[j]:=List.getElem?_eq_getElem (by omega)
     generalize S[j]=a at hy
     have hgt:((j+1:Nat):Int)>0:=by omega
     have w2:IntKind.i64.wrap (((j+1:Nat):Int) - 1)=(j:Nat):=by rw[AYz (by omega) (by omega)];omega
     have hg:O[j]? =some a:=by rw[hO,MYz (by rw[G8z hk];omega),Miz (by omega),hy]
     have hst2:(O.map ppv).set (j+1) [.t ⟨⟨a⟩⟩]=(A2z S j a++l.drop (i+1)).map ppv:=by rw[N7z,hO,LAz (by rw[G8z hk];omega),G7z hk,LKz hy]
     cases hc:(Op.bytesLess a x||a==x)with
     |true=>
      have hle:a≤x:=by rw[QWz]at hc;simpa using hc
      have hfin:=done (MFz hS hk hd fun j' a' hj ha=>by
       have:j'=j:=by omega
       subst this
       rw[hy]at ha;injection ha with ha;subst ha;exact hle)
      simp only[go_sem,Nat.reduceLT,Nat.reduceAdd,Nat.reduceSub,Nat.reduceEqDiff,Nat.reduceLeDiff,Int.reduceEq,Int.reduceBEq,Int.reduceBNe,Int.reduceNeg,UInt8.reduceToNat,Nat.reduceBEq]at hfin
      simp only[go_sem,Nat.reduceLT,Nat.reduceAdd,Nat.reduceSub,Nat.reduceEqDiff,Nat.reduceLeDiff,Int.reduceEq,Int.reduceBEq,Int.reduceBNe,Int.reduceNeg,UInt8.reduceToNat,Nat.reduceBEq,hgt,w2,hg,hc,hat,hst,ppv,ACz hlt (by omega)]
      exact hfin
     |false=>
      have hle:x≤a:=by
       rw[QWz]at hc
       have:¬a≤x:=by simpa using hc
       exact(List.le_total x a).resolve_right this
      simp only[go_sem,Nat.reduceLT,Nat.reduceAdd,Nat.reduceSub,Nat.reduceEqDiff,Nat.reduceLeDiff,Int.reduceEq,Int.reduceBEq,Int.reduceBNe,Int.reduceNeg,UInt8.reduceToNat,Nat.reduceBEq,hgt,w2,hg,hc,hat,hst2,ppv]
      refine⟨_,Nat.lt_succ_self _,j,a,_,by omega,rfl,fun y hy2=> ?_,rfl,rfl⟩
      rw[F8z hy]at hy2
      rcases List.mem_cons.1 hy2 with rfl|h
      ·exact hle
      ·exact hd y h
  ·have h1:¬((i:Int)<(l.length:Int)):=by omega
   obtain rfl:i=l.length:=by omega
   rw[List.take_length]at hP
   rw[List.drop_length,List.append_nil]at hO
   subst hO
   rw[←R5z hS hP]
   simp only[go_sem,Nat.reduceLT,Nat.reduceAdd,Nat.reduceSub,Nat.reduceEqDiff,Nat.reduceLeDiff,Int.reduceEq,Int.reduceBEq,Int.reduceBNe,Int.reduceNeg,UInt8.reduceToNat,Nat.reduceBEq,hOl,h1]
end Go.Proofs.YtblelojdboefjaaGreatDoor.R
namespace Go.Proofs.YtblelojdboefjaaGreatDoor.R
open Go
noncomputable def BEz (t:TTab):List (List UInt8):=match Aaz t with
 |true=>BIz (AWz t.Inodes 30 (Awz t.Inodes 1) [])
 |false=>[]
theorem Hyz {t:TTab} (h:Aaz t=true):Flat' t.Inodes 30 (own t.Inodes 1):=⟨(N3z h).low,(N3z h).wide 1⟩
theorem Hoz {t:TTab} (h:Aaz t=true):(AWz t.Inodes 30 (Awz t.Inodes 1) []).length≤9000:=(Hyz h).cnt (es:=Awz t.Inodes 1) []
theorem Foz {t:TTab} (h:Aaz t=true):∃r∈t.Inodes,AKz t.Inodes 1=some r:=by
 have h0:=(Bdz h).1
 unfold tabI E5z at h0
 simp only[Bool.and_eq_true]at h0
 have h3:=h0.2
 cases hr:t.Inodes.find? (fun x=>x.Ino==1)with
 |none=>rw[hr]at h3;simp at h3
 |some r=>exact⟨r,(Ayz (l:=t.Inodes) (k:=1) hr).1,hr⟩
theorem QSz (l:List (List UInt8)):(l.map fun x=>[PV.t ⟨x.toArray⟩])=l.map ppv:=rfl
set_option maxHeartbeats 4000000 in
theorem L9z (n:Nat) (hn:Big+40≤n) (t:TTab) (ht:t.ok):pcall env n 121 [.c .agg (t.pv.map ASz)] []=some ⟨.c .one [.ow false 1 ((BEz t).map ppv)],[]⟩:=by
 obtain⟨m,rfl⟩:=AFz hn
 have htr:=GFz m (by omega) t ht
 simp only[go_sem]at htr
 refine ARz (ADz (fn:=Tryz.f121) rfl rfl rfl (Nat.le_of_ble_eq_true rfl) ?_)
 unfold Tryz.f121
 unfold BEz
 cases htb:Aaz t with
 |false=>
  simp only[go_sem,Nat.reduceLT,Nat.reduceAdd,Nat.reduceSub,Nat.reduceEqDiff,Nat.reduceLeDiff,Int.reduceEq,Int.reduceBEq,Int.reduceBNe,Int.reduceNeg,UInt8.reduceToNat,Nat.reduceBEq,htr,htb]
 |true=>
  obtain⟨r,hrm,hno⟩:=Foz htb
  have hents:Awz t.Inodes 1=r.Ents:=by unfold Awz;rw[hno]
  have hat:=Byz m (by omega) t ht 1
  have hfl:=Hyz htb
  have hfw:=Hoz htb
  unfold own at hfl
  rw[hents]at hfl hfw ⊢
  have hbl:=Snz t ht 30 (by decide) m (by omega) r (ht.Inodes.1 _ hrm) hfl [] (by simp)
  simp only[go_sem,TInode.pv]at hat hbl
  unfold atC at hat
  unfold AKz at hno
  rw[hno]at hat
  simp only[go_sem,BMz]at hat
  generalize AWz t.Inodes 30 r.Ents []=L at hbl hfw ⊢
  by_cases hz:L.length=0
  ·have hL:L=[]:=List.length_eq_zero_iff.1 hz
   subst hL
   simp only[go_sem,Nat.reduceLT,Nat.reduceAdd,Nat.reduceSub,Nat.reduceEqDiff,Nat.reduceLeDiff,Int.reduceEq,Int.reduceBEq,Int.reduceBNe,Int.reduceNeg,UInt8.reduceToNat,Nat.reduceBEq,htr,htb,hat,hbl,sortTextOrc,show texts? []=some []from rfl]
   rw[show BIz []=[]from rfl]
   rfl
  ·simp only[go_sem,Nat.reduceLT,Nat.reduceAdd,Nat.reduceSub,Nat.reduceEqDiff,Nat.reduceLeDiff,Int.reduceEq,Int.reduceBEq,Int.reduceBNe,Int.reduceNeg,UInt8.reduceToNat,Nat.reduceBEq,htr,htb,hat,hbl,sortTextOrc,Ksz]
   refine BPz (by omega) ?_
   simp only[go_sem,Nat.reduceLT,Nat.reduceAdd,Nat.reduceSub,Nat.reduceEqDiff,Nat.reduceLeDiff,Int.reduceEq,Int.reduceBEq,Int.reduceBNe,Int.reduceNeg,UInt8.reduceToNat,Nat.reduceBEq,hz,HJz,QSz]
set_option maxHeartbeats 4000000 in
theorem L8z (n:Nat) (hn:Big+40≤n) (t:TTab) (ht:t.ok):pcall env n 110 [.c .agg (t.pv.map ASz)] []=some ⟨.c .one [.ow false 1 ((BEz t).map ppv)],[]⟩:=by
 obtain⟨m,rfl⟩:=AFz hn
 have htr:=GEz m (by omega) t ht
 simp only[go_sem]at htr
 refine ARz (ADz (fn:=Tryz.f110) rfl rfl rfl (Nat.le_of_ble_eq_true rfl) ?_)
 unfold Tryz.f110
 unfold BEz
 cases htb:Aaz t with
 |false=>
  have hso:=LDz m (by omega) [] (by simp)
  rw[show BIz []=[]from rfl]at hso
  simp only[go_sem]at hso
  simp only[go_sem,Nat.reduceLT,Nat.reduceAdd,Nat.reduceSub,Nat.reduceEqDiff,Nat.reduceLeDiff,Int.reduceEq,Int.reduceBEq,Int.reduceBNe,Int.reduceNeg,UInt8.reduceToNat,Nat.reduceBEq,htr,htb,hso]
 |true=>
  have hfl:=Hyz htb
  have hfw:=Hoz htb
  have hbl:=PDz t ht 30 (by decide) m (by omega) 1 hfl [] (by simp) [] (by simp only[List.length_nil];omega)
  have hso:=LDz m (by omega) (AWz t.Inodes 30 (Awz t.Inodes 1) []) (by omega)
  simp only[go_sem]at hbl hso
  simp only[go_sem,Nat.reduceLT,Nat.reduceAdd,Nat.reduceSub,Nat.reduceEqDiff,Nat.reduceLeDiff,Int.reduceEq,Int.reduceBEq,Int.reduceBNe,Int.reduceNeg,UInt8.reduceToNat,Nat.reduceBEq,htr,htb,hbl,hso]
end Go.Proofs.YtblelojdboefjaaGreatDoor.R
namespace Go.Proofs.YtblelojdboefjaaGreatDoor.R
open Go
def stI (l:List TInode) (p:List UInt8):TInode:=match(Amz l p).2==0 with
 |false=>Cyz
 |true=>match AKz l (Amz l p).1 with
  |none=>Cyz
  |some x=>x
def BHz (l:List TInode) (ps:List (List UInt8)) (k:Int):List UInt8:=match ps.find? (fun q=>(Amz l q).1==k)with
 |some q=>q
 |none=>[]
def A0z (l:List TInode) (ps:List (List UInt8)) (p:List UInt8):TEntry:=⟨⟨⟨p⟩⟩,(stI l p).Kind,(stI l p).Data,(stI l p).Attrs,⟨⟨BHz l ps (stI l p).Ino⟩⟩⟩
noncomputable def Anz (t:TTab):List TEntry:=(BEz t).map (A0z t.Inodes (BEz t))
theorem JFz (l:List TInode):∀(ns:List (List UInt8)) (k:Int),(BCz l ns k).2≠0→(BCz l ns k).1=0
 |[],k,h=>absurd rfl h
 |nm::ns,k,h=>by
  simp only[BCz]at h ⊢
  split
  ·rfl
  ·rename_i x hx
   rw[hx]at h
   simp only at h
   split
   ·rfl
   ·rename_i hk
    rw[hk]at h
    simp only at h
    split
    ·rfl
    ·rename_i he
     rw[he]at h
     exact JFz l ns _ h
theorem J5z {t:TTab} (h:Aaz t=true) {x:TInode} (hx:x∈t.Inodes) {nm:List UInt8} (he:(entI x.Ents nm==0)=false):(AKz t.Inodes (entI x.Ents nm)).isSome=true:=by
 unfold entI at he ⊢
 cases hf:x.Ents.find? (fun e=>e.Name.toList==nm)with
 |none=>rw[hf]at he;simp at he
 |some e=>
  have hm:=List.mem_of_find?_eq_some hf
  obtain⟨i,hi⟩:=List.getElem?_of_mem hm
  have:=((Bdz h).2 x hx).2.2
  unfold Erz at this
  have:=C7z this (List.getElem?_eq_some_iff.1 hi).1
  rw[hi]at this
  exact this
theorem HUz {t:TTab} (h:Aaz t=true):∀(ns:List (List UInt8)) (k:Int),(AKz t.Inodes k).isSome=true→(BCz t.Inodes ns k).2=0→(AKz t.Inodes (BCz t.Inodes ns k).1).isSome=true
 |[],k,hk,_=>hk
 |nm::ns,k,hk,hc=>by
  obtain⟨x,hx⟩:=Option.isSome_iff_exists.1 hk
  obtain⟨hm,_⟩:=Ayz hx
  simp only[BCz,hx]at hc ⊢
  cases hkd:(x.Kind==2)with
  |false=>rw[hkd]at hc;simp at hc
  |true=>
   rw[hkd]at hc
   simp only at hc ⊢
   cases he:(entI x.Ents nm==0)with
   |true=>rw[he]at hc;simp at hc
   |false=>
    rw[he]at hc
    simp only at hc ⊢
    exact HUz h ns _ (J5z h hm he) hc
theorem P3z {t:TTab} (h:Aaz t=true) (p:List UInt8):(stI t.Inodes p).Ino=(Amz t.Inodes p).1:=by
 unfold stI
 cases hc:((Amz t.Inodes p).2==0)with
 |false=>
  have hne:(Amz t.Inodes p).2≠0:=by simpa using hc
  show Cyz.Ino=_
  unfold Amz at hne ⊢
  cases hp:Bbz p with
  |none=>rfl
  |some ns=>
   rw[hp]at hne
   exact(JFz _ _ _ hne).symm
 |true=>
  have he:(Amz t.Inodes p).2=0:=by simpa using hc
  have hp:(AKz t.Inodes (Amz t.Inodes p).1).isSome=true:=by
   unfold Amz at he ⊢
   cases hp:Bbz p with
   |none=>rw[hp]at he;exact absurd he (by simp)
   |some ns=>
    rw[hp]at he
    obtain⟨r,_,hr⟩:=Foz h
    exact HUz h ns 1 (by rw[hr];rfl) he
  obtain⟨x,hx⟩:=Option.isSome_iff_exists.1 hp
  simp only[hx]
  exact(Ayz hx).2
theorem Upz {l:List TInode} (p:List UInt8):stI l p=Cyz∨stI l p∈l:=by
 unfold stI
 split
 ·exact .inl rfl
 ·split
  ·exact .inl rfl
  ·rename_i x hx;exact .inr (Ayz hx).1
theorem ODz {t:TTab} (h:Aaz t=true) {x:TInode} (hx:x∈t.Inodes) {e:TEnt} (he:e∈x.Ents):e.Name.toList.length≤14:=by
 have h1:=((Bdz h).2 x hx).1
 unfold Atz at h1
 simp only[Bool.and_eq_true]at h1
 have h2:=h1.1.1.2
 unfold B8z at h2
 simp only[Bool.and_eq_true]at h2
 obtain⟨i,hi⟩:=List.getElem?_of_mem he
 have h3:=C7z h2.1 (List.getElem?_eq_some_iff.1 hi).1
 unfold Bqz Esz at h3
 rw[hi]at h3
 simp only[Bool.and_eq_true]at h3
 have h4:=h3.1.1
 unfold B6z BBz GWz at h4
 simp only[Bool.and_eq_true,decide_eq_true_eq]at h4
 rw[ByteArray.toList_eq]
 exact h4.2.1.1.2
theorem Jaz {t:TTab} (h:Aaz t=true):∀(f:Nat) (es:List TEnt) (p q:List UInt8),(∀e∈es,e.Name.toList.length≤14)→q∈AWz t.Inodes f es p→q.length≤p.length+f*15
 |0,es,p,q,_,hq=>by simp[AWz]at hq
 |f+1,es,p,q,he,hq=>by
  simp only[AWz]at hq
  obtain⟨e,hem,hq⟩:=List.mem_flatMap.1 hq
  have h1:=he e hem
  have hl:(p++[47]++e.Name.toList).length≤p.length+15:=by simp only[List.length_append,List.length_cons,List.length_nil];omega
  rcases List.mem_cons.1 hq with rfl|hq
  ·omega
  ·have:=Jaz h f (Awz t.Inodes e.Ino) _ q (fun e' he'=>by
    unfold Awz at he'
    cases hx:AKz t.Inodes e.Ino with
    |none=>rw[hx]at he';simp at he'
    |some x=>rw[hx]at he';exact ODz h (Ayz hx).1 he') hq
   omega
theorem Fuz {t:TTab} {q:List UInt8} (hq:q∈BEz t):q.length≤450:=by
 unfold BEz at hq
 cases h:Aaz t with
 |false=>rw[h]at hq;simp at hq
 |true=>
  rw[h]at hq
  have hq2:=(Daz _).mem_iff.1 hq
  obtain⟨r,hr,hno⟩:=Foz h
  have:=Jaz h 30 (Awz t.Inodes 1) [] q (fun e he=>by
   unfold Awz at he
   rw[hno]at he
   exact ODz h hr he) hq2
  simpa using this
theorem Grz (t:TTab):(BEz t).length≤9000:=by
 unfold BEz
 cases h:Aaz t with
 |false=>simp
 |true=>
  simp only[HJz]
  exact Hoz h
theorem Qyz {l:List TInode} {ps:List (List UInt8)} {k:Int}:BHz l ps k=[]∨BHz l ps k∈ps:=by
 unfold BHz
 split
 ·rename_i q hq;exact .inr (List.mem_of_find?_eq_some hq)
 ·exact .inl rfl
theorem PQz {t:TTab} {k:Int}:(BHz t.Inodes (BEz t) k).length≤450:=by
 rcases Qyz (l:=t.Inodes) (ps:=BEz t) (k:=k)with h|h
 ·rw[h];simp
 ·exact Fuz h
theorem WZz {t:TTab} (ht:t.ok) (p:List UInt8):(stI t.Inodes p).ok:=by
 rcases Upz (l:=t.Inodes) p with h|h
 ·rw[h];exact Liz
 ·exact ht.Inodes.1 _ h
theorem SYz {t:TTab} (ht:t.ok) {p:List UInt8} (hp:p∈BEz t):(A0z t.Inodes (BEz t) p).ok:=by
 have h1:=WZz ht p
 have h2:=Fuz hp
 have h3:=PQz (t:=t) (k:=(stI t.Inodes p).Ino)
 have hb:Bd=1048576:=rfl
 exact⟨by unfold okS A0z;simp only[DOz];omega,h1.Kind,h1.Data,h1.Attrs,by unfold okS A0z;simp only[DOz];omega⟩
theorem Mpz {t:TTab} (h:Aaz t=true) {ps:List (List UInt8)} {i:Nat} {p:List UInt8} (hp:ps[i]? =some p) (hn:∀(j:Nat) (q:List UInt8),j<i→ps[j]? =some q→((Amz t.Inodes q).1==(stI t.Inodes p).Ino)=false):BHz t.Inodes ps (stI t.Inodes p).Ino=p:=by
 have:ps.find? (fun q=>(Amz t.Inodes q).1==(stI t.Inodes p).Ino)=some p:=by
  rw[List.find?_eq_some_iff_getElem]
  obtain⟨hi,hpi⟩:=List.getElem?_eq_some_iff.1 hp
  refine⟨by rw[P3z h];simp,i,hi,hpi,fun j hj=>by simpa using hn j _ hj (List.getElem?_eq_getElem (by omega))⟩
 unfold BHz;rw[this]
theorem Jwz {t:TTab} (h:Aaz t=true) {ps:List (List UInt8)} {p q:List UInt8} (hq:((Amz t.Inodes q).1==(stI t.Inodes p).Ino)=true):BHz t.Inodes ps (stI t.Inodes q).Ino=BHz t.Inodes ps (stI t.Inodes p).Ino:=by
 have:(stI t.Inodes q).Ino=(stI t.Inodes p).Ino:=by rw[P3z h q];simpa using hq
 rw[this]
theorem KMz {t:TTab} {p:List UInt8} (hp:p∈BEz t):Aaz t=true:=by
 cases h:Aaz t with
 |true=>rfl
 |false=>unfold BEz at hp;rw[h]at hp;simp at hp
end Go.Proofs.YtblelojdboefjaaGreatDoor.R
namespace Go.Proofs.YtblelojdboefjaaGreatDoor.R
open Go
theorem Noz {l:List TInode} {ps:List (List UInt8)} {k:Int} (h:∀(i:Nat) (q:List UInt8),i<ps.length→ps[i]? =some q→((Amz l q).1==k)=false):BHz l ps k=[]:=by
 have:ps.find? (fun q=>(Amz l q).1==k)=none:=by
  rw[List.find?_eq_none]
  intro q hq
  obtain⟨i,hi⟩:=List.getElem?_of_mem hq
  simpa using h i q (List.getElem?_eq_some_iff.1 hi).1 hi
 unfold BHz;rw[this]
theorem Nnz {l:List TInode} {ps:List (List UInt8)} {k:Int} {j:Nat} {p:List UInt8} (hp:ps[j]? =some p) (hk:((Amz l p).1==k)=true) (h:∀(i:Nat) (q:List UInt8),i<j→ps[i]? =some q→((Amz l q).1==k)=false):BHz l ps k=p:=by
 have:ps.find? (fun q=>(Amz l q).1==k)=some p:=by
  rw[List.find?_eq_some_iff_getElem]
  obtain⟨hi,hpi⟩:=List.getElem?_eq_some_iff.1 hp
  exact⟨hk,j,hi,hpi,fun i hij=>by simpa using h i _ hij (List.getElem?_eq_getElem (by omega))⟩
 unfold BHz;rw[this]
set_option maxHeartbeats 4000000 in
theorem Njz (n:Nat) (hn:Big+6≤n) (t:TTab) (ht:t.ok) (ps:List (List UInt8)) (hps:ps.length≤9000) (hp:∀q∈ps,q.length≤450) (k:Int):pcall env n 112 [.c .agg (t.pv.map ASz),.c .one [.sh true (.s 1 (ps.map ppv))],pvSV (.i .i64 k)] []=some ⟨pvSV (.t ⟨⟨BHz t.Inodes ps k⟩⟩),[]⟩:=by
 obtain⟨m,rfl⟩:=AFz hn
 have hB:=AXz
 have hbd:Bd=1048576:=rfl
 refine ARz (ADz (fn:=Tryz.f112) rfl rfl rfl (Nat.le_of_ble_eq_true rfl) ?_)
 unfold Tryz.f112
 simp only[go_sem,Nat.reduceLT,Nat.reduceAdd,Nat.reduceSub,Nat.reduceEqDiff,Nat.reduceLeDiff,Int.reduceEq,Int.reduceBEq,Int.reduceBNe,Int.reduceNeg,UInt8.reduceToNat,Nat.reduceBEq]
 refine AGz (fun r σ=>∃j:Nat,j≤ps.length∧r=ps.length - j∧(∀(i:Nat) (q:List UInt8),i<j→ps[i]? =some q→((Amz t.Inodes q).1==k)=false)∧σ=slots 32 [(1,.c .one [.sh true (.s 1 (ps.map ppv))]),(2,.c .one [.sh false (.i .i64 k)]),(3,.c .box [.sh true (.s 6 (t.Inodes.map TInode.pv)),.sh false (.i .i64 t.Next)]),(7,.c .one [.sh false (.i .i64 (j:Nat))])]) ps.length (by omega) ?_ ?_
 ·simp only[go_sem,Nat.reduceLT,Nat.reduceAdd,Nat.reduceSub,Nat.reduceEqDiff,Nat.reduceLeDiff,Int.reduceEq,Int.reduceBEq,Int.reduceBNe,Int.reduceNeg,UInt8.reduceToNat,Nat.reduceBEq]
  exact⟨0,Nat.zero_le _,rfl,fun i y hi=>absurd hi (Nat.not_lt_zero _),rfl⟩
 ·rintro r σ ⟨j,hj,rfl,hpr,rfl⟩
  by_cases hlt:j<ps.length
  ·have h1:((j:Int)<(ps.length:Int)):=by omega
   have hx:ps[j]? =some ps[j]:=List.getElem?_eq_getElem hlt
   have hq:=hp _ (List.getElem_mem hlt)
   generalize ps[j]=q at hx hq
   have hw:=IQz m (deep hn (by decide)) t ht q (by omega)
   simp only[go_sem,tup2]at hw
   cases ha:((Amz t.Inodes q).1==k)with
   |true=>
    rw[Nnz hx ha hpr]
    simp only[go_sem,Nat.reduceLT,Nat.reduceAdd,Nat.reduceSub,Nat.reduceEqDiff,Nat.reduceLeDiff,Int.reduceEq,Int.reduceBEq,Int.reduceBNe,Int.reduceNeg,UInt8.reduceToNat,Nat.reduceBEq,h1,hx,hw,ha]
    exact chk1 (by kernel_rfl)
   |false=>
    simp only[go_sem,Nat.reduceLT,Nat.reduceAdd,Nat.reduceSub,Nat.reduceEqDiff,Nat.reduceLeDiff,Int.reduceEq,Int.reduceBEq,Int.reduceBNe,Int.reduceNeg,UInt8.reduceToNat,Nat.reduceBEq,h1,hx,hw,ha,ACz hlt (by omega)]
    refine chk (by kernel_rfl) ⟨_,by omega,j+1,hlt,rfl,fun i y hi hy=> ?_,by with_reducible rfl⟩
    rcases Nat.lt_succ_iff_lt_or_eq.1 hi with h|h
    ·exact hpr i y h hy
    ·subst h;rw[hx]at hy;injection hy with hy;subst hy;exact ha
  ·have h1:¬((j:Int)<(ps.length:Int)):=by omega
   obtain rfl:j=ps.length:=by omega
   rw[Noz hpr]
   simp only[go_sem,Nat.reduceLT,Nat.reduceAdd,Nat.reduceSub,Nat.reduceEqDiff,Nat.reduceLeDiff,Int.reduceEq,Int.reduceBEq,Int.reduceBNe,Int.reduceNeg,UInt8.reduceToNat,Nat.reduceBEq,h1]
theorem JLz (l:List TInode) (p:List UInt8):(∃c:Int,Glz l p=Bpz++[.sh false (.i .i64 c)]∧stI l p=Cyz)∨∃x,x=stI l p∧Glz l p=BMz x++[.sh false (.i .i64 0)]:=by
 unfold Glz stI
 cases hc:((Amz l p).2==0)with
 |false=>exact .inl ⟨_,rfl,rfl⟩
 |true=>
  cases hf:AKz l (Amz l p).1 with
  |none=>exact .inl ⟨_,rfl,rfl⟩
  |some x=>exact .inr ⟨x,rfl,rfl⟩
theorem Q6z {l:List TInode} {ps:List (List UInt8)} {i:Nat} {p:List UInt8} (h:ps[i]? =some p):((ps.take (i+1)).map (A0z l ps)).map TEntry.pv=((ps.take i).map (A0z l ps)).map TEntry.pv++[(A0z l ps p).pv]:=by
 rw[List.take_add_one,h];simp
set_option maxHeartbeats 8000000 in
theorem Ikz (n:Nat) (hn:Big+41≤n) (t:TTab) (ht:t.ok):pcall env n 40 [.c .agg (t.pv.map ASz)] []=some ⟨.c .one [.ow false 5 ((Anz t).map TEntry.pv)],[]⟩:=by
 obtain⟨m,rfl⟩:=AFz hn
 have hB:=AXz
 have hbd:Bd=1048576:=rfl
 have hlim:LIM=70368744177664:=rfl
 have hpt:=L8z m (by omega) t ht
 simp only[go_sem]at hpt
 have hlen:=Grz t
 have hsz:=fun q (hq:q∈BEz t)=>Fuz hq
 unfold Anz
 generalize BEz t=ps at hpt hlen hsz ⊢
 refine ARz (ADz (fn:=Tryz.f40) rfl rfl rfl (Nat.le_of_ble_eq_true rfl) ?_)
 unfold Tryz.f40
 simp only[go_sem,Nat.reduceLT,Nat.reduceAdd,Nat.reduceSub,Nat.reduceEqDiff,Nat.reduceLeDiff,Int.reduceEq,Int.reduceBEq,Int.reduceBNe,Int.reduceNeg,UInt8.reduceToNat,Nat.reduceBEq,hpt,Nat.zero_mul,Nat.zero_le]
 refine AGz (fun r σ=>∃(i:Nat),i≤ps.length∧r=ps.length - i∧σ=slots 46 [(1,.c .box [.sh true (.s 6 (t.Inodes.map TInode.pv)),.sh false (.i .i64 t.Next)]),(3,.c .one [.ow false 5 (((ps.take i).map (A0z t.Inodes ps)).map TEntry.pv)]),(4,.c .one [.ow false 1 (ps.map ppv)]),(5,.c .one [.sh false (.i .i64 (i:Nat))])]) ps.length (by omega) ?_ ?_
 ·simp only[go_sem,Nat.reduceLT,Nat.reduceAdd,Nat.reduceSub,Nat.reduceEqDiff,Nat.reduceLeDiff,Int.reduceEq,Int.reduceBEq,Int.reduceBNe,Int.reduceNeg,UInt8.reduceToNat,Nat.reduceBEq]
  exact⟨0,Nat.zero_le _,rfl,rfl⟩
 ·rintro r σ ⟨i,hi,rfl,rfl⟩
  by_cases hlt:i<ps.length
  ·have h1:((i:Int)<(ps.length:Int)):=by omega
   have hx:ps[i]? =some ps[i]:=List.getElem?_eq_getElem hlt
   have hq:=hsz _ (List.getElem_mem hlt)
   generalize ps[i]=p at hx hq
   have hst:=NZz m (by omega) t ht p (by omega)
   have hfi:=Njz m (by omega) t ht ps hlen hsz (stI t.Inodes p).Ino
   simp only[go_sem]at hst hfi
   have hds:=Q6z (l:=t.Inodes) hx
   have l1:((ps.take i).length+1)*88≤LIM:=by rw[List.length_take];omega
   rcases JLz t.Inodes p with⟨c,hs1,hs2⟩|⟨x,hs2,hs1⟩
   ·rw[hs1]at hst
    rw[hs2]at hfi
    simp only[go_sem,Bpz,Cyz]at hst hfi
    simp only[go_sem,Nat.reduceLT,Nat.reduceAdd,Nat.reduceSub,Nat.reduceEqDiff,Nat.reduceLeDiff,Int.reduceEq,Int.reduceBEq,Int.reduceBNe,Int.reduceNeg,UInt8.reduceToNat,Nat.reduceBEq,h1,hx,hst]
    refine chk (by kernel_rfl) ?_
    simp only[go_sem,Nat.reduceLT,Nat.reduceAdd,Nat.reduceSub,Nat.reduceEqDiff,Nat.reduceLeDiff,Int.reduceEq,Int.reduceBEq,Int.reduceBNe,Int.reduceNeg,UInt8.reduceToNat,Nat.reduceBEq,hx,hfi,l1]
    have he:(A0z t.Inodes ps p).pv=[.t ⟨⟨p⟩⟩,.i .i64 0,.s 1 [],.s 2 [],.t ⟨⟨BHz t.Inodes ps 0⟩⟩]:=by unfold A0z;rw[hs2];rfl
    refine chk (by kernel_rfl) ⟨_,by omega,i+1,hlt,rfl,?_⟩
    rw[hds,he,ACz hlt (by omega)]
   ·rw[hs1]at hst
    rw[←hs2]at hfi
    simp only[go_sem,BMz]at hst
    simp only[go_sem,Nat.reduceLT,Nat.reduceAdd,Nat.reduceSub,Nat.reduceEqDiff,Nat.reduceLeDiff,Int.reduceEq,Int.reduceBEq,Int.reduceBNe,Int.reduceNeg,UInt8.reduceToNat,Nat.reduceBEq,h1,hx,hst]
    refine chk (by kernel_rfl) ?_
    simp only[go_sem,Nat.reduceLT,Nat.reduceAdd,Nat.reduceSub,Nat.reduceEqDiff,Nat.reduceLeDiff,Int.reduceEq,Int.reduceBEq,Int.reduceBNe,Int.reduceNeg,UInt8.reduceToNat,Nat.reduceBEq,hx,hfi,l1]
    have he:(A0z t.Inodes ps p).pv=[.t ⟨⟨p⟩⟩,.i .i64 x.Kind,.s 1 (x.Data.map bpv),.s 2 (x.Attrs.map TAttr.pv),.t ⟨⟨BHz t.Inodes ps x.Ino⟩⟩]:=by unfold A0z;rw[←hs2];rfl
    refine chk (by kernel_rfl) ⟨_,by omega,i+1,hlt,rfl,?_⟩
    rw[hds,he,ACz hlt (by omega)]
  ·have h1:¬((i:Int)<(ps.length:Int)):=by omega
   obtain rfl:i=ps.length:=by omega
   rw[List.take_length]
   simp only[go_sem,Nat.reduceLT,Nat.reduceAdd,Nat.reduceSub,Nat.reduceEqDiff,Nat.reduceLeDiff,Int.reduceEq,Int.reduceBEq,Int.reduceBNe,Int.reduceNeg,UInt8.reduceToNat,Nat.reduceBEq,h1]
end Go.Proofs.YtblelojdboefjaaGreatDoor.R
namespace Go.Proofs.YtblelojdboefjaaGreatDoor.R
open Go
theorem SFz {x y:ByteArray} (h:CUz x y=true):x.toList<y.toList:=by
 unfold CUz at h
 rw[KYz]at h
 exact of_decide_eq_true h
theorem Q2z {es:List TEnt} (h:B8z es=true):∀(j i:Nat) (a b:TEnt),i<j→es[i]? =some a→es[j]? =some b→a.Name.toList<b.Name.toList:=by
 unfold B8z at h
 simp only[Bool.and_eq_true]at h
 have h1:=h.1
 intro j
 induction j with
 |zero=>intro i a b hi;exact absurd hi (Nat.not_lt_zero _)
 |succ j ih=>
  intro i a b hi ha hb
  have hj:=(List.getElem?_eq_some_iff.1 hb).1
  have h2:=C7z h1 hj
  unfold Bqz Esz at h2
  rw[hb]at h2
  simp only[Nat.succ_ne_zero,if_false,Nat.add_sub_cancel]at h2
  have hc:es[j]? =some es[j]:=List.getElem?_eq_getElem (by omega)
  rw[hc]at h2
  simp only[Bool.and_eq_true]at h2
  have h3:=SFz h2.2
  rcases Nat.lt_succ_iff_lt_or_eq.1 hi with hi|rfl
  ·exact List.lt_trans (ih i a _ hi ha hc) h3
  ·rw[ha]at hc;injection hc with hc;rw[hc];exact h3
theorem Q4z {es:List TEnt} (h:B8z es=true) {e:TEnt} (he:e∈es):BBz e.Name.toList=true∧(e.Ino==0)=false:=by
 unfold B8z at h
 simp only[Bool.and_eq_true]at h
 obtain⟨i,hi⟩:=List.getElem?_of_mem he
 have h3:=C7z h.1 (List.getElem?_eq_some_iff.1 hi).1
 unfold Bqz Esz at h3
 rw[hi]at h3
 simp only[Bool.and_eq_true]at h3
 have h4:=h3.1.1
 have h5:=h3.1.2
 unfold B6z at h4
 rw[ByteArray.toList_eq]
 refine⟨h4,?_⟩
 unfold inB at h5
 simp only[Bool.and_eq_true,decide_eq_true_eq]at h5
 have:e.Ino≠0:=by omega
 simpa using this
theorem Tsz {es:List TEnt} (h:B8z es=true) {e:TEnt} (he:e∈es):entI es e.Name.toList=e.Ino:=by
 obtain⟨i,hi⟩:=List.getElem?_of_mem he
 refine I6z hi (by simp) fun j y hj hy=> ?_
 have h1:=Q2z h i j y e hj hy hi
 have:y.Name.toList≠e.Name.toList:=fun h2=>by rw[h2]at h1;exact List.lt_irrefl _ h1
 simpa using this
def FCz (ns:List (List UInt8)):List UInt8:=ns.flatMap (47:: ·)
theorem VVz {t:TTab} (h:Aaz t=true) {x:TInode} (hx:x∈t.Inodes) {e:TEnt} (he:e∈x.Ents):(x.Kind==2)=true:=by
  have h1:=((Bdz h).2 x hx).1
  unfold Atz at h1
  simp only[Bool.and_eq_true]at h1
  have h2:=h1.2
  cases hk:(x.Kind==1)with
  |true=>
    rw[Mcz hk]at h2
    have h3 : x.Ents.length = 0 := by have : (x.Ents.length : Int) = 0 := by simpa using h2
                                      omega
    rw[List.length_eq_zero_iff.1 h3]at he
    cases he
  |false=>
    cases hk2:(x.Kind==2)with
    |true=>rfl
    |false=>rw[Jpz hk hk2]at h2;cases h2
theorem MCz {t:TTab} (h:Aaz t=true):∀(f:Nat) (k:Int) (p q:List UInt8),q∈AWz t.Inodes f (Awz t.Inodes k) p→
  ∃ns:List (List UInt8),ns≠[]∧ns.length≤f∧q=p++FCz ns∧ns.all BBz=true∧(BCz t.Inodes ns k).2=0∧(AKz t.Inodes (BCz t.Inodes ns k).1).isSome=true
 |0,k,p,q,hq=>by simp[AWz]at hq
 |f+1,k,p,q,hq=>by
  simp only[AWz]at hq
  obtain⟨e,he,hq⟩:=List.mem_flatMap.1 hq
  unfold Awz at he
  cases hn:AKz t.Inodes k with
  |none=>rw[hn]at he;cases he
  |some x=>
   rw[hn]at he
   have he:e∈x.Ents:=he
   have hx:=(Ayz hn).1
   have hkd:=VVz h hx he
   have hI:=((Bdz h).2 x hx).1
   unfold Atz at hI
   simp only[Bool.and_eq_true]at hI
   have hes:=hI.1.1.2
   obtain⟨h1,h2⟩:=Q4z hes he
   have h3:=Tsz hes he
   have h4:=J5z h hx (nm:=e.Name.toList) (by rw[h3];exact h2)
   rw[h3]at h4
   have hstep:∀ns,BCz t.Inodes (e.Name.toList::ns) k=BCz t.Inodes ns e.Ino:=fun ns=>by
    simp only[BCz,hn,hkd,h3,h2]
   rcases List.mem_cons.1 hq with rfl|hq
   ·refine⟨[e.Name.toList],by simp,by simp,by simp[FCz],by simp[h1],?_,?_⟩
    ·rw[hstep];rfl
    ·rw[hstep];exact h4
   ·obtain⟨ns,g1,g2,g3,g4,g5,g6⟩:=MCz h f e.Ino _ q hq
    refine⟨e.Name.toList::ns,by simp,by simp only[List.length_cons];omega,?_,by simp[h1,g4],?_,?_⟩
    ·rw[g3];simp[FCz]
    ·rw[hstep];exact g5
    ·rw[hstep];exact g6
theorem K5z {l:List UInt8} (h:BBz l=true):∀c∈l,c≠47:=by
 intro c hc e
 subst e
 unfold BBz at h
 simp only[Bool.and_eq_true]at h
 have:=List.all_eq_true.1 h.1 _ hc
 revert this
 decide
theorem Gnz:∀(n:List UInt8) (ns:List (List UInt8)),(∀c∈n,c≠47)→(∀m∈ns,∀c∈m,c≠47)→AVz (n++FCz ns)=n::ns
 |[],[],_,_=>rfl
 |[],m::ns,_,hs=>by
  have:=Gnz m ns (hs m List.mem_cons_self) fun m' hm=>hs m' (List.mem_cons_of_mem _ hm)
  show AVz (47::(m++FCz ns))=_
  simp only[AVz,if_true,this]
 |c::n,ns,hn,hs=>by
  have:=Gnz n ns (fun c' hc=>hn c' (List.mem_cons_of_mem _ hc)) hs
  show AVz (c::(n++FCz ns))=_
  simp only[AVz,if_neg (hn c List.mem_cons_self),this]
theorem O4z {t:TTab} {p:List UInt8} (hp:p∈BEz t):(Amz t.Inodes p).2=0∧stI t.Inodes p∈t.Inodes:=by
 have h:=KMz hp
 unfold BEz at hp
 rw[h]at hp
 have hp2:=(Daz _).mem_iff.1 hp
 obtain⟨ns,g1,g2,g3,g4,g5,g6⟩:=MCz h 30 1 [] p hp2
 have hw:Amz t.Inodes p=BCz t.Inodes ns 1:=by
  cases ns with
  |nil=>exact absurd rfl g1
  |cons n ns=>
   have hall:∀m∈n::ns,BBz m=true:=List.all_eq_true.1 g4
   have hsp:=Gnz n ns (K5z (hall n List.mem_cons_self)) fun m hm=>K5z (hall m (List.mem_cons_of_mem _ hm))
   have hpe:p=47::(n++FCz ns):=by rw[g3];simp[FCz]
   have hne:n++FCz ns≠[]:=by
    intro e
    have:n=[]:=(List.append_eq_nil_iff.1 e).1
    subst this
    have:=hall [] List.mem_cons_self
    revert this
    decide
   unfold Amz
   rw[hpe,GJz hne,hsp,if_pos (by simp only[Bool.and_eq_true,decide_eq_true_eq];exact⟨g2,g4⟩)]
 rw[hw]
 refine⟨g5,?_⟩
 obtain⟨x,hx⟩:=Option.isSome_iff_exists.1 g6
 unfold stI
 rw[hw]
 simp only[g5,hx]
 exact(Ayz hx).1
theorem QBz {t:TTab} {p:List UInt8} (hp:p∈BEz t):(stI t.Inodes p).Kind=1∨(stI t.Inodes p).Kind=2:=by
 have h1:=((Bdz (KMz hp)).2 _ (O4z hp).2).1
 unfold Atz at h1
 simp only[Bool.and_eq_true]at h1
 have h2:=h1.2
 cases hk:((stI t.Inodes p).Kind==1)with
 |true=>exact .inl (by simpa using hk)
 |false=>
  cases hk2:((stI t.Inodes p).Kind==2)with
  |true=>exact .inr (by simpa using hk2)
  |false=>rw[Jpz hk hk2]at h2;cases h2
end Go.Proofs.YtblelojdboefjaaGreatDoor.R
namespace Go.Proofs.YtblelojdboefjaaGreatDoor.R
open Go
def eqAs (l m:List TAttr):Bool:=decide (l.map (fun a=>(a.Name.toList,a.Val.toList))=m.map fun a=>(a.Name.toList,a.Val.toList))
def eqB (l m:List UInt8):Bool:=decide (l=m)
def eqE (a b:TEntry):Bool:=(a.Path.toList==b.Path.toList)&&(a.Kind==b.Kind)&&(a.First.toList==b.First.toList)&&eqB a.Data b.Data&&eqAs a.Attrs b.Attrs
theorem SWz (a b:TEntry):eqE a b=eqE b a:=by
 unfold eqE eqAs eqB
 simp only[Bool.beq_comm (a:=a.Path.toList),Bool.beq_comm (a:=a.Kind),Bool.beq_comm (a:=a.First.toList),eq_comm (a:=a.Data),eq_comm (a:=a.Attrs.map _)]
theorem Itz {α:Type} {l m:List α} (hl:l.length=m.length) (h:l.take l.length=m.take l.length):l=m:=by
 rwa[List.take_length,hl,List.take_length]at h
theorem Fkz {α:Type} {l m:List α} {j:Nat} {x:α} (h:l.take j=m.take j) (hx:l[j]? =some x) (hy:m[j]? =some x):l.take (j+1)=m.take (j+1):=by
 rw[List.take_add_one,List.take_add_one,h,hx,hy]
theorem NBz {l m:List UInt8} {j:Nat} {x y:UInt8} (hx:l[j]? =some x) (hy:m[j]? =some y) (h:((x.toNat:Int) !=(y.toNat:Int))=true):eqB l m=false:=by
 unfold eqB
 rw[decide_eq_false_iff_not]
 rintro rfl
 rw[hx]at hy;injection hy with hy;subst hy
 simp at h
theorem NIz {l m:List TAttr} {j:Nat} {x y:TAttr} (hx:l[j]? =some x) (hy:m[j]? =some y) (h:(x.Name.toList==y.Name.toList&&x.Val.toList==y.Val.toList)=false):eqAs l m=false:=by
 unfold eqAs
 rw[decide_eq_false_iff_not]
 intro e
 have:=congrArg (fun l=>l[j]?) e
 simp only[List.getElem?_map,hx,hy,Option.map_some,Option.some.injEq,Prod.mk.injEq]at this
 simp[this.1,this.2]at h
theorem Muz {l m:List TAttr} (h:l.length≠m.length):eqAs l m=false:=by
 unfold eqAs
 rw[decide_eq_false_iff_not]
 intro e
 have:=congrArg List.length e
 simp at this
 exact h this
def keyA (l:List TAttr):List (List UInt8×List UInt8):=l.map fun a=>(a.Name.toList,a.Val.toList)
theorem OTz {l m:List TAttr} (hl:l.length=m.length) (h:(keyA l).take l.length=(keyA m).take l.length):eqAs l m=true:=by
 unfold eqAs
 refine decide_eq_true ?_
 have:=Itz (l:=keyA l) (m:=keyA m) (by simp[keyA,hl]) (by simpa[keyA]using h)
 exact this
theorem neL {α:Type} (x y:List α):((x.length:Int) !=(y.length:Int))= !decide (x.length=y.length):=by
 by_cases h:x.length=y.length
 ·simp[h]
 ·have:(x.length:Int)≠y.length:=by omega
  simp[h,this]
section
variable (n:Nat)
set_option maxHeartbeats 1000000 in
theorem KZz (hn:Big+1≤n) (l m:List UInt8) (hl:l.length≤Bd):pcall env n 113 [.c .one [.sh true (.s 1 ((l).map bpv))],.c .one [.sh true (.s 1 ((m).map bpv))]] []=some ⟨.c .one [.sh false (.b (eqB l m))],[]⟩:=by
 refine walk (fn:=Tryz.f113) (d:=0) hn rfl rfl rfl (Nat.le_of_ble_eq_true rfl) fun k hd=> ?_
 unfold Tryz.f113
 have hb:Bd=1048576:=rfl
 have e1:=neL l m
 by_cases hlm:l.length=m.length
 case neg=>
  have:eqB l m=false:=decide_eq_false (by rintro rfl;exact hlm rfl)
  rw[this]
  rw[decide_eq_false hlm]at e1
  simp only[go_sem,Nat.reduceLT,Nat.reduceAdd,Nat.reduceSub,Nat.reduceEqDiff,Nat.reduceLeDiff,Int.reduceEq,Int.reduceBEq,Int.reduceBNe,Int.reduceNeg,UInt8.reduceToNat,Nat.reduceBEq,e1,Bool.not_false]
 rw[decide_eq_true hlm]at e1
 simp only[go_sem,Nat.reduceLT,Nat.reduceAdd,Nat.reduceSub,Nat.reduceEqDiff,Nat.reduceLeDiff,Int.reduceEq,Int.reduceBEq,Int.reduceBNe,Int.reduceNeg,UInt8.reduceToNat,Nat.reduceBEq,e1,Bool.not_true]
 refine B5z l (fun j=>slots 26 [(0,.c .one [.sh true (.s 1 ((l).map bpv))]),(1,.c .one [.sh true (.s 1 ((m).map bpv))]),(5,.c .one [.sh false (.i .i64 (j:Nat))])]) (fun j=>l.take j=m.take j) (hd (Nat.zero_le _)) (by omega) ?_ (fun j x hx _ hj h1 hw hI=> ?_) (fun hI=> ?_)
 ·simp only[go_sem,Nat.reduceLT,Nat.reduceAdd,Nat.reduceSub,Nat.reduceEqDiff,Nat.reduceLeDiff,Int.reduceEq,Int.reduceBEq,Int.reduceBNe,Int.reduceNeg,UInt8.reduceToNat,Nat.reduceBEq];exact fin rfl rfl
 ·have hy:m[j]? =some m[j]:=List.getElem?_eq_getElem (by omega)
  generalize m[j]=y at hy
  cases hb:((x.toNat:Int) !=(y.toNat:Int))with
  |true=>
   rw[NBz hx hy hb]
   simp only[go_sem,Nat.reduceLT,Nat.reduceAdd,Nat.reduceSub,Nat.reduceEqDiff,Nat.reduceLeDiff,Int.reduceEq,Int.reduceBEq,Int.reduceBNe,Int.reduceNeg,UInt8.reduceToNat,Nat.reduceBEq,h1,hx,hy,bpv,hb]
   exact chk1 (by kernel_rfl)
  |false=>
   have hxy:x=y:=by
    have:(x.toNat:Int)=y.toNat:=by simpa using hb
    exact UInt8.toNat_inj.1 (by omega)
   subst hxy
   simp only[go_sem,Nat.reduceLT,Nat.reduceAdd,Nat.reduceSub,Nat.reduceEqDiff,Nat.reduceLeDiff,Int.reduceEq,Int.reduceBEq,Int.reduceBNe,Int.reduceNeg,UInt8.reduceToNat,Nat.reduceBEq,h1,hx,hy,bpv,hw,hb]
   refine chk (by kernel_rfl) ?_
   exact fin rfl (Fkz hI hx hy)
 ·have:eqB l m=true:=decide_eq_true (Itz hlm hI)
  rw[this]
  simp only[go_sem,Nat.reduceLT,Nat.reduceAdd,Nat.reduceSub,Nat.reduceEqDiff,Nat.reduceLeDiff,Int.reduceEq,Int.reduceBEq,Int.reduceBNe,Int.reduceNeg,UInt8.reduceToNat,Nat.reduceBEq]
set_option maxHeartbeats 1000000 in
theorem Laz (hn:Big+1≤n) (l m:List UInt8) (hl:l.length≤Bd):pcall env n 123 [.c .one [.sh true (.s 1 ((l).map bpv))],.c .one [.sh true (.s 1 ((m).map bpv))]] []=some ⟨.c .one [.sh false (.b (eqB l m))],[]⟩:=by
 refine walk (fn:=Tryz.f123) (d:=0) hn rfl rfl rfl (Nat.le_of_ble_eq_true rfl) fun k hd=> ?_
 unfold Tryz.f123
 have hb:Bd=1048576:=rfl
 have e1:=neL l m
 by_cases hlm:l.length=m.length
 case neg=>
  have:eqB l m=false:=decide_eq_false (by rintro rfl;exact hlm rfl)
  rw[this]
  rw[decide_eq_false hlm]at e1
  simp only[go_sem,Nat.reduceLT,Nat.reduceAdd,Nat.reduceSub,Nat.reduceEqDiff,Nat.reduceLeDiff,Int.reduceEq,Int.reduceBEq,Int.reduceBNe,Int.reduceNeg,UInt8.reduceToNat,Nat.reduceBEq,e1,Bool.not_false]
 rw[decide_eq_true hlm]at e1
 simp only[go_sem,Nat.reduceLT,Nat.reduceAdd,Nat.reduceSub,Nat.reduceEqDiff,Nat.reduceLeDiff,Int.reduceEq,Int.reduceBEq,Int.reduceBNe,Int.reduceNeg,UInt8.reduceToNat,Nat.reduceBEq,e1,Bool.not_true]
 refine B5z l (fun j=>slots 26 [(0,.c .one [.sh true (.s 1 ((l).map bpv))]),(1,.c .one [.sh true (.s 1 ((m).map bpv))]),(12,.c .one [.sh false (.i .i64 (l.length:Nat))]),(13,.c .one [.sh false (.i .i64 (j:Nat))])]) (fun j=>l.take j=m.take j) (hd (Nat.zero_le _)) (by omega) ?_ (fun j x hx _ hj h1 hw hI=> ?_) (fun hI=> ?_)
 ·simp only[go_sem,Nat.reduceLT,Nat.reduceAdd,Nat.reduceSub,Nat.reduceEqDiff,Nat.reduceLeDiff,Int.reduceEq,Int.reduceBEq,Int.reduceBNe,Int.reduceNeg,UInt8.reduceToNat,Nat.reduceBEq];exact fin rfl rfl
 ·have hy:m[j]? =some m[j]:=List.getElem?_eq_getElem (by omega)
  generalize m[j]=y at hy
  cases hb:((x.toNat:Int) !=(y.toNat:Int))with
  |true=>
   rw[NBz hx hy hb]
   simp only[go_sem,Nat.reduceLT,Nat.reduceAdd,Nat.reduceSub,Nat.reduceEqDiff,Nat.reduceLeDiff,Int.reduceEq,Int.reduceBEq,Int.reduceBNe,Int.reduceNeg,UInt8.reduceToNat,Nat.reduceBEq,h1,hx,hy,bpv,hb]
   exact chk1 (by kernel_rfl)
  |false=>
   have hxy:x=y:=by
    have:(x.toNat:Int)=y.toNat:=by simpa using hb
    exact UInt8.toNat_inj.1 (by omega)
   subst hxy
   simp only[go_sem,Nat.reduceLT,Nat.reduceAdd,Nat.reduceSub,Nat.reduceEqDiff,Nat.reduceLeDiff,Int.reduceEq,Int.reduceBEq,Int.reduceBNe,Int.reduceNeg,UInt8.reduceToNat,Nat.reduceBEq,h1,hx,hy,bpv,hw,hb]
   refine chk (by kernel_rfl) ?_
   exact fin rfl (Fkz hI hx hy)
 ·have:eqB l m=true:=decide_eq_true (Itz hlm hI)
  rw[this]
  simp only[go_sem,Nat.reduceLT,Nat.reduceAdd,Nat.reduceSub,Nat.reduceEqDiff,Nat.reduceLeDiff,Int.reduceEq,Int.reduceBEq,Int.reduceBNe,Int.reduceNeg,UInt8.reduceToNat,Nat.reduceBEq]
set_option maxHeartbeats 1000000 in
theorem Jnz (hn:Big+1≤n) (l m:List TAttr) (hl:l.length≤Bd):pcall env n 114 [.c .one [.sh true (.s 2 (l.map TAttr.pv))],.c .one [.sh true (.s 2 (m.map TAttr.pv))]] []=some ⟨.c .one [.sh false (.b (eqAs l m))],[]⟩:=by
 refine walk (fn:=Tryz.f114) (d:=0) hn rfl rfl rfl (Nat.le_of_ble_eq_true rfl) fun k hd=> ?_
 unfold Tryz.f114
 have hb:Bd=1048576:=rfl
 have e1:=neL l m
 by_cases hlm:l.length=m.length
 case neg=>
  rw[Muz hlm]
  rw[decide_eq_false hlm]at e1
  simp only[go_sem,Nat.reduceLT,Nat.reduceAdd,Nat.reduceSub,Nat.reduceEqDiff,Nat.reduceLeDiff,Int.reduceEq,Int.reduceBEq,Int.reduceBNe,Int.reduceNeg,UInt8.reduceToNat,Nat.reduceBEq,e1,Bool.not_false]
 rw[decide_eq_true hlm]at e1
 simp only[go_sem,Nat.reduceLT,Nat.reduceAdd,Nat.reduceSub,Nat.reduceEqDiff,Nat.reduceLeDiff,Int.reduceEq,Int.reduceBEq,Int.reduceBNe,Int.reduceNeg,UInt8.reduceToNat,Nat.reduceBEq,e1,Bool.not_true]
 refine B5z l (fun j=>slots 26 [(0,.c .one [.sh true (.s 2 (l.map TAttr.pv))]),(1,.c .one [.sh true (.s 2 (m.map TAttr.pv))]),(5,.c .one [.sh false (.i .i64 (j:Nat))])]) (fun j=>(keyA l).take j=(keyA m).take j) (hd (Nat.zero_le _)) (by omega) ?_ (fun j x hx _ hj h1 hw hI=> ?_) (fun hI=> ?_)
 ·simp only[go_sem,Nat.reduceLT,Nat.reduceAdd,Nat.reduceSub,Nat.reduceEqDiff,Nat.reduceLeDiff,Int.reduceEq,Int.reduceBEq,Int.reduceBNe,Int.reduceNeg,UInt8.reduceToNat,Nat.reduceBEq];exact fin rfl rfl
 ·have hy:m[j]? =some m[j]:=List.getElem?_eq_getElem (by omega)
  generalize m[j]=y at hy
  cases hb:(x.Name.toList==y.Name.toList&&x.Val.toList==y.Val.toList)with
  |false=>
   rw[NIz hx hy hb]
   simp only[go_sem,Nat.reduceLT,Nat.reduceAdd,Nat.reduceSub,Nat.reduceEqDiff,Nat.reduceLeDiff,Int.reduceEq,Int.reduceBEq,Int.reduceBNe,Int.reduceNeg,UInt8.reduceToNat,Nat.reduceBEq,h1,hx,hy,hb,Bool.not_false]
   exact chk1 (by kernel_rfl)
  |true=>
   simp only[go_sem,Nat.reduceLT,Nat.reduceAdd,Nat.reduceSub,Nat.reduceEqDiff,Nat.reduceLeDiff,Int.reduceEq,Int.reduceBEq,Int.reduceBNe,Int.reduceNeg,UInt8.reduceToNat,Nat.reduceBEq,h1,hx,hy,hw,hb,Bool.not_true]
   refine chk (by kernel_rfl) ?_
   have hk:(x.Name.toList,x.Val.toList)=(y.Name.toList,y.Val.toList):=by
    simp only[Bool.and_eq_true,beq_iff_eq]at hb
    rw[hb.1,hb.2]
   exact fin rfl (Fkz (x:=(x.Name.toList,x.Val.toList)) hI (by simp[keyA,hx]) (by rw[hk];simp[keyA,hy]))
 ·rw[OTz hlm hI]
  simp only[go_sem,Nat.reduceLT,Nat.reduceAdd,Nat.reduceSub,Nat.reduceEqDiff,Nat.reduceLeDiff,Int.reduceEq,Int.reduceBEq,Int.reduceBNe,Int.reduceNeg,UInt8.reduceToNat,Nat.reduceBEq]
set_option maxHeartbeats 1000000 in
theorem Lbz (hn:Big+1≤n) (l m:List TAttr) (hl:l.length≤Bd):pcall env n 124 [.c .one [.sh true (.s 2 (l.map TAttr.pv))],.c .one [.sh true (.s 2 (m.map TAttr.pv))]] []=some ⟨.c .one [.sh false (.b (eqAs l m))],[]⟩:=by
 refine walk (fn:=Tryz.f124) (d:=0) hn rfl rfl rfl (Nat.le_of_ble_eq_true rfl) fun k hd=> ?_
 unfold Tryz.f124
 have hb:Bd=1048576:=rfl
 have e1:=neL l m
 by_cases hlm:l.length=m.length
 case neg=>
  rw[Muz hlm]
  rw[decide_eq_false hlm]at e1
  simp only[go_sem,Nat.reduceLT,Nat.reduceAdd,Nat.reduceSub,Nat.reduceEqDiff,Nat.reduceLeDiff,Int.reduceEq,Int.reduceBEq,Int.reduceBNe,Int.reduceNeg,UInt8.reduceToNat,Nat.reduceBEq,e1,Bool.not_false]
 rw[decide_eq_true hlm]at e1
 simp only[go_sem,Nat.reduceLT,Nat.reduceAdd,Nat.reduceSub,Nat.reduceEqDiff,Nat.reduceLeDiff,Int.reduceEq,Int.reduceBEq,Int.reduceBNe,Int.reduceNeg,UInt8.reduceToNat,Nat.reduceBEq,e1,Bool.not_true]
 refine B5z l (fun j=>slots 26 [(0,.c .one [.sh true (.s 2 (l.map TAttr.pv))]),(1,.c .one [.sh true (.s 2 (m.map TAttr.pv))]),(12,.c .one [.sh false (.i .i64 (l.length:Nat))]),(13,.c .one [.sh false (.i .i64 (j:Nat))])]) (fun j=>(keyA l).take j=(keyA m).take j) (hd (Nat.zero_le _)) (by omega) ?_ (fun j x hx _ hj h1 hw hI=> ?_) (fun hI=> ?_)
 ·simp only[go_sem,Nat.reduceLT,Nat.reduceAdd,Nat.reduceSub,Nat.reduceEqDiff,Nat.reduceLeDiff,Int.reduceEq,Int.reduceBEq,Int.reduceBNe,Int.reduceNeg,UInt8.reduceToNat,Nat.reduceBEq];exact fin rfl rfl
 ·have hy:m[j]? =some m[j]:=List.getElem?_eq_getElem (by omega)
  generalize m[j]=y at hy
  cases hb:(x.Name.toList==y.Name.toList&&x.Val.toList==y.Val.toList)with
  |false=>
   rw[NIz hx hy hb]
   simp only[go_sem,Nat.reduceLT,Nat.reduceAdd,Nat.reduceSub,Nat.reduceEqDiff,Nat.reduceLeDiff,Int.reduceEq,Int.reduceBEq,Int.reduceBNe,Int.reduceNeg,UInt8.reduceToNat,Nat.reduceBEq,h1,hx,hy,hb,Bool.not_false]
   exact chk1 (by kernel_rfl)
  |true=>
   simp only[go_sem,Nat.reduceLT,Nat.reduceAdd,Nat.reduceSub,Nat.reduceEqDiff,Nat.reduceLeDiff,Int.reduceEq,Int.reduceBEq,Int.reduceBNe,Int.reduceNeg,UInt8.reduceToNat,Nat.reduceBEq,h1,hx,hy,hw,hb,Bool.not_true]
   refine chk (by kernel_rfl) ?_
   have hk:(x.Name.toList,x.Val.toList)=(y.Name.toList,y.Val.toList):=by
    simp only[Bool.and_eq_true,beq_iff_eq]at hb
    rw[hb.1,hb.2]
   exact fin rfl (Fkz (x:=(x.Name.toList,x.Val.toList)) hI (by simp[keyA,hx]) (by rw[hk];simp[keyA,hy]))
 ·rw[OTz hlm hI]
  simp only[go_sem,Nat.reduceLT,Nat.reduceAdd,Nat.reduceSub,Nat.reduceEqDiff,Nat.reduceLeDiff,Int.reduceEq,Int.reduceBEq,Int.reduceBNe,Int.reduceNeg,UInt8.reduceToNat,Nat.reduceBEq]
theorem six (b1 b2 b3 b4 b5:Bool):b1=false∨(b1=true∧b2=false)∨(b1=true∧b2=true∧b3=false)∨(b1=true∧b2=true∧b3=true∧b4=false)∨(b1=true∧b2=true∧b3=true∧b4=true∧b5=false)∨(b1=true∧b2=true∧b3=true∧b4=true∧b5=true):=by
 cases b1<;>cases b2<;>cases b3<;>cases b4<;>cases b5<;>simp
set_option maxHeartbeats 4000000 in
theorem Jmz (hn:Big+2≤n) (a b:TEntry) (ha:a.ok):pcall env n 42 [.c .agg (a.pv.map ASz),.c .agg (b.pv.map ASz)] []=some ⟨.c .one [.sh false (.b (eqE a b))],[]⟩:=by
 refine walk (fn:=Tryz.f42) (d:=1) hn rfl rfl rfl (Nat.le_of_ble_eq_true rfl) fun k hd=> ?_
 unfold Tryz.f42
 have c1:=KZz k (hd (by decide)) a.Data b.Data ha.Data.2
 have c2:=Jnz k (hd (by decide)) a.Attrs b.Attrs ha.Attrs.2
 try simp only[go_sem]at c1
 try simp only[go_sem]at c2
 unfold eqE
 rcases six (a.Path.toList==b.Path.toList) (a.Kind==b.Kind) (a.First.toList==b.First.toList) (eqB a.Data b.Data) (eqAs a.Attrs b.Attrs)with h|⟨h,h2⟩|⟨h,h2,h3⟩|⟨h,h2,h3,h4⟩|⟨h,h2,h3,h4,h5⟩|⟨h,h2,h3,h4,h5⟩
 all_goals
  simp only[go_sem,Nat.reduceLT,Nat.reduceAdd,Nat.reduceSub,Nat.reduceEqDiff,Nat.reduceLeDiff,Int.reduceEq,Int.reduceBEq,Int.reduceBNe,Int.reduceNeg,UInt8.reduceToNat,Nat.reduceBEq,h]
  try simp only[go_sem,Nat.reduceLT,Nat.reduceAdd,Nat.reduceSub,Nat.reduceEqDiff,Nat.reduceLeDiff,Int.reduceEq,Int.reduceBEq,Int.reduceBNe,Int.reduceNeg,UInt8.reduceToNat,Nat.reduceBEq,h2]
  try simp only[go_sem,Nat.reduceLT,Nat.reduceAdd,Nat.reduceSub,Nat.reduceEqDiff,Nat.reduceLeDiff,Int.reduceEq,Int.reduceBEq,Int.reduceBNe,Int.reduceNeg,UInt8.reduceToNat,Nat.reduceBEq,h3,c1]
  try simp only[go_sem,Nat.reduceLT,Nat.reduceAdd,Nat.reduceSub,Nat.reduceEqDiff,Nat.reduceLeDiff,Int.reduceEq,Int.reduceBEq,Int.reduceBNe,Int.reduceNeg,UInt8.reduceToNat,Nat.reduceBEq,h4,c2]
  try simp only[go_sem,Nat.reduceLT,Nat.reduceAdd,Nat.reduceSub,Nat.reduceEqDiff,Nat.reduceLeDiff,Int.reduceEq,Int.reduceBEq,Int.reduceBNe,Int.reduceNeg,UInt8.reduceToNat,Nat.reduceBEq,h5]
  try simp only[h,h2,h3,h4,h5,Bool.and_true,Bool.and_false,Bool.false_and,Bool.true_and]
  try rfl
set_option maxHeartbeats 4000000 in
theorem Hgz (hn:Big+2≤n) (a b:TEntry) (ha:a.ok):pcall env n 48 [.c .agg (a.pv.map ASz),.c .agg (b.pv.map ASz)] []=some ⟨.c .one [.sh false (.b (eqE a b))],[]⟩:=by
 refine walk (fn:=Tryz.f48) (d:=1) hn rfl rfl rfl (Nat.le_of_ble_eq_true rfl) fun k hd=> ?_
 unfold Tryz.f48
 have c1:=Laz k (hd (by decide)) a.Data b.Data ha.Data.2
 have c2:=Lbz k (hd (by decide)) a.Attrs b.Attrs ha.Attrs.2
 try simp only[go_sem]at c1
 try simp only[go_sem]at c2
 unfold eqE
 rcases six (a.Path.toList==b.Path.toList) (a.First.toList==b.First.toList) (a.Kind==b.Kind) (eqB a.Data b.Data) (eqAs a.Attrs b.Attrs)with h|⟨h,h2⟩|⟨h,h2,h3⟩|⟨h,h2,h3,h4⟩|⟨h,h2,h3,h4,h5⟩|⟨h,h2,h3,h4,h5⟩
 all_goals
  simp only[go_sem,Nat.reduceLT,Nat.reduceAdd,Nat.reduceSub,Nat.reduceEqDiff,Nat.reduceLeDiff,Int.reduceEq,Int.reduceBEq,Int.reduceBNe,Int.reduceNeg,UInt8.reduceToNat,Nat.reduceBEq,h]
  try simp only[go_sem,Nat.reduceLT,Nat.reduceAdd,Nat.reduceSub,Nat.reduceEqDiff,Nat.reduceLeDiff,Int.reduceEq,Int.reduceBEq,Int.reduceBNe,Int.reduceNeg,UInt8.reduceToNat,Nat.reduceBEq,h2]
  try simp only[go_sem,Nat.reduceLT,Nat.reduceAdd,Nat.reduceSub,Nat.reduceEqDiff,Nat.reduceLeDiff,Int.reduceEq,Int.reduceBEq,Int.reduceBNe,Int.reduceNeg,UInt8.reduceToNat,Nat.reduceBEq,h3,c1]
  try simp only[go_sem,Nat.reduceLT,Nat.reduceAdd,Nat.reduceSub,Nat.reduceEqDiff,Nat.reduceLeDiff,Int.reduceEq,Int.reduceBEq,Int.reduceBNe,Int.reduceNeg,UInt8.reduceToNat,Nat.reduceBEq,h4,c2]
  try simp only[go_sem,Nat.reduceLT,Nat.reduceAdd,Nat.reduceSub,Nat.reduceEqDiff,Nat.reduceLeDiff,Int.reduceEq,Int.reduceBEq,Int.reduceBNe,Int.reduceNeg,UInt8.reduceToNat,Nat.reduceBEq,h5]
  try simp only[h,h2,h3,h4,h5,Bool.and_true,Bool.and_false,Bool.false_and,Bool.true_and]
  try rfl
end
end Go.Proofs.YtblelojdboefjaaGreatDoor.R
