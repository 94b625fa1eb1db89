/- Paths: the reference's way to split them. -/
import Derived.Test.YtblelojdboefjaaGreatDoorQ7
import Derived.Test.YtblelojdboefjaaGreatDoorQ3
set_option linter.all false
set_option maxRecDepth 100000
namespace Go.Proofs.YtblelojdboefjaaGreatDoor.R
open Go
attribute [go_sem] or_false false_or or_true true_or
theorem ISz:∀{a:List UInt8},(∀c∈a,c≠47)→AVz a=[a]
 |[],_=>rfl
 |c::a,h=>by
  have hc:c≠47:=h c (by simp)
  have ih:=ISz (a:=a) fun d hd=>h d (by simp[hd])
  simp only[AVz,if_neg hc,ih]
theorem Kvz:∀{a b:List UInt8},(∀c∈a,c≠47)→AVz (a++47::b)=a::AVz b
 |[],b,_=>by simp[AVz]
 |c::a,b,h=>by
  have hc:c≠47:=h c (by simp)
  have ih:=Kvz (a:=a) (b:=b) fun d hd=>h d (by simp[hd])
  simp only[List.cons_append,AVz,if_neg hc,ih]
theorem P4z (l:List UInt8):AVz l≠[]:=fun h=>by have:=Dwz l;rw[h]at this;simp at this
theorem GJz {l:List UInt8} (h:l≠[]):Bbz (47::l)=if(decide ((AVz l).length≤30)&&(AVz l).all BBz)=true then some (AVz l)else none:=by
 unfold Bbz
 rw[if_neg (by simpa using h)]
 have e:AVz (47::l)=[]::AVz l:=by simp[AVz]
 rw[e]
 cases hs:AVz l with
 |nil=>exact absurd hs (P4z l)
 |cons p ps=>rfl
theorem IZz {l:List UInt8} (h:∀l',l≠47::l'):Bbz l=none:=by
 unfold Bbz
 rw[if_neg (h [])]
 cases l with
 |nil=>rfl
 |cons c l=>
  have hc:c≠47:=fun e=>h l (by rw[e])
  simp only[AVz,if_neg hc]
  cases hs:AVz l with
  |nil=>rfl
  |cons p ps=>rfl
def EVz:List UInt8→List (List UInt8)
 |47::l=>AVz l
 |l=>AVz l
theorem QCz {l:List UInt8} {dn ps:List (List UInt8)} {p:List UInt8} (h47:l≠[47]) (h:dn++p::ps=EVz l) (hb:BBz p=false∨dn.length=30):Bbz l=none:=by
 by_cases hs:∃l',l=47::l'
 ·obtain⟨l',rfl⟩:=hs
  have hl:l'≠[]:=fun e=>h47 (by rw[e])
  rw[GJz hl,if_neg]
  have e:AVz l'=dn++p::ps:=h.symm
  rw[e]
  rcases hb with hb|hb
  ·simp[hb]
  ·have:¬((dn++p::ps).length≤30):=by rw[List.length_append,List.length_cons];omega
   simp only[decide_eq_false this,Bool.false_and];simp
 ·exact IZz fun l' e=>hs ⟨l',e⟩
def DMz:Option (List (List UInt8))→List CV
 |none=>[.ow false 1 [],.sh false (.b false)]
 |some ps=>[.ow false 1 (ps.map ppv),.sh false (.b true)]
theorem M1z {l:List UInt8} {f j:Nat} {c:UInt8} (hf:f≤j) (h:l[j]? =some c):(l.take (j+1)).drop f=(l.take j).drop f++[c]:=by
 obtain⟨hj,rfl⟩:=List.getElem?_eq_some_iff.1 h
 rw[List.take_succ_eq_append_getElem hj,List.drop_append_of_le_length (by simp;omega)]
theorem Sfz {l:List UInt8} {f j:Nat} (hf:f≤j) (hj:j≤l.length):l.drop f=(l.take j).drop f++l.drop j:=by
 have e:l=l.take j++l.drop j:=(List.take_append_drop j l).symm
 rw[show l.drop f=(l.take j++l.drop j).drop f from by rw[←e],List.drop_append_of_le_length (by simp;omega)]
theorem Ndz {l:List UInt8} (h:l[0]? =some 47):EVz l=AVz (l.drop 1):=by
 cases l with
 |nil=>simp at h
 |cons c l=>simp at h;subst h;rfl
theorem MBz {l:List UInt8} {c:UInt8} (h:l[0]? =some c) (hc:c≠47):EVz l=AVz l:=by
 cases l with
 |nil=>rfl
 |cons d l=>
  simp at h;subst h
  unfold EVz
  split
  ·rename_i h;injection h with h;exact absurd h hc
  ·rfl
theorem Odz {c:UInt8}:c≠47→((c.toNat:Int) !=47)=true:=fun h=>by
 have:c.toNat≠47:=fun e=>h (UInt8.toNat.inj (by simpa using e))
 simp;omega
structure SpS (l:List UInt8) (j f:Nat) (dn:List (List UInt8)):Prop where
 le:j≤l.length+1
 zero:j=0→f=0∧dn=[]
 mid:0<j→j≤l.length→f≤j∧(∀c∈(l.take j).drop f,c≠47)∧dn++AVz (l.drop f)=EVz l
 fin:j=l.length+1→(l=[]∧dn=[])∨(l≠[]∧dn=EVz l)
 good:dn.all BBz=true∧dn.length≤30∧∀p∈dn,p.length≤l.length
section
variable {l:List UInt8} {j f:Nat} {dn:List (List UInt8)} {c:UInt8}
theorem SpS.part (h:SpS l j f dn) (h0:0<j) (hj:j≤l.length) (he:j=l.length∨l[j]? =some 47):∃rest,dn++(l.take j).drop f::rest=EVz l∧(j=l.length→rest=[])∧(l[j]? =some 47→rest=AVz (l.drop (j+1))):=by
 obtain⟨hf,hn,hp⟩:=h.mid h0 hj
 rw[Sfz hf hj]at hp
 rcases he with he|he
 ·have e:l.drop j=[]:=List.drop_of_length_le (by omega)
  rw[e,List.append_nil,ISz hn]at hp
  exact⟨[],hp,fun _=>rfl,fun hx=>by rw[he]at hx;simp at hx⟩
 ·obtain⟨hlt,hx⟩:=List.getElem?_eq_some_iff.1 he
  have e:l.drop j=47::l.drop (j+1):=by rw[List.drop_eq_getElem_cons hlt,hx]
  rw[e,Kvz hn]at hp
  exact⟨_,hp,fun h=>by omega,fun _=>rfl⟩
theorem SpS.char (h:SpS l j f dn) (hlt:j<l.length) (hx:l[j]? =some c) (hc:c≠47):SpS l (j+1) f dn:=by
 refine⟨by omega,fun e=>by omega,fun _ _=> ?_,fun e=>by omega,h.good⟩
 by_cases h0:j=0
 ·subst h0
  obtain⟨rfl,rfl⟩:=h.zero rfl
  refine⟨Nat.zero_le _,?_,by rw[List.drop_zero];exact(MBz hx hc).symm⟩
  rw[M1z (Nat.le_refl _) hx]
  simpa using hc
 ·obtain⟨hf,hn,hp⟩:=h.mid (by omega) (by omega)
  refine⟨by omega,?_,hp⟩
  rw[M1z hf hx]
  intro d hd
  rcases List.mem_append.1 hd with hd|hd
  ·exact hn d hd
  ·simp at hd;subst hd;exact hc
theorem SpS.first (h:SpS l j f dn) (h0:j=0) (hx:l[j]? =some 47):SpS l (j+1) (j+1) dn:=by
 subst h0
 obtain⟨_,rfl⟩:=h.zero rfl
 have hlt:=(List.getElem?_eq_some_iff.1 hx).1
 exact⟨by omega,fun e=>by omega,fun _ _=>⟨Nat.le_refl _,by simp,(Ndz hx).symm⟩,fun e=>by omega,h.good⟩
theorem SpS.empty (h:SpS l j f dn) (h0:j=0) (hl:l.length=0):SpS l (j+1) (j+1) dn:=by
 subst h0
 obtain⟨_,rfl⟩:=h.zero rfl
 exact⟨by omega,fun e=>by omega,fun _ h=>by omega,fun _=> .inl ⟨List.length_eq_zero_iff.1 hl,rfl⟩,h.good⟩
theorem SpS.next (h:SpS l j f dn) (h0:0<j) (hj:j≤l.length) (he:j=l.length∨l[j]? =some 47) (hb:BBz ((l.take j).drop f)=true) (h30:dn.length≠30):SpS l (j+1) (j+1) (dn++[(l.take j).drop f]):=by
 obtain⟨rest,hp,h1,h2⟩:=h.part h0 hj he
 obtain⟨g1,g2,g3⟩:=h.good
 refine⟨by omega,fun e=>by omega,fun _ hlt=>⟨Nat.le_refl _,by simp,?_⟩,fun e=> .inr ⟨fun hl=> ?_,?_⟩,?_,?_,fun p hp=> ?_⟩
 ·have:l[j]? =some 47:=by
   rcases he with he|he
   ·omega
   ·exact he
  rw[←hp,h2 this,List.append_assoc];rfl
 ·subst hl;simp at hj;omega
 ·rw[←hp,h1 (by omega)]
 ·rw[List.all_append,g1];simp[hb]
 ·simp only[List.length_append,List.length_cons,List.length_nil];omega
 ·rcases List.mem_append.1 hp with hp|hp
  ·exact g3 p hp
  ·simp at hp;subst hp;simp;omega
theorem SpS.bad (h:SpS l j f dn) (h47:l≠[47]) (h0:0<j) (hj:j≤l.length) (he:j=l.length∨l[j]? =some 47) (hb:BBz ((l.take j).drop f)=false∨dn.length=30):Bbz l=none:=by
 obtain⟨rest,hp,_,_⟩:=h.part h0 hj he
 exact QCz h47 hp hb
theorem SpS.done (h:SpS l j f dn) (h47:l≠[47]) (hj:j=l.length+1):Bbz l=if l[0]? =some 47 then some dn else none:=by
 obtain⟨g1,g2,g3⟩:=h.good
 split
 ·rename_i hx
  rcases h.fin hj with⟨rfl,_⟩|⟨_,hd⟩
  ·simp at hx
  ·cases l with
   |nil=>simp at hx
   |cons c l=>
    simp at hx;subst hx
    have hl:l≠[]:=fun e=>h47 (by rw[e])
    have e:AVz l=dn:=hd.symm
    rw[GJz hl,e,if_pos (by rw[g1,Bool.and_true];exact decide_eq_true g2)]
 ·rename_i hx
  exact IZz fun l' e=>hx (by rw[e];rfl)
end
theorem Lvz (n:Nat) (hn:Big+3≤n) (l:List UInt8) (hl:l.length≤Bd):pcall env n 212 [pvSV (.t ⟨⟨l⟩⟩)] []=some ⟨.c (.tup [(false,1),(false,1)]) (DMz (Bbz l)),[]⟩:=by
 obtain⟨m,rfl⟩:=AFz hn
 have hB:=AXz
 have hbd:Bd=1048576:=rfl
 have hc:=fun(p:List UInt8) (hp:p.length≤Bd)=>GKz m (deep hn (by decide)) ⟨⟨p⟩⟩ hp
 simp only[go_sem,B6z]at hc
 by_cases h47:l=[47]
 ·have hb:(l==[47])=true:=by simp[h47]
  rw[show Bbz l=some []from if_pos h47]
  refine ARz (ADz (fn:=Tryz.f212) rfl rfl rfl (Nat.le_of_ble_eq_true rfl) ?_)
  unfold Tryz.f212
  simp only[go_sem,Nat.reduceLT,Nat.reduceAdd,Nat.reduceSub,Nat.reduceEqDiff,Nat.reduceLeDiff,Int.reduceEq,Int.reduceBEq,Int.reduceBNe,Int.reduceNeg,UInt8.reduceToNat,hb,DMz]
 ·have hb:(l==[47])=false:=by simpa using h47
  refine ARz (ADz (fn:=Tryz.f212) rfl rfl rfl (Nat.le_of_ble_eq_true rfl) ?_)
  unfold Tryz.f212
  simp only[go_sem,Nat.reduceLT,Nat.reduceAdd,Nat.reduceSub,Nat.reduceEqDiff,Nat.reduceLeDiff,Int.reduceEq,Int.reduceBEq,Int.reduceBNe,Int.reduceNeg,UInt8.reduceToNat,hb]
  refine AGz (fun k σ=>∃(j f:Nat) (dn:List (List UInt8)),k=l.length+1 - j∧SpS l j f dn∧σ=slots 59 [(0,.c .one [.sh false (.t ⟨⟨l⟩⟩)]),(4,.c .one [.ow false 1 (dn.map ppv)]),(5,.c .one [.sh false (.i .i64 (f:Nat))]),(6,.c .one [.sh false (.i .i64 (j:Nat))])]) (l.length+1) (by omega) ?_ ?_
  ·simp only[go_sem,Nat.reduceLT,Nat.reduceAdd,Nat.reduceSub,Nat.reduceEqDiff,Nat.reduceLeDiff,Int.reduceEq,Int.reduceBEq,Int.reduceBNe,Int.reduceNeg,UInt8.reduceToNat]
   exact⟨0,0,[],rfl,⟨Nat.zero_le _,fun _=>⟨rfl,rfl⟩,fun h=>absurd h (Nat.lt_irrefl _),fun h=>absurd h (by omega),⟨rfl,Nat.zero_le _,by simp⟩⟩,rfl⟩
  ·rintro k σ ⟨j,f,dn,rfl,hi,rfl⟩
   have hjl:=hi.le
   obtain⟨hg1,hg2,hg3⟩:=hi.good
   by_cases hle:j≤l.length
   ·have h1:((j:Int)≤(l.length:Int)):=by omega
    have ws:IntKind.i64.wrap ((j:Int)+1)=((j+1:Nat):Int):=by rw[AYz (by omega) (by omega)];omega
    by_cases hlt:j<l.length
    ·have h2:((j:Int)<(l.length:Int)):=by omega
     have hx:l[j]? =some l[j]:=List.getElem?_eq_getElem hlt
     generalize l[j]=c at hx
     by_cases hc47:c=47
     ·subst hc47
      by_cases hj0:j=0
      ·have hgt:¬((j:Int)>0):=by omega
       simp only[go_sem,Nat.reduceLT,Nat.reduceAdd,Nat.reduceSub,Nat.reduceEqDiff,Nat.reduceLeDiff,Int.reduceEq,Int.reduceBEq,Int.reduceBNe,Int.reduceNeg,UInt8.reduceToNat,h1,h2,hx,ws,hgt]
       exact⟨_,by omega,j+1,j+1,dn,rfl,hi.first hj0 hx,rfl⟩
      ·skip
       have hgt:((j:Int)>0):=by omega
       have hcur:((l.take j).drop f).length≤Bd:=by simp;omega
       have hq:=hc _ hcur
       have hf:=(hi.mid (by omega) hle).1
       have w1:((0:Int)≤(j:Int)):=by omega
       by_cases hb1:BBz ((l.take j).drop f)=true
       ·by_cases hb2:dn.length=30
        ·have hb2':((dn.length:Int)==30)=true:=by simp[hb2]
         rw[hi.bad h47 (by omega) hle (.inr hx) (.inr hb2)]
         simp only[go_sem,Nat.reduceLT,Nat.reduceAdd,Nat.reduceSub,Nat.reduceEqDiff,Nat.reduceLeDiff,Int.reduceEq,Int.reduceBEq,Int.reduceBNe,Int.reduceNeg,UInt8.reduceToNat,h1,h2,hx,hgt,ws,hq,w1,hb1,hb2']
         repeat (first|(refine BPz (by omega) ?_;simp only[go_sem,Nat.reduceLT,Nat.reduceAdd,Nat.reduceSub,Nat.reduceEqDiff,Nat.reduceLeDiff,Int.reduceEq,Int.reduceBEq,Int.reduceBNe,Int.reduceNeg,UInt8.reduceToNat,h1,h2,hx,hgt,ws,hq,w1,hb1,hb2'])|(refine Evz (by omega) ?_;simp only[go_sem,Nat.reduceLT,Nat.reduceAdd,Nat.reduceSub,Nat.reduceEqDiff,Nat.reduceLeDiff,Int.reduceEq,Int.reduceBEq,Int.reduceBNe,Int.reduceNeg,UInt8.reduceToNat,h1,h2,hx,hgt,ws,hq,w1,hb1,hb2'])|(refine BPz (by unfold LIM;omega) ?_;simp only[go_sem,Nat.reduceLT,Nat.reduceAdd,Nat.reduceSub,Nat.reduceEqDiff,Nat.reduceLeDiff,Int.reduceEq,Int.reduceBEq,Int.reduceBNe,Int.reduceNeg,UInt8.reduceToNat,h1,h2,hx,hgt,ws,hq,w1,hb1,hb2']))
         simp only[DMz]
        ·have hb2':((dn.length:Int)==30)=false:=by simp;omega
         simp only[go_sem,Nat.reduceLT,Nat.reduceAdd,Nat.reduceSub,Nat.reduceEqDiff,Nat.reduceLeDiff,Int.reduceEq,Int.reduceBEq,Int.reduceBNe,Int.reduceNeg,UInt8.reduceToNat,h1,h2,hx,hgt,ws,hq,w1,hb1,hb2']
         repeat (first|(refine BPz (by omega) ?_;simp only[go_sem,Nat.reduceLT,Nat.reduceAdd,Nat.reduceSub,Nat.reduceEqDiff,Nat.reduceLeDiff,Int.reduceEq,Int.reduceBEq,Int.reduceBNe,Int.reduceNeg,UInt8.reduceToNat,h1,h2,hx,hgt,ws,hq,w1,hb1,hb2'])|(refine Evz (by omega) ?_;simp only[go_sem,Nat.reduceLT,Nat.reduceAdd,Nat.reduceSub,Nat.reduceEqDiff,Nat.reduceLeDiff,Int.reduceEq,Int.reduceBEq,Int.reduceBNe,Int.reduceNeg,UInt8.reduceToNat,h1,h2,hx,hgt,ws,hq,w1,hb1,hb2'])|(refine BPz (by unfold LIM;omega) ?_;simp only[go_sem,Nat.reduceLT,Nat.reduceAdd,Nat.reduceSub,Nat.reduceEqDiff,Nat.reduceLeDiff,Int.reduceEq,Int.reduceBEq,Int.reduceBNe,Int.reduceNeg,UInt8.reduceToNat,h1,h2,hx,hgt,ws,hq,w1,hb1,hb2']))
         exact⟨_,by omega,j+1,j+1,dn++[(l.take j).drop f],rfl,hi.next (by omega) hle (.inr hx) hb1 hb2,by rw[List.map_append];rfl⟩
       ·have hb1':BBz ((l.take j).drop f)=false:=by simpa using hb1
        rw[hi.bad h47 (by omega) hle (.inr hx) (.inl hb1')]
        simp only[go_sem,Nat.reduceLT,Nat.reduceAdd,Nat.reduceSub,Nat.reduceEqDiff,Nat.reduceLeDiff,Int.reduceEq,Int.reduceBEq,Int.reduceBNe,Int.reduceNeg,UInt8.reduceToNat,h1,h2,hx,hgt,ws,hq,w1,hb1']
        repeat (first|(refine BPz (by omega) ?_;simp only[go_sem,Nat.reduceLT,Nat.reduceAdd,Nat.reduceSub,Nat.reduceEqDiff,Nat.reduceLeDiff,Int.reduceEq,Int.reduceBEq,Int.reduceBNe,Int.reduceNeg,UInt8.reduceToNat,h1,h2,hx,hgt,ws,hq,w1,hb1'])|(refine Evz (by omega) ?_;simp only[go_sem,Nat.reduceLT,Nat.reduceAdd,Nat.reduceSub,Nat.reduceEqDiff,Nat.reduceLeDiff,Int.reduceEq,Int.reduceBEq,Int.reduceBNe,Int.reduceNeg,UInt8.reduceToNat,h1,h2,hx,hgt,ws,hq,w1,hb1'])|(refine BPz (by unfold LIM;omega) ?_;simp only[go_sem,Nat.reduceLT,Nat.reduceAdd,Nat.reduceSub,Nat.reduceEqDiff,Nat.reduceLeDiff,Int.reduceEq,Int.reduceBEq,Int.reduceBNe,Int.reduceNeg,UInt8.reduceToNat,h1,h2,hx,hgt,ws,hq,w1,hb1']))
        simp only[DMz]
     ·have hne:=Odz hc47
      simp only[go_sem,Nat.reduceLT,Nat.reduceAdd,Nat.reduceSub,Nat.reduceEqDiff,Nat.reduceLeDiff,Int.reduceEq,Int.reduceBEq,Int.reduceBNe,Int.reduceNeg,UInt8.reduceToNat,h1,h2,hx,hne,ws]
      exact⟨_,by omega,j+1,f,dn,rfl,hi.char hlt hx hc47,rfl⟩
    ·have h2:¬((j:Int)<(l.length:Int)):=by omega
     by_cases hj0:j=0
     ·have hgt:¬((j:Int)>0):=by omega
      simp only[go_sem,Nat.reduceLT,Nat.reduceAdd,Nat.reduceSub,Nat.reduceEqDiff,Nat.reduceLeDiff,Int.reduceEq,Int.reduceBEq,Int.reduceBNe,Int.reduceNeg,UInt8.reduceToNat,h1,h2,ws,hgt]
      exact⟨_,by omega,j+1,j+1,dn,rfl,hi.empty hj0 (by omega),rfl⟩
     ·have hxx:True:=trivial
      have hgt:((j:Int)>0):=by omega
      have hcur:((l.take j).drop f).length≤Bd:=by simp;omega
      have hq:=hc _ hcur
      have hf:=(hi.mid (by omega) hle).1
      have w1:((0:Int)≤(j:Int)):=by omega
      by_cases hb1:BBz ((l.take j).drop f)=true
      ·by_cases hb2:dn.length=30
       ·have hb2':((dn.length:Int)==30)=true:=by simp[hb2]
        rw[hi.bad h47 (by omega) hle (.inl (by omega)) (.inr hb2)]
        simp only[go_sem,Nat.reduceLT,Nat.reduceAdd,Nat.reduceSub,Nat.reduceEqDiff,Nat.reduceLeDiff,Int.reduceEq,Int.reduceBEq,Int.reduceBNe,Int.reduceNeg,UInt8.reduceToNat,h1,h2,hxx,hgt,ws,hq,w1,hb1,hb2']
        repeat (first|(refine BPz (by omega) ?_;simp only[go_sem,Nat.reduceLT,Nat.reduceAdd,Nat.reduceSub,Nat.reduceEqDiff,Nat.reduceLeDiff,Int.reduceEq,Int.reduceBEq,Int.reduceBNe,Int.reduceNeg,UInt8.reduceToNat,h1,h2,hxx,hgt,ws,hq,w1,hb1,hb2'])|(refine Evz (by omega) ?_;simp only[go_sem,Nat.reduceLT,Nat.reduceAdd,Nat.reduceSub,Nat.reduceEqDiff,Nat.reduceLeDiff,Int.reduceEq,Int.reduceBEq,Int.reduceBNe,Int.reduceNeg,UInt8.reduceToNat,h1,h2,hxx,hgt,ws,hq,w1,hb1,hb2'])|(refine BPz (by unfold LIM;omega) ?_;simp only[go_sem,Nat.reduceLT,Nat.reduceAdd,Nat.reduceSub,Nat.reduceEqDiff,Nat.reduceLeDiff,Int.reduceEq,Int.reduceBEq,Int.reduceBNe,Int.reduceNeg,UInt8.reduceToNat,h1,h2,hxx,hgt,ws,hq,w1,hb1,hb2']))
        simp only[DMz]
       ·have hb2':((dn.length:Int)==30)=false:=by simp;omega
        simp only[go_sem,Nat.reduceLT,Nat.reduceAdd,Nat.reduceSub,Nat.reduceEqDiff,Nat.reduceLeDiff,Int.reduceEq,Int.reduceBEq,Int.reduceBNe,Int.reduceNeg,UInt8.reduceToNat,h1,h2,hxx,hgt,ws,hq,w1,hb1,hb2']
        repeat (first|(refine BPz (by omega) ?_;simp only[go_sem,Nat.reduceLT,Nat.reduceAdd,Nat.reduceSub,Nat.reduceEqDiff,Nat.reduceLeDiff,Int.reduceEq,Int.reduceBEq,Int.reduceBNe,Int.reduceNeg,UInt8.reduceToNat,h1,h2,hxx,hgt,ws,hq,w1,hb1,hb2'])|(refine Evz (by omega) ?_;simp only[go_sem,Nat.reduceLT,Nat.reduceAdd,Nat.reduceSub,Nat.reduceEqDiff,Nat.reduceLeDiff,Int.reduceEq,Int.reduceBEq,Int.reduceBNe,Int.reduceNeg,UInt8.reduceToNat,h1,h2,hxx,hgt,ws,hq,w1,hb1,hb2'])|(refine BPz (by unfold LIM;omega) ?_;simp only[go_sem,Nat.reduceLT,Nat.reduceAdd,Nat.reduceSub,Nat.reduceEqDiff,Nat.reduceLeDiff,Int.reduceEq,Int.reduceBEq,Int.reduceBNe,Int.reduceNeg,UInt8.reduceToNat,h1,h2,hxx,hgt,ws,hq,w1,hb1,hb2']))
        exact⟨_,by omega,j+1,j+1,dn++[(l.take j).drop f],rfl,hi.next (by omega) hle (.inl (by omega)) hb1 hb2,by rw[List.map_append];rfl⟩
      ·have hb1':BBz ((l.take j).drop f)=false:=by simpa using hb1
       rw[hi.bad h47 (by omega) hle (.inl (by omega)) (.inl hb1')]
       simp only[go_sem,Nat.reduceLT,Nat.reduceAdd,Nat.reduceSub,Nat.reduceEqDiff,Nat.reduceLeDiff,Int.reduceEq,Int.reduceBEq,Int.reduceBNe,Int.reduceNeg,UInt8.reduceToNat,h1,h2,hxx,hgt,ws,hq,w1,hb1']
       repeat (first|(refine BPz (by omega) ?_;simp only[go_sem,Nat.reduceLT,Nat.reduceAdd,Nat.reduceSub,Nat.reduceEqDiff,Nat.reduceLeDiff,Int.reduceEq,Int.reduceBEq,Int.reduceBNe,Int.reduceNeg,UInt8.reduceToNat,h1,h2,hxx,hgt,ws,hq,w1,hb1'])|(refine Evz (by omega) ?_;simp only[go_sem,Nat.reduceLT,Nat.reduceAdd,Nat.reduceSub,Nat.reduceEqDiff,Nat.reduceLeDiff,Int.reduceEq,Int.reduceBEq,Int.reduceBNe,Int.reduceNeg,UInt8.reduceToNat,h1,h2,hxx,hgt,ws,hq,w1,hb1'])|(refine BPz (by unfold LIM;omega) ?_;simp only[go_sem,Nat.reduceLT,Nat.reduceAdd,Nat.reduceSub,Nat.reduceEqDiff,Nat.reduceLeDiff,Int.reduceEq,Int.reduceBEq,Int.reduceBNe,Int.reduceNeg,UInt8.reduceToNat,h1,h2,hxx,hgt,ws,hq,w1,hb1']))
       simp only[DMz]
   ·have h1:¬((j:Int)≤(l.length:Int)):=by omega
    rw[hi.done h47 (by omega)]
    cases hx:l[0]? with
    |none=>
     have e:l=[]:=by cases l with
      |nil=>rfl
      |cons _ _=>simp at hx
     subst e
     have h1':¬((j:Int)≤0):=by simpa using h1
     simp only[go_sem,Nat.reduceLT,Nat.reduceAdd,Nat.reduceSub,Nat.reduceEqDiff,Nat.reduceLeDiff,Int.reduceEq,Int.reduceBEq,Int.reduceBNe,Int.reduceNeg,UInt8.reduceToNat,h1',DMz]
    |some c=>
     have hl0:((l.length:Int)==0)=false:=by
      have:=(List.getElem?_eq_some_iff.1 hx).1
      rw[beq_eq_false_iff_ne];omega
     by_cases hc47:c=47
     ·subst hc47
      simp only[go_sem,Nat.reduceLT,Nat.reduceAdd,Nat.reduceSub,Nat.reduceEqDiff,Nat.reduceLeDiff,Int.reduceEq,Int.reduceBEq,Int.reduceBNe,Int.reduceNeg,UInt8.reduceToNat,h1,hx,hl0,DMz,if_true]
     ·have hne:=Odz hc47
      rw[if_neg (by simpa using hc47)]
      simp only[go_sem,Nat.reduceLT,Nat.reduceAdd,Nat.reduceSub,Nat.reduceEqDiff,Nat.reduceLeDiff,Int.reduceEq,Int.reduceBEq,Int.reduceBNe,Int.reduceNeg,UInt8.reduceToNat,h1,hx,hl0,hne,DMz]
end Go.Proofs.YtblelojdboefjaaGreatDoor.R
namespace Go.Proofs.YtblelojdboefjaaGreatDoor.R
open Go
def allB (n:Nat) (p:Nat→Bool):Bool:=(List.range n).all p
theorem C8z {n i:Nat} {p:Nat→Bool} (hi:i<n) (h:p i=false):allB n p=false:=by
 unfold allB;rw[List.all_eq_false];exact⟨i,List.mem_range.2 hi,by simp[h]⟩
theorem Ckz {n:Nat} {p:Nat→Bool} (h:∀i,i<n→p i=true):allB n p=true:=by
 unfold allB;rw[List.all_eq_true];exact fun i hi=>h i (List.mem_range.1 hi)
def CUz (x y:ByteArray):Bool:=Op.bytesLess x.toList y.toList
def inB (n a b:Int):Bool:=decide (n≥a)&&decide (n≤b)
def Ggz (prev:Option TAttr) (a:TAttr):Bool:=B6z a.Name&&inB a.Val.size 1 16&&(match prev with
 |some y=>CUz y.Name a.Name
 |none=>true)
def Biz (l:List TAttr) (i:Nat):Bool:=match l[i]? with
 |some a=>Ggz (if i=0 then none else l[i - 1]?) a
 |none=>true
def Crz (l:List TAttr):Bool:=allB l.length (Biz l)&&decide ((l.length:Int)≤4)
theorem NOz {l:List TAttr} {j:Nat} {a:TAttr} (h:l[j]? =some a) (h0:j=0):Biz l j=(B6z a.Name&&inB a.Val.size 1 16):=by
 simp only[Biz,h,Ggz,if_pos h0,Bool.and_true]
theorem NLz {l:List TAttr} {j:Nat} {a y:TAttr} (h:l[j]? =some a) (h0:j≠0) (hy:l[j - 1]? =some y):Biz l j=(B6z a.Name&&inB a.Val.size 1 16&&CUz y.Name a.Name):=by
 simp only[Biz,h,Ggz,if_neg h0,hy]
theorem NNz {l:List TAttr} {j:Nat} {a:TAttr} (h:l[j]? =some a) (hb:B6z a.Name=false):Biz l j=false:=by
 simp only[Biz,h,Ggz,hb,Bool.false_and]
theorem NMz {l:List TAttr} {j:Nat} {a:TAttr} (h:l[j]? =some a) (hb:inB a.Val.size 1 16=false):Biz l j=false:=by
 simp only[Biz,h,Ggz,hb,Bool.and_false,Bool.false_and]
set_option maxHeartbeats 1000000 in
theorem NJz (n:Nat) (hn:Big+3≤n) (l:List TAttr) (ho:∀a∈l,a.ok) (hl:l.length≤Bd):pcall env n 151 [.c .one [.sh true (.s 2 (l.map TAttr.pv))]] []=some ⟨pvSV (.b (Crz l)),[]⟩:=by
 obtain⟨m,rfl⟩:=AFz hn
 have hB:=AXz
 have hbd:Bd=1048576:=rfl
 have hin:=fun a b c=>Gbz m (deep hn (by decide)) a b c
 simp only[go_sem]at hin
 refine ARz (ADz (fn:=Tryz.f151) rfl rfl rfl (Nat.le_of_ble_eq_true rfl) ?_)
 unfold Tryz.f151
 simp only[go_sem,Nat.reduceLT,Nat.reduceAdd,Nat.reduceSub,Nat.reduceEqDiff,Nat.reduceLeDiff,Int.reduceEq,Int.reduceBEq,Int.reduceBNe,Int.reduceNeg,UInt8.reduceToNat]
 refine AGz (fun k σ=>∃j:Nat,j≤l.length∧k=l.length - j∧(∀i,i<j→Biz l i=true)∧σ=slots 48 [(0,.c .one [.sh true (.s 2 (l.map TAttr.pv))]),(3,.c .one [.sh false (.i .i64 (j:Nat))])]) l.length (by omega) ?_ ?_
 ·simp only[go_sem,Nat.reduceLT,Nat.reduceAdd,Nat.reduceSub,Nat.reduceEqDiff,Nat.reduceLeDiff,Int.reduceEq,Int.reduceBEq,Int.reduceBNe,Int.reduceNeg,UInt8.reduceToNat]
  exact⟨0,Nat.zero_le _,rfl,fun i hi=>absurd hi (Nat.not_lt_zero _),rfl⟩
 ·rintro k σ ⟨j,hj,rfl,hp,rfl⟩
  by_cases hlt:j<l.length
  ·have h1:((j:Int)<(l.length:Int)):=by omega
   have hx:l[j]? =some l[j]:=List.getElem?_eq_getElem hlt
   have hok:=ho _ (List.getElem_mem hlt)
   generalize l[j]=a at hx hok
   have hc:=GKz m (deep hn (by decide)) a.Name hok.Name
   simp only[go_sem]at hc
   have step:Biz l j=true→∀i,i<j+1→Biz l i=true:=fun e i hi=>by
    rcases Nat.lt_succ_iff_lt_or_eq.1 hi with h|h
    ·exact hp i h
    ·subst h;exact e
   have bad:Biz l j=false→Crz l=false:=fun e=>by unfold Crz;rw[C8z hlt e,Bool.false_and]
   cases b1:B6z a.Name with
   |false=>
    rw[bad (NNz hx b1)]
    simp only[go_sem,Nat.reduceLT,Nat.reduceAdd,Nat.reduceSub,Nat.reduceEqDiff,Nat.reduceLeDiff,Int.reduceEq,Int.reduceBEq,Int.reduceBNe,Int.reduceNeg,UInt8.reduceToNat,h1,hx,hc,b1]<;>exact chk1 (by kernel_rfl)
   |true=>
    cases b2:inB a.Val.size 1 16 with
    |false=>
     rw[bad (NMz hx b2)]
     unfold inB at b2
     simp only[go_sem,Nat.reduceLT,Nat.reduceAdd,Nat.reduceSub,Nat.reduceEqDiff,Nat.reduceLeDiff,Int.reduceEq,Int.reduceBEq,Int.reduceBNe,Int.reduceNeg,UInt8.reduceToNat,h1,hx,hc,b1,hin,b2]<;>exact chk1 (by kernel_rfl)
    |true=>
     by_cases h0:j=0
     ·have e:=NOz hx h0
      rw[b1,b2]at e
      unfold inB at b2
      have hgt:¬((j:Int)>0):=by omega
      simp only[go_sem,Nat.reduceLT,Nat.reduceAdd,Nat.reduceSub,Nat.reduceEqDiff,Nat.reduceLeDiff,Int.reduceEq,Int.reduceBEq,Int.reduceBNe,Int.reduceNeg,UInt8.reduceToNat,h1,hx,hc,b1,hin,b2,hgt,ACz hlt (by omega)]
      exact chk (by kernel_rfl) ⟨_,by omega,j+1,hlt,rfl,step e,rfl⟩
     ·have hgt:((j:Int)>0):=by omega
      have hy:l[j - 1]? =some l[j - 1]:=List.getElem?_eq_getElem (by omega)
      generalize l[j - 1]=y at hy
      have e:=NLz hx h0 hy
      rw[b1,b2]at e
      unfold inB at b2
      obtain⟨j',hj'⟩:∃j',j'=j - 1:=⟨_,rfl⟩
      rw[←hj']at hy
      have ws:IntKind.i64.wrap ((j:Int) - 1)=(j':Int):=by rw[AYz (by omega) (by omega)];omega
      cases b3:CUz y.Name a.Name with
      |false=>
       rw[bad (by rw[e,b3];rfl)]
       unfold CUz at b3
       simp only[go_sem,Nat.reduceLT,Nat.reduceAdd,Nat.reduceSub,Nat.reduceEqDiff,Nat.reduceLeDiff,Int.reduceEq,Int.reduceBEq,Int.reduceBNe,Int.reduceNeg,UInt8.reduceToNat,h1,hx,hc,b1,hin,b2,hgt,ws,hy,b3,ACz hlt (by omega)]<;>exact chk1 (by kernel_rfl)
      |true=>
       have e':Biz l j=true:=by rw[e,b3];rfl
       unfold CUz at b3
       simp only[go_sem,Nat.reduceLT,Nat.reduceAdd,Nat.reduceSub,Nat.reduceEqDiff,Nat.reduceLeDiff,Int.reduceEq,Int.reduceBEq,Int.reduceBNe,Int.reduceNeg,UInt8.reduceToNat,h1,hx,hc,b1,hin,b2,hgt,ws,hy,b3,ACz hlt (by omega)]
       exact chk (by kernel_rfl) ⟨_,by omega,j+1,hlt,rfl,step e',rfl⟩
  ·have h1:¬((j:Int)<(l.length:Int)):=by omega
   obtain rfl:j=l.length:=by omega
   have e:Crz l=decide ((l.length:Int)≤4):=by unfold Crz;rw[Ckz hp,Bool.true_and]
   rw[e]
   simp only[go_sem,Nat.reduceLT,Nat.reduceAdd,Nat.reduceSub,Nat.reduceEqDiff,Nat.reduceLeDiff,Int.reduceEq,Int.reduceBEq,Int.reduceBNe,Int.reduceNeg,UInt8.reduceToNat,h1]
set_option maxHeartbeats 1000000 in
theorem NKz (n:Nat) (hn:Big+3≤n) (l:List TAttr) (ho:∀a∈l,a.ok) (hl:l.length≤Bd):pcall env n 166 [.c .one [.sh true (.s 2 (l.map TAttr.pv))]] []=some ⟨pvSV (.b (Crz l)),[]⟩:=by
 obtain⟨m,rfl⟩:=AFz hn
 have hB:=AXz
 have hbd:Bd=1048576:=rfl
 have hin:=fun a b c=>Kcz m (deep hn (by decide)) a b c
 simp only[go_sem]at hin
 refine ARz (ADz (fn:=Tryz.f166) rfl rfl rfl (Nat.le_of_ble_eq_true rfl) ?_)
 unfold Tryz.f166
 simp only[go_sem,Nat.reduceLT,Nat.reduceAdd,Nat.reduceSub,Nat.reduceEqDiff,Nat.reduceLeDiff,Int.reduceEq,Int.reduceBEq,Int.reduceBNe,Int.reduceNeg,UInt8.reduceToNat]
 refine AGz (fun k σ=>∃j:Nat,j≤l.length∧k=l.length - j∧(∀i,i<j→Biz l i=true)∧σ=slots 42 [(0,.c .one [.sh true (.s 2 (l.map TAttr.pv))]),(5,.c .one [.sh true (.s 2 (l.map TAttr.pv))]),(6,.c .one [.sh false (.i .i64 (l.length:Nat))]),(7,.c .one [.sh false (.i .i64 (j:Nat))])]) l.length (by omega) ?_ ?_
 ·simp only[go_sem,Nat.reduceLT,Nat.reduceAdd,Nat.reduceSub,Nat.reduceEqDiff,Nat.reduceLeDiff,Int.reduceEq,Int.reduceBEq,Int.reduceBNe,Int.reduceNeg,UInt8.reduceToNat]
  exact⟨0,Nat.zero_le _,rfl,fun i hi=>absurd hi (Nat.not_lt_zero _),rfl⟩
 ·rintro k σ ⟨j,hj,rfl,hp,rfl⟩
  by_cases hlt:j<l.length
  ·have h1:((j:Int)<(l.length:Int)):=by omega
   have hx:l[j]? =some l[j]:=List.getElem?_eq_getElem hlt
   have hok:=ho _ (List.getElem_mem hlt)
   generalize l[j]=a at hx hok
   have hc:=GLz m (deep hn (by decide)) a.Name hok.Name
   simp only[go_sem]at hc
   have step:Biz l j=true→∀i,i<j+1→Biz l i=true:=fun e i hi=>by
    rcases Nat.lt_succ_iff_lt_or_eq.1 hi with h|h
    ·exact hp i h
    ·subst h;exact e
   have bad:Biz l j=false→Crz l=false:=fun e=>by unfold Crz;rw[C8z hlt e,Bool.false_and]
   cases b1:B6z a.Name with
   |false=>
    rw[bad (NNz hx b1)]
    simp only[go_sem,Nat.reduceLT,Nat.reduceAdd,Nat.reduceSub,Nat.reduceEqDiff,Nat.reduceLeDiff,Int.reduceEq,Int.reduceBEq,Int.reduceBNe,Int.reduceNeg,UInt8.reduceToNat,h1,hx,hc,b1]<;>exact chk1 (by kernel_rfl)
   |true=>
    cases b2:inB a.Val.size 1 16 with
    |false=>
     rw[bad (NMz hx b2)]
     unfold inB at b2
     simp only[go_sem,Nat.reduceLT,Nat.reduceAdd,Nat.reduceSub,Nat.reduceEqDiff,Nat.reduceLeDiff,Int.reduceEq,Int.reduceBEq,Int.reduceBNe,Int.reduceNeg,UInt8.reduceToNat,h1,hx,hc,b1,hin,b2]<;>exact chk1 (by kernel_rfl)
    |true=>
     by_cases h0:j=0
     ·have e:=NOz hx h0
      rw[b1,b2]at e
      unfold inB at b2
      have hgt:¬((j:Int)>0):=by omega
      simp only[go_sem,Nat.reduceLT,Nat.reduceAdd,Nat.reduceSub,Nat.reduceEqDiff,Nat.reduceLeDiff,Int.reduceEq,Int.reduceBEq,Int.reduceBNe,Int.reduceNeg,UInt8.reduceToNat,h1,hx,hc,b1,hin,b2,hgt,ACz hlt (by omega)]
      exact chk (by kernel_rfl) ⟨_,by omega,j+1,hlt,rfl,step e,rfl⟩
     ·have hgt:((j:Int)>0):=by omega
      have hy:l[j - 1]? =some l[j - 1]:=List.getElem?_eq_getElem (by omega)
      generalize l[j - 1]=y at hy
      have e:=NLz hx h0 hy
      rw[b1,b2]at e
      unfold inB at b2
      obtain⟨j',hj'⟩:∃j',j'=j - 1:=⟨_,rfl⟩
      rw[←hj']at hy
      have ws:IntKind.i64.wrap ((j:Int) - 1)=(j':Int):=by rw[AYz (by omega) (by omega)];omega
      cases b3:CUz y.Name a.Name with
      |false=>
       rw[bad (by rw[e,b3];rfl)]
       unfold CUz at b3
       simp only[go_sem,Nat.reduceLT,Nat.reduceAdd,Nat.reduceSub,Nat.reduceEqDiff,Nat.reduceLeDiff,Int.reduceEq,Int.reduceBEq,Int.reduceBNe,Int.reduceNeg,UInt8.reduceToNat,h1,hx,hc,b1,hin,b2,hgt,ws,hy,b3,ACz hlt (by omega)]<;>exact chk1 (by kernel_rfl)
      |true=>
       have e':Biz l j=true:=by rw[e,b3];rfl
       unfold CUz at b3
       simp only[go_sem,Nat.reduceLT,Nat.reduceAdd,Nat.reduceSub,Nat.reduceEqDiff,Nat.reduceLeDiff,Int.reduceEq,Int.reduceBEq,Int.reduceBNe,Int.reduceNeg,UInt8.reduceToNat,h1,hx,hc,b1,hin,b2,hgt,ws,hy,b3,ACz hlt (by omega)]
       exact chk (by kernel_rfl) ⟨_,by omega,j+1,hlt,rfl,step e',rfl⟩
  ·have h1:¬((j:Int)<(l.length:Int)):=by omega
   obtain rfl:j=l.length:=by omega
   have e:Crz l=decide ((l.length:Int)≤4):=by unfold Crz;rw[Ckz hp,Bool.true_and]
   rw[e]
   simp only[go_sem,Nat.reduceLT,Nat.reduceAdd,Nat.reduceSub,Nat.reduceEqDiff,Nat.reduceLeDiff,Int.reduceEq,Int.reduceBEq,Int.reduceBNe,Int.reduceNeg,UInt8.reduceToNat,h1]
def Esz (prev:Option TEnt) (a:TEnt):Bool:=B6z a.Name&&inB a.Ino 2 1000&&(match prev with
 |some y=>CUz y.Name a.Name
 |none=>true)
def Bqz (l:List TEnt) (i:Nat):Bool:=match l[i]? with
 |some a=>Esz (if i=0 then none else l[i - 1]?) a
 |none=>true
def B8z (l:List TEnt):Bool:=allB l.length (Bqz l)&&decide ((l.length:Int)≤10)
theorem OXz {l:List TEnt} {j:Nat} {a:TEnt} (h:l[j]? =some a) (h0:j=0):Bqz l j=(B6z a.Name&&inB a.Ino 2 1000):=by
 simp only[Bqz,h,Esz,if_pos h0,Bool.and_true]
theorem OUz {l:List TEnt} {j:Nat} {a y:TEnt} (h:l[j]? =some a) (h0:j≠0) (hy:l[j - 1]? =some y):Bqz l j=(B6z a.Name&&inB a.Ino 2 1000&&CUz y.Name a.Name):=by
 simp only[Bqz,h,Esz,if_neg h0,hy]
theorem OWz {l:List TEnt} {j:Nat} {a:TEnt} (h:l[j]? =some a) (hb:B6z a.Name=false):Bqz l j=false:=by
 simp only[Bqz,h,Esz,hb,Bool.false_and]
theorem OVz {l:List TEnt} {j:Nat} {a:TEnt} (h:l[j]? =some a) (hb:inB a.Ino 2 1000=false):Bqz l j=false:=by
 simp only[Bqz,h,Esz,hb,Bool.and_false,Bool.false_and]
set_option maxHeartbeats 1000000 in
theorem Ntz (n:Nat) (hn:Big+3≤n) (l:List TEnt) (ho:∀a∈l,a.ok) (hl:l.length≤Bd):pcall env n 239 [.c .one [.sh true (.s 2 (l.map TEnt.pv))]] []=some ⟨pvSV (.b (B8z l)),[]⟩:=by
 obtain⟨m,rfl⟩:=AFz hn
 have hB:=AXz
 have hbd:Bd=1048576:=rfl
 have hin:=fun a b c=>Gbz m (deep hn (by decide)) a b c
 simp only[go_sem]at hin
 refine ARz (ADz (fn:=Tryz.f239) rfl rfl rfl (Nat.le_of_ble_eq_true rfl) ?_)
 unfold Tryz.f239
 simp only[go_sem,Nat.reduceLT,Nat.reduceAdd,Nat.reduceSub,Nat.reduceEqDiff,Nat.reduceLeDiff,Int.reduceEq,Int.reduceBEq,Int.reduceBNe,Int.reduceNeg,UInt8.reduceToNat]
 refine AGz (fun k σ=>∃j:Nat,j≤l.length∧k=l.length - j∧(∀i,i<j→Bqz l i=true)∧σ=slots 47 [(0,.c .one [.sh true (.s 2 (l.map TEnt.pv))]),(3,.c .one [.sh false (.i .i64 (j:Nat))])]) l.length (by omega) ?_ ?_
 ·simp only[go_sem,Nat.reduceLT,Nat.reduceAdd,Nat.reduceSub,Nat.reduceEqDiff,Nat.reduceLeDiff,Int.reduceEq,Int.reduceBEq,Int.reduceBNe,Int.reduceNeg,UInt8.reduceToNat]
  exact⟨0,Nat.zero_le _,rfl,fun i hi=>absurd hi (Nat.not_lt_zero _),rfl⟩
 ·rintro k σ ⟨j,hj,rfl,hp,rfl⟩
  by_cases hlt:j<l.length
  ·have h1:((j:Int)<(l.length:Int)):=by omega
   have hx:l[j]? =some l[j]:=List.getElem?_eq_getElem hlt
   have hok:=ho _ (List.getElem_mem hlt)
   generalize l[j]=a at hx hok
   have hc:=GKz m (deep hn (by decide)) a.Name hok.Name
   simp only[go_sem]at hc
   have step:Bqz l j=true→∀i,i<j+1→Bqz l i=true:=fun e i hi=>by
    rcases Nat.lt_succ_iff_lt_or_eq.1 hi with h|h
    ·exact hp i h
    ·subst h;exact e
   have bad:Bqz l j=false→B8z l=false:=fun e=>by unfold B8z;rw[C8z hlt e,Bool.false_and]
   cases b1:B6z a.Name with
   |false=>
    rw[bad (OWz hx b1)]
    simp only[go_sem,Nat.reduceLT,Nat.reduceAdd,Nat.reduceSub,Nat.reduceEqDiff,Nat.reduceLeDiff,Int.reduceEq,Int.reduceBEq,Int.reduceBNe,Int.reduceNeg,UInt8.reduceToNat,h1,hx,hc,b1]<;>exact chk1 (by kernel_rfl)
   |true=>
    cases b2:inB a.Ino 2 1000 with
    |false=>
     rw[bad (OVz hx b2)]
     unfold inB at b2
     simp only[go_sem,Nat.reduceLT,Nat.reduceAdd,Nat.reduceSub,Nat.reduceEqDiff,Nat.reduceLeDiff,Int.reduceEq,Int.reduceBEq,Int.reduceBNe,Int.reduceNeg,UInt8.reduceToNat,h1,hx,hc,b1,hin,b2]<;>exact chk1 (by kernel_rfl)
    |true=>
     by_cases h0:j=0
     ·have e:=OXz hx h0
      rw[b1,b2]at e
      unfold inB at b2
      have hgt:¬((j:Int)>0):=by omega
      simp only[go_sem,Nat.reduceLT,Nat.reduceAdd,Nat.reduceSub,Nat.reduceEqDiff,Nat.reduceLeDiff,Int.reduceEq,Int.reduceBEq,Int.reduceBNe,Int.reduceNeg,UInt8.reduceToNat,h1,hx,hc,b1,hin,b2,hgt,ACz hlt (by omega)]
      exact chk (by kernel_rfl) ⟨_,by omega,j+1,hlt,rfl,step e,rfl⟩
     ·have hgt:((j:Int)>0):=by omega
      have hy:l[j - 1]? =some l[j - 1]:=List.getElem?_eq_getElem (by omega)
      generalize l[j - 1]=y at hy
      have e:=OUz hx h0 hy
      rw[b1,b2]at e
      unfold inB at b2
      obtain⟨j',hj'⟩:∃j',j'=j - 1:=⟨_,rfl⟩
      rw[←hj']at hy
      have ws:IntKind.i64.wrap ((j:Int) - 1)=(j':Int):=by rw[AYz (by omega) (by omega)];omega
      cases b3:CUz y.Name a.Name with
      |false=>
       rw[bad (by rw[e,b3];rfl)]
       unfold CUz at b3
       simp only[go_sem,Nat.reduceLT,Nat.reduceAdd,Nat.reduceSub,Nat.reduceEqDiff,Nat.reduceLeDiff,Int.reduceEq,Int.reduceBEq,Int.reduceBNe,Int.reduceNeg,UInt8.reduceToNat,h1,hx,hc,b1,hin,b2,hgt,ws,hy,b3,ACz hlt (by omega)]<;>exact chk1 (by kernel_rfl)
      |true=>
       have e':Bqz l j=true:=by rw[e,b3];rfl
       unfold CUz at b3
       simp only[go_sem,Nat.reduceLT,Nat.reduceAdd,Nat.reduceSub,Nat.reduceEqDiff,Nat.reduceLeDiff,Int.reduceEq,Int.reduceBEq,Int.reduceBNe,Int.reduceNeg,UInt8.reduceToNat,h1,hx,hc,b1,hin,b2,hgt,ws,hy,b3,ACz hlt (by omega)]
       exact chk (by kernel_rfl) ⟨_,by omega,j+1,hlt,rfl,step e',rfl⟩
  ·have h1:¬((j:Int)<(l.length:Int)):=by omega
   obtain rfl:j=l.length:=by omega
   have e:B8z l=decide ((l.length:Int)≤10):=by unfold B8z;rw[Ckz hp,Bool.true_and]
   rw[e]
   simp only[go_sem,Nat.reduceLT,Nat.reduceAdd,Nat.reduceSub,Nat.reduceEqDiff,Nat.reduceLeDiff,Int.reduceEq,Int.reduceBEq,Int.reduceBNe,Int.reduceNeg,UInt8.reduceToNat,h1]
end Go.Proofs.YtblelojdboefjaaGreatDoor.R
namespace Go.Proofs.YtblelojdboefjaaGreatDoor.R
open Go
def FBz (x:TInode):Bool:=match x.Kind==1 with
 |true=>(x.Ents.length:Int)==0
 |false=>match x.Kind==2 with
  |true=>((x.Data.length:Int)==0)&&decide (x.Links≤1)
  |false=>false
def Atz (x:TInode):Bool:=inB x.Ino 1 1000&&(inB x.Links 0 1000&&((x.Links==0)==(x.Ino==1)))&& !(decide ((x.Data.length:Int)>100))&&B8z x.Ents&&Crz x.Attrs&&FBz x
theorem Mcz {x:TInode} (h:(x.Kind==1)=true):FBz x=((x.Ents.length:Int)==0):=by unfold FBz;rw[h]
theorem Qez {x:TInode} (h:(x.Kind==1)=false) (h2:(x.Kind==2)=true):FBz x=(((x.Data.length:Int)==0)&&decide (x.Links≤1)):=by unfold FBz;rw[h,h2]
theorem Jpz {x:TInode} (h:(x.Kind==1)=false) (h2:(x.Kind==2)=false):FBz x=false:=by unfold FBz;rw[h,h2]
set_option maxHeartbeats 4000000 in
theorem Mfz (n:Nat) (hn:Big+5≤n) (x:TInode) (hx:x.ok):pcall env n 189 [.c .agg (x.pv.map ASz)] []=some ⟨pvSV (.b (Atz x)),[]⟩:=by
 obtain⟨m,rfl⟩:=AFz hn
 have hin:=fun a b c=>Gbz m (deep hn (by decide)) a b c
 have hat:=NJz m (deep hn (by decide)) x.Attrs hx.Attrs.1 hx.Attrs.2
 have hen:=Ntz m (deep hn (by decide)) x.Ents hx.Ents.1 hx.Ents.2
 simp only[go_sem]at hin hat hen
 unfold Atz
 refine ARz (ADz (fn:=Tryz.f189) rfl rfl rfl (Nat.le_of_ble_eq_true rfl) ?_)
 unfold Tryz.f189
 cases b1:inB x.Ino 1 1000 with
 |false=>
  unfold inB at b1
  simp only[go_sem,Nat.reduceLT,Nat.reduceAdd,Nat.reduceSub,Nat.reduceEqDiff,Nat.reduceLeDiff,Int.reduceEq,Int.reduceBEq,Int.reduceBNe,Int.reduceNeg,UInt8.reduceToNat,hin,b1]<;>exact chk1 (by kernel_rfl)
 |true=>
  unfold inB at b1
  cases b2:inB x.Links 0 1000 with
  |false=>
   unfold inB at b2
   simp only[go_sem,Nat.reduceLT,Nat.reduceAdd,Nat.reduceSub,Nat.reduceEqDiff,Nat.reduceLeDiff,Int.reduceEq,Int.reduceBEq,Int.reduceBNe,Int.reduceNeg,UInt8.reduceToNat,hin,b1,b2]<;>exact chk1 (by kernel_rfl)
  |true=>
   unfold inB at b2
   cases b3:((x.Links==0)==(x.Ino==1))with
   |false=>
    simp only[go_sem,Nat.reduceLT,Nat.reduceAdd,Nat.reduceSub,Nat.reduceEqDiff,Nat.reduceLeDiff,Int.reduceEq,Int.reduceBEq,Int.reduceBNe,Int.reduceNeg,UInt8.reduceToNat,hin,b1,b2,b3]<;>exact chk1 (by kernel_rfl)
   |true=>
    by_cases b4:((x.Data.length:Int)>100)
    ·simp only[go_sem,Nat.reduceLT,Nat.reduceAdd,Nat.reduceSub,Nat.reduceEqDiff,Nat.reduceLeDiff,Int.reduceEq,Int.reduceBEq,Int.reduceBNe,Int.reduceNeg,UInt8.reduceToNat,hin,b1,b2,b3,b4]<;>exact chk1 (by kernel_rfl)
    ·skip
     cases b5:B8z x.Ents with
     |false=>
      simp only[go_sem,Nat.reduceLT,Nat.reduceAdd,Nat.reduceSub,Nat.reduceEqDiff,Nat.reduceLeDiff,Int.reduceEq,Int.reduceBEq,Int.reduceBNe,Int.reduceNeg,UInt8.reduceToNat,hin,b1,b2,b3,b4,hen,b5]<;>exact chk1 (by kernel_rfl)
     |true=>
      cases b6:Crz x.Attrs with
      |false=>
       simp only[go_sem,Nat.reduceLT,Nat.reduceAdd,Nat.reduceSub,Nat.reduceEqDiff,Nat.reduceLeDiff,Int.reduceEq,Int.reduceBEq,Int.reduceBNe,Int.reduceNeg,UInt8.reduceToNat,hin,b1,b2,b3,b4,hen,b5,hat,b6]<;>exact chk1 (by kernel_rfl)
      |true=>
       cases c1:(x.Kind==1)with
       |true=>
        rw[Mcz c1]
        simp only[go_sem,Nat.reduceLT,Nat.reduceAdd,Nat.reduceSub,Nat.reduceEqDiff,Nat.reduceLeDiff,Int.reduceEq,Int.reduceBEq,Int.reduceBNe,Int.reduceNeg,UInt8.reduceToNat,hin,b1,b2,b3,b4,hen,b5,hat,b6,c1]<;>exact chk1 (by kernel_rfl)
       |false=>
        cases c2:(x.Kind==2)with
        |false=>
         rw[Jpz c1 c2]
         simp only[go_sem,Nat.reduceLT,Nat.reduceAdd,Nat.reduceSub,Nat.reduceEqDiff,Nat.reduceLeDiff,Int.reduceEq,Int.reduceBEq,Int.reduceBNe,Int.reduceNeg,UInt8.reduceToNat,hin,b1,b2,b3,b4,hen,b5,hat,b6,c1,c2]<;>exact chk1 (by kernel_rfl)
        |true=>
         rw[Qez c1 c2]
         cases c3:((x.Data.length:Int)==0)with
         |false=>
          simp only[go_sem,Nat.reduceLT,Nat.reduceAdd,Nat.reduceSub,Nat.reduceEqDiff,Nat.reduceLeDiff,Int.reduceEq,Int.reduceBEq,Int.reduceBNe,Int.reduceNeg,UInt8.reduceToNat,hin,b1,b2,b3,b4,hen,b5,hat,b6,c1,c2,c3]<;>exact chk1 (by kernel_rfl)
         |true=>
          simp only[go_sem,Nat.reduceLT,Nat.reduceAdd,Nat.reduceSub,Nat.reduceEqDiff,Nat.reduceLeDiff,Int.reduceEq,Int.reduceBEq,Int.reduceBNe,Int.reduceNeg,UInt8.reduceToNat,hin,b1,b2,b3,b4,hen,b5,hat,b6,c1,c2,c3]<;>exact chk1 (by kernel_rfl)
theorem SXz {l:List TEnt} (h:(l.length:Int)>10):B8z l=false:=by
 unfold B8z
 rw[show decide ((l.length:Int)≤10)=false from decide_eq_false (by omega),Bool.and_false]
set_option maxHeartbeats 4000000 in
theorem Mgz (n:Nat) (hn:Big+5≤n) (x:TInode) (hxo:x.ok):pcall env n 195 [.c .agg (x.pv.map ASz)] []=some ⟨pvSV (.b (Atz x)),[]⟩:=by
 obtain⟨m,rfl⟩:=AFz hn
 have hB:=AXz
 have hbd:Bd=1048576:=rfl
 have hin:=fun a b c=>Kcz m (deep hn (by decide)) a b c
 have hat:=NKz m (deep hn (by decide)) x.Attrs hxo.Attrs.1 hxo.Attrs.2
 simp only[go_sem]at hin hat
 have hl:=hxo.Ents.2
 have ho:=hxo.Ents.1
 refine ARz (ADz (fn:=Tryz.f195) rfl rfl rfl (Nat.le_of_ble_eq_true rfl) ?_)
 unfold Tryz.f195
 cases b1:inB x.Ino 1 1000 with
 |false=>
  have e:Atz x=false:=by unfold Atz;simp[b1]
  rw[e]
  unfold inB at b1
  simp only[go_sem,Nat.reduceLT,Nat.reduceAdd,Nat.reduceSub,Nat.reduceEqDiff,Nat.reduceLeDiff,Int.reduceEq,Int.reduceBEq,Int.reduceBNe,Int.reduceNeg,UInt8.reduceToNat,hin,b1]<;>exact chk1 (by kernel_rfl)
 |true=>
 have b1':=b1
 unfold inB at b1
 by_cases b4:(x.Data.length:Int)>100
 ·have e:Atz x=false:=by unfold Atz;simp[b4]
  rw[e]
  simp only[go_sem,Nat.reduceLT,Nat.reduceAdd,Nat.reduceSub,Nat.reduceEqDiff,Nat.reduceLeDiff,Int.reduceEq,Int.reduceBEq,Int.reduceBNe,Int.reduceNeg,UInt8.reduceToNat,hin,b1,b4]<;>exact chk1 (by kernel_rfl)
 by_cases b5:(x.Ents.length:Int)>10
 ·have e:Atz x=false:=by unfold Atz;simp[SXz b5]
  rw[e]
  simp only[go_sem,Nat.reduceLT,Nat.reduceAdd,Nat.reduceSub,Nat.reduceEqDiff,Nat.reduceLeDiff,Int.reduceEq,Int.reduceBEq,Int.reduceBNe,Int.reduceNeg,UInt8.reduceToNat,hin,b1,b4,b5]<;>exact chk1 (by kernel_rfl)
 cases b6:Crz x.Attrs with
 |false=>
  have e:Atz x=false:=by unfold Atz;simp[b6]
  rw[e]
  simp only[go_sem,Nat.reduceLT,Nat.reduceAdd,Nat.reduceSub,Nat.reduceEqDiff,Nat.reduceLeDiff,Int.reduceEq,Int.reduceBEq,Int.reduceBNe,Int.reduceNeg,UInt8.reduceToNat,hin,b1,b4,b5,hat,b6]<;>exact chk1 (by kernel_rfl)
 |true=>
 simp only[go_sem,Nat.reduceLT,Nat.reduceAdd,Nat.reduceSub,Nat.reduceEqDiff,Nat.reduceLeDiff,Int.reduceEq,Int.reduceBEq,Int.reduceBNe,Int.reduceNeg,UInt8.reduceToNat,hin,b1,b4,b5,hat,b6]
 refine AGz (fun k σ=>∃j:Nat,j≤x.Ents.length∧k=x.Ents.length - j∧(∀i,i<j→Bqz x.Ents i=true)∧σ=slots 94 [(1,.c .box [.sh false (.i .i64 x.Ino),.sh false (.i .i64 x.Kind),.sh false (.i .i64 x.Links),.sh true (.s 1 (x.Data.map bpv)),.sh true (.s 2 (x.Ents.map TEnt.pv)),.sh true (.s 2 (x.Attrs.map TAttr.pv))]),(28,.c .one [.sh true (.s 2 (x.Ents.map TEnt.pv))]),(29,.c .one [.sh false (.i .i64 (x.Ents.length:Nat))]),(30,.c .one [.sh false (.i .i64 (j:Nat))])]) x.Ents.length (by omega) ?_ ?_
 ·simp only[go_sem,Nat.reduceLT,Nat.reduceAdd,Nat.reduceSub,Nat.reduceEqDiff,Nat.reduceLeDiff,Int.reduceEq,Int.reduceBEq,Int.reduceBNe,Int.reduceNeg,UInt8.reduceToNat]
  exact⟨0,Nat.zero_le _,rfl,fun i hi=>absurd hi (Nat.not_lt_zero _),rfl⟩
 ·rintro k σ ⟨j,hj,rfl,hp,rfl⟩
  by_cases hlt:j<x.Ents.length
  ·have h1:((j:Int)<(x.Ents.length:Int)):=by omega
   have hx:x.Ents[j]? =some x.Ents[j]:=List.getElem?_eq_getElem hlt
   have hok:=ho _ (List.getElem_mem hlt)
   generalize x.Ents[j]=a at hx hok
   have hc:=GLz m (deep hn (by decide)) a.Name hok.Name
   simp only[go_sem]at hc
   have step:Bqz x.Ents j=true→∀i,i<j+1→Bqz x.Ents i=true:=fun e i hi=>by
    rcases Nat.lt_succ_iff_lt_or_eq.1 hi with h|h
    ·exact hp i h
    ·subst h;exact e
   have bad:Bqz x.Ents j=false→Atz x=false:=fun e=>by
    have:B8z x.Ents=false:=by unfold B8z;rw[C8z hlt e,Bool.false_and]
    unfold Atz;simp[this]
   cases d1:B6z a.Name with
   |false=>
    rw[bad (OWz hx d1)]
    simp only[go_sem,Nat.reduceLT,Nat.reduceAdd,Nat.reduceSub,Nat.reduceEqDiff,Nat.reduceLeDiff,Int.reduceEq,Int.reduceBEq,Int.reduceBNe,Int.reduceNeg,UInt8.reduceToNat,h1,hx,hc,d1]<;>exact chk1 (by kernel_rfl)
   |true=>
    cases d2:inB a.Ino 2 1000 with
    |false=>
     rw[bad (OVz hx d2)]
     unfold inB at d2
     simp only[go_sem,Nat.reduceLT,Nat.reduceAdd,Nat.reduceSub,Nat.reduceEqDiff,Nat.reduceLeDiff,Int.reduceEq,Int.reduceBEq,Int.reduceBNe,Int.reduceNeg,UInt8.reduceToNat,h1,hx,hc,d1,hin,d2]<;>exact chk1 (by kernel_rfl)
    |true=>
     by_cases h0:j=0
     ·have e:=OXz hx h0
      rw[d1,d2]at e
      unfold inB at d2
      have hgt:¬((j:Int)>0):=by omega
      simp only[go_sem,Nat.reduceLT,Nat.reduceAdd,Nat.reduceSub,Nat.reduceEqDiff,Nat.reduceLeDiff,Int.reduceEq,Int.reduceBEq,Int.reduceBNe,Int.reduceNeg,UInt8.reduceToNat,h1,hx,hc,d1,hin,d2,hgt,ACz hlt (by omega)]
      exact chk (by kernel_rfl) ⟨_,by omega,j+1,hlt,rfl,step e,rfl⟩
     ·have hgt:((j:Int)>0):=by omega
      have hy:x.Ents[j - 1]? =some x.Ents[j - 1]:=List.getElem?_eq_getElem (by omega)
      generalize x.Ents[j - 1]=y at hy
      have e:=OUz hx h0 hy
      rw[d1,d2]at e
      unfold inB at d2
      obtain⟨j',hj'⟩:∃j',j'=j - 1:=⟨_,rfl⟩
      rw[←hj']at hy
      have ws:IntKind.i64.wrap ((j:Int) - 1)=(j':Int):=by rw[AYz (by omega) (by omega)];omega
      cases d3:CUz y.Name a.Name with
      |false=>
       rw[bad (by rw[e,d3];rfl)]
       unfold CUz at d3
       simp only[go_sem,Nat.reduceLT,Nat.reduceAdd,Nat.reduceSub,Nat.reduceEqDiff,Nat.reduceLeDiff,Int.reduceEq,Int.reduceBEq,Int.reduceBNe,Int.reduceNeg,UInt8.reduceToNat,h1,hx,hc,d1,hin,d2,hgt,ws,hy,d3,ACz hlt (by omega)]<;>exact chk1 (by kernel_rfl)
      |true=>
       have e':Bqz x.Ents j=true:=by rw[e,d3];rfl
       unfold CUz at d3
       simp only[go_sem,Nat.reduceLT,Nat.reduceAdd,Nat.reduceSub,Nat.reduceEqDiff,Nat.reduceLeDiff,Int.reduceEq,Int.reduceBEq,Int.reduceBNe,Int.reduceNeg,UInt8.reduceToNat,h1,hx,hc,d1,hin,d2,hgt,ws,hy,d3,ACz hlt (by omega)]
       exact chk (by kernel_rfl) ⟨_,by omega,j+1,hlt,rfl,step e',rfl⟩
  ·have h1:¬((j:Int)<(x.Ents.length:Int)):=by omega
   obtain rfl:j=x.Ents.length:=by omega
   have be:B8z x.Ents=true:=by
    unfold B8z
    rw[Ckz hp,Bool.true_and]
    exact decide_eq_true (by omega)
   have e:Atz x=(inB x.Links 0 1000&&((x.Links==0)==(x.Ino==1))&&FBz x):=by
    unfold Atz
    rw[b1',be,b6,show decide ((x.Data.length:Int)>100)=false from decide_eq_false b4]
    simp
   rw[e]
   cases b2:inB x.Links 0 1000 with
   |false=>
    unfold inB at b2
    simp only[go_sem,Nat.reduceLT,Nat.reduceAdd,Nat.reduceSub,Nat.reduceEqDiff,Nat.reduceLeDiff,Int.reduceEq,Int.reduceBEq,Int.reduceBNe,Int.reduceNeg,UInt8.reduceToNat,h1,hin,b2]<;>exact chk1 (by kernel_rfl)
   |true=>
    unfold inB at b2
    cases b3:((x.Links==0)==(x.Ino==1))with
    |false=>
     simp only[go_sem,Nat.reduceLT,Nat.reduceAdd,Nat.reduceSub,Nat.reduceEqDiff,Nat.reduceLeDiff,Int.reduceEq,Int.reduceBEq,Int.reduceBNe,Int.reduceNeg,UInt8.reduceToNat,h1,hin,b2,b3]<;>exact chk1 (by kernel_rfl)
    |true=>
     cases c1:(x.Kind==1)with
     |true=>
      rw[Mcz c1]
      simp only[go_sem,Nat.reduceLT,Nat.reduceAdd,Nat.reduceSub,Nat.reduceEqDiff,Nat.reduceLeDiff,Int.reduceEq,Int.reduceBEq,Int.reduceBNe,Int.reduceNeg,UInt8.reduceToNat,h1,hin,b2,b3,c1]<;>exact chk1 (by kernel_rfl)
     |false=>
      cases c2:(x.Kind==2)with
      |false=>
       rw[Jpz c1 c2]
       simp only[go_sem,Nat.reduceLT,Nat.reduceAdd,Nat.reduceSub,Nat.reduceEqDiff,Nat.reduceLeDiff,Int.reduceEq,Int.reduceBEq,Int.reduceBNe,Int.reduceNeg,UInt8.reduceToNat,h1,hin,b2,b3,c1,c2]<;>exact chk1 (by kernel_rfl)
      |true=>
       rw[Qez c1 c2]
       cases c3:((x.Data.length:Int)==0)with
       |false=>
        simp only[go_sem,Nat.reduceLT,Nat.reduceAdd,Nat.reduceSub,Nat.reduceEqDiff,Nat.reduceLeDiff,Int.reduceEq,Int.reduceBEq,Int.reduceBNe,Int.reduceNeg,UInt8.reduceToNat,h1,hin,b2,b3,c1,c2,c3]<;>exact chk1 (by kernel_rfl)
       |true=>
        simp only[go_sem,Nat.reduceLT,Nat.reduceAdd,Nat.reduceSub,Nat.reduceEqDiff,Nat.reduceLeDiff,Int.reduceEq,Int.reduceBEq,Int.reduceBNe,Int.reduceNeg,UInt8.reduceToNat,h1,hin,b2,b3,c1,c2,c3]<;>exact chk1 (by kernel_rfl)
end Go.Proofs.YtblelojdboefjaaGreatDoor.R
namespace Go.Proofs.YtblelojdboefjaaGreatDoor.R
open Go
def BZz (l:List TInode) (k:Int):Int:=match l.findIdx? (fun x=>x.Ino==k)with
 |some j=>(j:Nat)
 |none=> -1
theorem JVz {l:List TInode} {k:Int} {j:Nat} {a:TInode} (hx:l[j]? =some a) (ha:(a.Ino==k)=true) (hp:∀(i:Nat) (y:TInode),i<j→l[i]? =some y→(y.Ino==k)=false):BZz l k=(j:Nat):=by
 have:l.findIdx? (fun x=>x.Ino==k)=some j:=by
  rw[List.findIdx?_eq_some_iff_getElem]
  have hj:=(List.getElem?_eq_some_iff.1 hx).1
  refine⟨hj,?_,fun i hi=> ?_⟩
  ·have:=(List.getElem?_eq_some_iff.1 hx).2
   rw[this];exact ha
  ·have:=hp i l[i] hi (List.getElem?_eq_getElem (by omega))
   simp[this]
 unfold BZz;rw[this]
theorem JWz {l:List TInode} {k:Int} (hp:∀(i:Nat) (y:TInode),i<l.length→l[i]? =some y→(y.Ino==k)=false):BZz l k= -1:=by
 have:l.findIdx? (fun x=>x.Ino==k)=none:=by
  rw[List.findIdx?_eq_none_iff]
  intro y hy
  obtain⟨i,hi⟩:=List.getElem?_of_mem hy
  simpa using hp i y (List.getElem?_eq_some_iff.1 hi).1 hi
 unfold BZz;rw[this]
set_option maxHeartbeats 1000000 in
theorem Gaz (n:Nat) (hn:Big+2≤n) (t:TTab) (ht:t.ok) (k:Int):pcall env n 108 [.c .agg (t.pv.map ASz),pvSV (.i .i64 k)] []=some ⟨pvSV (.i .i64 (BZz t.Inodes k)),[]⟩:=by
 obtain⟨m,rfl⟩:=AFz hn
 have hB:=AXz
 have hbd:Bd=1048576:=rfl
 have hl:=ht.Inodes.2
 refine ARz (ADz (fn:=Tryz.f108) rfl rfl rfl (Nat.le_of_ble_eq_true rfl) ?_)
 unfold Tryz.f108
 simp only[go_sem,Nat.reduceLT,Nat.reduceAdd,Nat.reduceSub,Nat.reduceEqDiff,Nat.reduceLeDiff,Int.reduceEq,Int.reduceBEq,Int.reduceBNe,Int.reduceNeg,UInt8.reduceToNat]
 refine AGz (fun r σ=>∃j:Nat,j≤t.Inodes.length∧r=t.Inodes.length - j∧(∀(i:Nat) (y:TInode),i<j→t.Inodes[i]? =some y→(y.Ino==k)=false)∧σ=slots 22 [(1,.c .one [.sh false (.i .i64 k)]),(2,.c .box [.sh true (.s 6 (t.Inodes.map TInode.pv)),.sh false (.i .i64 t.Next)]),(5,.c .one [.sh false (.i .i64 (j:Nat))])]) t.Inodes.length (by omega) ?_ ?_
 ·simp only[go_sem,Nat.reduceLT,Nat.reduceAdd,Nat.reduceSub,Nat.reduceEqDiff,Nat.reduceLeDiff,Int.reduceEq,Int.reduceBEq,Int.reduceBNe,Int.reduceNeg,UInt8.reduceToNat]
  exact⟨0,Nat.zero_le _,rfl,fun i y hi=>absurd hi (Nat.not_lt_zero _),rfl⟩
 ·rintro r σ ⟨j,hj,rfl,hp,rfl⟩
  by_cases hlt:j<t.Inodes.length
  ·have h1:((j:Int)<(t.Inodes.length:Int)):=by omega
   have hx:t.Inodes[j]? =some t.Inodes[j]:=List.getElem?_eq_getElem hlt
   generalize t.Inodes[j]=a at hx
   cases ha:(a.Ino==k)with
   |true=>
    rw[JVz hx ha hp]
    simp only[go_sem,Nat.reduceLT,Nat.reduceAdd,Nat.reduceSub,Nat.reduceEqDiff,Nat.reduceLeDiff,Int.reduceEq,Int.reduceBEq,Int.reduceBNe,Int.reduceNeg,UInt8.reduceToNat,h1,hx,ha]
   |false=>
    simp only[go_sem,Nat.reduceLT,Nat.reduceAdd,Nat.reduceSub,Nat.reduceEqDiff,Nat.reduceLeDiff,Int.reduceEq,Int.reduceBEq,Int.reduceBNe,Int.reduceNeg,UInt8.reduceToNat,h1,hx,ha,ACz hlt (by omega)]
    refine⟨_,by omega,j+1,hlt,rfl,fun i y hi hy=> ?_,rfl⟩
    rcases Nat.lt_succ_iff_lt_or_eq.1 hi with h|h
    ·exact hp i y h hy
    ·subst h;rw[hx]at hy;injection hy with hy;subst hy;exact ha
  ·have h1:¬((j:Int)<(t.Inodes.length:Int)):=by omega
   obtain rfl:j=t.Inodes.length:=by omega
   rw[JWz hp]
   simp only[go_sem,Nat.reduceLT,Nat.reduceAdd,Nat.reduceSub,Nat.reduceEqDiff,Nat.reduceLeDiff,Int.reduceEq,Int.reduceBEq,Int.reduceBNe,Int.reduceNeg,UInt8.reduceToNat,h1]
theorem O2z (n:Nat) (hn:Big+1≤n) (x:TInode) (k:Int):pcall env n 199 [.c .agg (x.pv.map ASz),.bp 0 0] [[.sh false (.i .i64 k)]]=some ⟨pvSV (.b (x.Ino==k)),[[.sh false (.i .i64 k)]]⟩:=by
 obtain⟨m,rfl⟩:=AFz hn
 refine ARz (ADz (fn:=Tryz.f199) rfl rfl rfl (Nat.le_of_ble_eq_true rfl) ?_)
 unfold Tryz.f199
 simp only[go_sem,Nat.reduceLT,Nat.reduceAdd,Nat.reduceSub,Nat.reduceEqDiff,Nat.reduceLeDiff,Int.reduceEq,Int.reduceBEq,Int.reduceBNe,Int.reduceNeg,UInt8.reduceToNat]
@[go_sem] theorem Yoz {α β:Type} {f:α→Option β} {a:α}:List.mapM f [a]=(f a).map fun y=>[y]:=by
 simp only[List.mapM_cons,List.mapM_nil]
 cases f a<;>rfl
@[go_sem] theorem Ynz {α β:Type} {f:α→Option β} {a b:α}:List.mapM f [a,b]=(f a).bind fun y=>(f b).map fun z=>[y,z]:=by
 simp only[List.mapM_cons,List.mapM_nil]
 cases f a<;>cases f b<;>rfl
@[go_sem] theorem XQz {a:Nat}:List.range' a 1=[a]:=rfl
@[go_sem] theorem XPz {a:Nat}:List.range' a 2=[a,a+1]:=rfl
@[go_sem ↓] theorem YIz {E:Env} {call:CallF} {N:Nat} {ty:TypeId} {d:Nat} {σ:St} {g:FuncId} {c:Nat} {cs:List Nat} {f:Operand} {xs:List Operand}:Pez E call N ty d σ (.fn g (c::cs)) f xs=Bgz E call N ty d σ f xs:=rfl
set_option maxHeartbeats 1000000 in
theorem LYz (n:Nat) (hn:Big+3≤n) (l:List TInode) (hl:l.length≤Bd) (k:Int):pcall env n 198 [.c .one [.sh true (.s 6 (l.map TInode.pv))],.fn 199 [0]] [[.sh false (.i .i64 k)]]=some ⟨pvSV (.i .i64 (BZz l k)),[[.sh false (.i .i64 k)]]⟩:=by
 obtain⟨m,rfl⟩:=AFz hn
 have hB:=AXz
 have hbd:Bd=1048576:=rfl
 refine ARz (ADz (fn:=Tryz.f198) rfl rfl rfl (Nat.le_of_ble_eq_true rfl) ?_)
 unfold Tryz.f198
 simp only[go_sem,Nat.reduceLT,Nat.reduceAdd,Nat.reduceSub,Nat.reduceEqDiff,Nat.reduceLeDiff,Int.reduceEq,Int.reduceBEq,Int.reduceBNe,Int.reduceNeg,UInt8.reduceToNat]
 refine AGz (fun r σ=>∃j:Nat,j≤l.length∧r=l.length - j∧(∀(i:Nat) (y:TInode),i<j→l[i]? =some y→(y.Ino==k)=false)∧σ=slots 19 [(0,.c .one [.sh true (.s 6 (l.map TInode.pv))]),(1,.fn 199 [19]),(7,.c .one [.sh false (.i .i64 (l.length:Nat))]),(8,.c .one [.sh false (.i .i64 (j:Nat))])]++[.c .box [.sh false (.i .i64 k)]]) l.length (by omega) ?_ ?_
 ·simp only[go_sem,Nat.reduceLT,Nat.reduceAdd,Nat.reduceSub,Nat.reduceEqDiff,Nat.reduceLeDiff,Int.reduceEq,Int.reduceBEq,Int.reduceBNe,Int.reduceNeg,UInt8.reduceToNat]
  exact⟨0,Nat.zero_le _,rfl,fun i y hi=>absurd hi (Nat.not_lt_zero _),rfl⟩
 ·rintro r σ ⟨j,hj,rfl,hp,rfl⟩
  by_cases hlt:j<l.length
  ·have h1:((j:Int)<(l.length:Int)):=by omega
   have hx:l[j]? =some l[j]:=List.getElem?_eq_getElem hlt
   generalize l[j]=a at hx
   have hc:=O2z m (deep hn (by decide)) a k
   simp only[go_sem]at hc
   cases ha:(a.Ino==k)with
   |true=>
    rw[JVz hx ha hp]
    simp only[go_sem,Nat.reduceLT,Nat.reduceAdd,Nat.reduceSub,Nat.reduceEqDiff,Nat.reduceLeDiff,Int.reduceEq,Int.reduceBEq,Int.reduceBNe,Int.reduceNeg,UInt8.reduceToNat,h1,hx,ha,hc]
   |false=>
    simp only[go_sem,Nat.reduceLT,Nat.reduceAdd,Nat.reduceSub,Nat.reduceEqDiff,Nat.reduceLeDiff,Int.reduceEq,Int.reduceBEq,Int.reduceBNe,Int.reduceNeg,UInt8.reduceToNat,h1,hx,ha,hc,ACz hlt (by omega)]
    refine⟨_,by omega,j+1,hlt,rfl,fun i y hi hy=> ?_,rfl⟩
    rcases Nat.lt_succ_iff_lt_or_eq.1 hi with h|h
    ·exact hp i y h hy
    ·subst h;rw[hx]at hy;injection hy with hy;subst hy;exact ha
  ·have h1:¬((j:Int)<(l.length:Int)):=by omega
   obtain rfl:j=l.length:=by omega
   rw[JWz hp]
   simp only[go_sem,Nat.reduceLT,Nat.reduceAdd,Nat.reduceSub,Nat.reduceEqDiff,Nat.reduceLeDiff,Int.reduceEq,Int.reduceBEq,Int.reduceBNe,Int.reduceNeg,UInt8.reduceToNat,h1]
theorem JXz (n:Nat) (hn:Big+4≤n) (t:TTab) (ht:t.ok) (k:Int):pcall env n 119 [.c .agg (t.pv.map ASz),pvSV (.i .i64 k)] []=some ⟨pvSV (.i .i64 (BZz t.Inodes k)),[]⟩:=by
 obtain⟨m,rfl⟩:=AFz hn
 have hc:=LYz m (deep hn (by decide)) t.Inodes ht.Inodes.2 k
 simp only[go_sem]at hc
 refine ARz (ADz (fn:=Tryz.f119) rfl rfl rfl (Nat.le_of_ble_eq_true rfl) ?_)
 unfold Tryz.f119
 simp only[go_sem,Nat.reduceLT,Nat.reduceAdd,Nat.reduceSub,Nat.reduceEqDiff,Nat.reduceLeDiff,Int.reduceEq,Int.reduceBEq,Int.reduceBNe,Int.reduceNeg,UInt8.reduceToNat,hc]
end Go.Proofs.YtblelojdboefjaaGreatDoor.R
namespace Go.Proofs.YtblelojdboefjaaGreatDoor.R
open Go
section
variable {E:Env} {call:CallF} {N n:Nat}
theorem WSz {d:Nat} {f:FuncId} {args:List SV} {bs:List (List CV)} {fn:Func} {code:Code} {K:Ret→Prop} (hn:Big+(d+1)≤n) (ho:E.orc f=none) (hf:E.fns f=some fn) (hb:fn.body=some code) (hl:args.length≤fn.ntmps)
  (h:∀m,(∀{k},k≤d→Big+k≤m)→ @Wq _ (AEz (E.run f (icall E m)) (pcall E m) fn.ntmps m code (start fn.ntmps args bs)) ⟨fun q=>ended q.1∧ @Wq _ (finish (E.run f (icall E m)).T fn.ntmps bs.length fn.results.toList q.2) ⟨K⟩⟩):∃r,pcall E n f args bs=some r∧K r:=by
 obtain⟨m,rfl⟩:∃m,n=m+1:=⟨n - 1,by have:=AXz;omega⟩
 exact ADz (K:=⟨K⟩) ho hf hb hl (h m fun hk=>by omega)
theorem walk {d:Nat} {f:FuncId} {args:List SV} {bs:List (List CV)} {r:Ret} {fn:Func} {code:Code} (hn:Big+(d+1)≤n) (ho:E.orc f=none) (hf:E.fns f=some fn) (hb:fn.body=some code) (hl:args.length≤fn.ntmps)
  (h:∀m,(∀{k},k≤d→Big+k≤m)→ @Wq _ (AEz (E.run f (icall E m)) (pcall E m) fn.ntmps m code (start fn.ntmps args bs)) ⟨fun q=>ended q.1∧ @Wq _ (finish (E.run f (icall E m)).T fn.ntmps bs.length fn.results.toList q.2) ⟨fun s=>s=r⟩⟩):pcall E n f args bs=some r:=by
 obtain⟨q,h1,h2⟩:=WSz hn ho hf hb hl h
 rw[h1,h2]
theorem Hnz {E:Env} {n:Nat} {f:FuncId} {g:CallF→List SV→List (List CV)→Option Ret} {args:List SV} {bs:List (List CV)} (h:E.orc f=some g):pcall E (n+1) f args bs=g (pcall E n) args bs:=by
 rw[Gqz];simp only[pbody,h]
class Held where
 st:St
 pr:Prop
def Fin (σ:St) [h:Held]:Prop:=σ=h.st∧h.pr
theorem fin {σ:St} {h:Held} (e:σ=h.st) (p:h.pr): @Fin σ h:=⟨e,p⟩
theorem fin' {σ τ:St} (e:σ=τ): @Fin σ ⟨τ,True⟩:=⟨e,trivial⟩
theorem RWz {b:Code} {σ:St} {K:Kont (Ex×St)} (len:Nat) (S:Nat→St) (I:Nat→Prop) (hn:Big≤n) (hl:len≤1152921504606846976)
  (h0: @Wq _ (some (tidy N (E.D (BNz b)) σ)) ⟨fun σ=> @Fin σ ⟨S 0,I 0⟩⟩)
  (hs:∀j,j<len→(((j:Int)<(len:Int))=True)→IntKind.i64.wrap ((j:Int)+1)=((j+1:Nat):Int)→I j→ @Wq _ (AEz E call N n b (S j)) ⟨cont (fun σ=> @Wq _ (some (tidy N (E.D (BNz b)) σ)) ⟨fun σ=> @Fin σ ⟨S (j+1),I (j+1)⟩⟩) K.run⟩)
  (he:I len→ @Wq _ (AEz E call N n b (S len)) ⟨cont (fun _=>False) K.run⟩): @Wq _ (AEz E call N n (.loop b) σ) K:=by
 have hB:Big=9223372036854775808:=rfl
 refine AGz (fun k τ=>∃j,j≤len∧k=len - j∧I j∧τ=S j) len (by omega) ?_ ?_
 ·rw[ERz]at h0 ⊢
  exact⟨0,Nat.zero_le _,rfl,h0.2,h0.1⟩
 ·rintro k τ ⟨j,hj,rfl,hI,rfl⟩
  by_cases hlt:j<len
  ·refine(hs j hlt (by simp only[eq_iff_iff,iff_true];omega) (ACz hlt hl) hI).mono fun r hr=> ?_
   obtain⟨e,τ⟩:=r
   cases e with
   |normal=>exact Wq.mono (K:=⟨fun σ=> @Fin σ ⟨S (j+1),I (j+1)⟩⟩) hr fun τ ht=>⟨_,by omega,j+1,hlt,rfl,ht.2,ht.1⟩
   |_=>exact hr
  ·obtain rfl:j=len:=by omega
   refine(he hI).mono fun r hr=> ?_
   obtain⟨e,τ⟩:=r
   cases e with
   |normal=>exact hr.elim
   |_=>exact hr
theorem B5z {α:Type} {b:Code} {σ:St} {K:Kont (Ex×St)} (l:List α) (S:Nat→St) (I:Nat→Prop) (hn:Big≤n) (hl:l.length≤1152921504606846976)
  (h0: @Wq _ (some (tidy N (E.D (BNz b)) σ)) ⟨fun σ=> @Fin σ ⟨S 0,I 0⟩⟩)
  (hs:∀j x,l[j]? =some x→x∈l→j<l.length→(((j:Int)<(l.length:Int))=True)→IntKind.i64.wrap ((j:Int)+1)=((j+1:Nat):Int)→I j→ @Wq _ (AEz E call N n b (S j)) ⟨cont (fun σ=> @Wq _ (some (tidy N (E.D (BNz b)) σ)) ⟨fun σ=> @Fin σ ⟨S (j+1),I (j+1)⟩⟩) K.run⟩)
  (he:I l.length→ @Wq _ (AEz E call N n b (S l.length)) ⟨cont (fun _=>False) K.run⟩): @Wq _ (AEz E call N n (.loop b) σ) K:=
 RWz l.length S I hn hl h0 (fun j hj h1 h2 hI=>hs j _ (List.getElem?_eq_getElem hj) (List.getElem_mem hj) hj h1 h2 hI) he
end
attribute [go_sem] Int.lt_irrefl
theorem u8w (k:Nat):IntKind.u8.wrap (k:Int)=((UInt8.ofNat k).toNat:Int):=by
 rw[IntKind.wrap_u8,UInt8.toNat_ofNat'];omega
end Go.Proofs.YtblelojdboefjaaGreatDoor.R
namespace Go.Proofs.YtblelojdboefjaaGreatDoor.R
open Go
theorem Jkz:Bd*32≤LIM:=by decide
theorem RDz (n:Nat) (hn:Big+1≤n) (f:Bool) (l:List UInt8) (h:l.length≤Bd):pcall env n 200 [.c .one [.sh f (.s 1 (l.map bpv))]] []=some ⟨.c .one [.ow false 1 (l.map bpv)],[]⟩:=by
 obtain⟨m,rfl⟩:=AFz hn
 have:=Jkz
 rw[Hnz (g:=CGz 1 1 true) rfl]
 simp only[CGz,List.length_map,Bool.not_true,Bool.and_false]
 rw[if_pos ⟨trivial,by omega,fun _=>Hmz⟩]
theorem RCz (n:Nat) (hn:Big+1≤n) (f:Bool) (l:List TEnt) (h:l.length≤Bd):pcall env n 201 [.c .one [.sh f (.s 2 (l.map TEnt.pv))]] []=some ⟨.c .one [.ow false 2 (l.map TEnt.pv)],[]⟩:=by
 obtain⟨m,rfl⟩:=AFz hn
 have:=Jkz
 rw[Hnz (g:=CGz 2 24 true) rfl]
 simp only[CGz,List.length_map,Bool.not_true,Bool.and_false]
 rw[if_pos ⟨trivial,by omega,fun _=>Hmz⟩]
theorem REz (n:Nat) (hn:Big+1≤n) (f:Bool) (l:List TAttr) (h:l.length≤Bd):pcall env n 202 [.c .one [.sh f (.s 2 (l.map TAttr.pv))]] []=some ⟨.c .one [.ow false 2 (l.map TAttr.pv)],[]⟩:=by
 obtain⟨m,rfl⟩:=AFz hn
 have:=Jkz
 rw[Hnz (g:=CGz 2 32 true) rfl]
 simp only[CGz,List.length_map,Bool.not_true,Bool.and_false]
 rw[if_pos ⟨trivial,by omega,fun _=>Hmz⟩]
def BMz (x:TInode):List CV:=[.sh false (.i .i64 x.Ino),.sh false (.i .i64 x.Kind),.sh false (.i .i64 x.Links),.ow false 1 (x.Data.map bpv),.ow false 2 (x.Ents.map TEnt.pv),.ow false 2 (x.Attrs.map TAttr.pv)]
set_option maxHeartbeats 4000000 in
theorem M2z (n:Nat) (hn:Big+2≤n) (x:TInode) (hx:x.ok):pcall env n 120 [.c .agg (x.pv.map ASz)] []=some ⟨.c .agg (BMz x),[]⟩:=by
 obtain⟨m,rfl⟩:=AFz hn
 have h1:=RDz m (deep hn (by decide)) true x.Data hx.Data.2
 have h2:=RCz m (deep hn (by decide)) true x.Ents hx.Ents.2
 have h3:=REz m (deep hn (by decide)) true x.Attrs hx.Attrs.2
 refine ARz (ADz (fn:=Tryz.f120) rfl rfl rfl (Nat.le_of_ble_eq_true rfl) ?_)
 unfold Tryz.f120
 simp only[go_sem,Nat.reduceLT,Nat.reduceAdd,Nat.reduceSub,Nat.reduceEqDiff,Nat.reduceLeDiff,Int.reduceEq,Int.reduceBEq,Int.reduceBNe,Int.reduceNeg,UInt8.reduceToNat,h1,h2,h3,BMz]
set_option maxHeartbeats 4000000 in
theorem Qdz (n:Nat) (hn:Big+2≤n) (x:TInode) (hx:x.ok):pcall env n 154 [.c .agg (x.pv.map ASz)] []=some ⟨.c .agg (BMz x),[]⟩:=by
 obtain⟨m,rfl⟩:=AFz hn
 have hl:=Jkz
 have h1:(x.Data.map bpv).length*1≤LIM:=by rw[List.length_map];have:=hx.Data.2;omega
 have h2:(x.Ents.map TEnt.pv).length*24≤LIM:=by rw[List.length_map];have:=hx.Ents.2;omega
 have h3:(x.Attrs.map TAttr.pv).length*32≤LIM:=by rw[List.length_map];have:=hx.Attrs.2;omega
 simp only[List.length_map,Nat.mul_one]at h1 h2 h3
 refine ARz (ADz (fn:=Tryz.f154) rfl rfl rfl (Nat.le_of_ble_eq_true rfl) ?_)
 unfold Tryz.f154
 simp only[go_sem,Nat.reduceLT,Nat.reduceAdd,Nat.reduceSub,Nat.reduceEqDiff,Nat.reduceLeDiff,Int.reduceEq,Int.reduceBEq,Int.reduceBNe,Int.reduceNeg,UInt8.reduceToNat,List.length_map,Nat.zero_mul,Nat.zero_le,h1,h2,h3,BMz]
def Bpz:List CV:=[.sh false (.i .i64 0),.sh false (.i .i64 0),.sh false (.i .i64 0),.ow false 1 [],.ow false 2 [],.ow false 2 []]
def atC (l:List TInode) (k:Int):List CV:=match l.find? (fun x=>x.Ino==k)with
 |some x=>BMz x++[.sh false (.b true)]
 |none=>Bpz++[.sh false (.b false)]
theorem Eez (l:List TInode) (k:Int):(BZz l k= -1∧l.find? (fun x=>x.Ino==k)=none)∨∃(j:Nat) (x:TInode),BZz l k=(j:Nat)∧l[j]? =some x∧l.find? (fun x=>x.Ino==k)=some x:=by
 cases h:l.findIdx? (fun x=>x.Ino==k)with
 |none=>
  left
  refine⟨by unfold BZz;rw[h],?_⟩
  rw[List.findIdx?_eq_none_iff]at h
  rw[List.find?_eq_none]
  intro x hx;have:=h x hx;simpa using this
 |some j=>
  right
  have h':=h
  rw[List.findIdx?_eq_some_iff_getElem]at h
  obtain⟨hj,h1,h2⟩:=h
  refine⟨j,l[j],by unfold BZz;rw[h'],List.getElem?_eq_getElem hj,?_⟩
  rw[List.find?_eq_some_iff_getElem]
  exact⟨h1,j,hj,rfl,fun i hi=>by simpa using h2 i hi⟩
set_option maxHeartbeats 4000000 in
theorem Byz (n:Nat) (hn:Big+6≤n) (t:TTab) (ht:t.ok) (k:Int):pcall env n 45 [.c .agg (t.pv.map ASz),pvSV (.i .i64 k)] []=some ⟨.c (.tup [(true,6),(false,1)]) (atC t.Inodes k),[]⟩:=by
 obtain⟨m,rfl⟩:=AFz hn
 have hc:=JXz m (deep hn (by decide)) t ht k
 simp only[go_sem]at hc
 refine ARz (ADz (fn:=Tryz.f45) rfl rfl rfl (Nat.le_of_ble_eq_true rfl) ?_)
 unfold Tryz.f45
 rcases Eez t.Inodes k with⟨h1,h2⟩|⟨j,x,h1,hx,h2⟩
 ·rw[h1]at hc
  unfold atC
  rw[h2]
  simp only[go_sem,Nat.reduceLT,Nat.reduceAdd,Nat.reduceSub,Nat.reduceEqDiff,Nat.reduceLeDiff,Int.reduceEq,Int.reduceBEq,Int.reduceBNe,Int.reduceNeg,UInt8.reduceToNat,hc,Bpz]
 ·rw[h1]at hc
  have hcp:=M2z m (deep hn (by decide)) x (ht.Inodes.1 _ (List.mem_of_getElem? hx))
  simp only[go_sem,BMz]at hcp
  have hneg:¬((j:Int)<0):=by omega
  unfold atC
  rw[h2]
  simp only[go_sem,Nat.reduceLT,Nat.reduceAdd,Nat.reduceSub,Nat.reduceEqDiff,Nat.reduceLeDiff,Int.reduceEq,Int.reduceBEq,Int.reduceBNe,Int.reduceNeg,UInt8.reduceToNat,hc,hneg,hx,hcp,BMz]
set_option maxHeartbeats 4000000 in
theorem Cqz (n:Nat) (hn:Big+6≤n) (t:TTab) (ht:t.ok) (k:Int):pcall env n 109 [.c .agg (t.pv.map ASz),pvSV (.i .i64 k)] []=some ⟨.c (.tup [(true,6),(false,1)]) (atC t.Inodes k),[]⟩:=by
 obtain⟨m,rfl⟩:=AFz hn
 have hc:=Gaz m (deep hn (by decide)) t ht k
 simp only[go_sem]at hc
 refine ARz (ADz (fn:=Tryz.f109) rfl rfl rfl (Nat.le_of_ble_eq_true rfl) ?_)
 unfold Tryz.f109
 rcases Eez t.Inodes k with⟨h1,h2⟩|⟨j,x,h1,hx,h2⟩
 ·rw[h1]at hc
  unfold atC
  rw[h2]
  simp only[go_sem,Nat.reduceLT,Nat.reduceAdd,Nat.reduceSub,Nat.reduceEqDiff,Nat.reduceLeDiff,Int.reduceEq,Int.reduceBEq,Int.reduceBNe,Int.reduceNeg,UInt8.reduceToNat,hc,Bpz]
 ·rw[h1]at hc
  have hcp:=Qdz m (deep hn (by decide)) x (ht.Inodes.1 _ (List.mem_of_getElem? hx))
  simp only[go_sem,BMz]at hcp
  have hneg:¬((j:Int)<0):=by omega
  unfold atC
  rw[h2]
  simp only[go_sem,Nat.reduceLT,Nat.reduceAdd,Nat.reduceSub,Nat.reduceEqDiff,Nat.reduceLeDiff,Int.reduceEq,Int.reduceBEq,Int.reduceBNe,Int.reduceNeg,UInt8.reduceToNat,hc,hneg,hx,hcp,BMz]
end Go.Proofs.YtblelojdboefjaaGreatDoor.R
namespace Go.Proofs.YtblelojdboefjaaGreatDoor.R
open Go
def EWz (next:Int) (prev:Option TInode) (x:TInode):Bool:=Atz x&& !(decide (x.Ino≥next))&&(match prev with
 |some y=> !(decide (y.Ino≥x.Ino))
 |none=>true)
def BOz (l:List TInode) (next:Int) (i:Nat):Bool:=match l[i]? with
 |some x=>EWz next (if i=0 then none else l[i - 1]?) x
 |none=>true
theorem Iwz {l:List TInode} {next:Int} {j:Nat} {a:TInode} (h:l[j]? =some a) (h0:j=0):BOz l next j=(Atz a&& !(decide (a.Ino≥next))):=by
 simp only[BOz,h,EWz,if_pos h0,Bool.and_true]
theorem Ivz {l:List TInode} {next:Int} {j:Nat} {a y:TInode} (h:l[j]? =some a) (h0:j≠0) (hy:l[j - 1]? =some y):BOz l next j=(Atz a&& !(decide (a.Ino≥next))&& !(decide (y.Ino≥a.Ino))):=by
 simp only[BOz,h,EWz,if_neg h0,hy]
theorem MKz {l:List TInode} {next:Int} {j:Nat} {a:TInode} (h:l[j]? =some a) (hb:Atz a=false):BOz l next j=false:=by
 simp only[BOz,h,EWz,hb,Bool.false_and]
theorem MJz {l:List TInode} {next:Int} {j:Nat} {a:TInode} (h:l[j]? =some a) (hb:a.Ino≥next):BOz l next j=false:=by
 simp only[BOz,h,EWz,decide_eq_true hb,Bool.not_true,Bool.and_false,Bool.false_and]
def Cbz (t:TTab):Bool:=allB t.Inodes.length (BOz t.Inodes t.Next)
def E5z (t:TTab):Bool:=match t.Inodes.find? (fun x=>x.Ino==1)with
 |some x=>x.Kind==2
 |none=>false
def JQz (t:TTab):Bool:=match t.Inodes[0]? with
 |some x=>(x.Ino==1)&&(x.Kind==2)
 |none=>false
def tabI (t:TTab):Bool:= !(decide ((t.Inodes.length:Int)>30))&&inB t.Next 2 1000&&Cbz t&&E5z t
def tabS (t:TTab):Bool:=inB t.Inodes.length 1 30&&inB t.Next 2 1000&&Cbz t&&JQz t
set_option maxHeartbeats 4000000 in
theorem Ooz (n:Nat) (hn:Big+8≤n) (t:TTab) (ht:t.ok):pcall env n 116 [.c .agg (t.pv.map ASz)] []=some ⟨pvSV (.b (tabI t)),[]⟩:=by
 obtain⟨m,rfl⟩:=AFz hn
 have hB:=AXz
 have hbd:Bd=1048576:=rfl
 have hin:=fun a b c=>Kcz m (deep hn (by decide)) a b c
 simp only[go_sem]at hin
 have hl:=ht.Inodes.2
 have ho:=ht.Inodes.1
 refine ARz (ADz (fn:=Tryz.f116) rfl rfl rfl (Nat.le_of_ble_eq_true rfl) ?_)
 unfold Tryz.f116
 by_cases b1:(t.Inodes.length:Int)>30
 ·have e:tabI t=false:=by unfold tabI;simp[b1]
  rw[e]
  simp only[go_sem,Nat.reduceLT,Nat.reduceAdd,Nat.reduceSub,Nat.reduceEqDiff,Nat.reduceLeDiff,Int.reduceEq,Int.reduceBEq,Int.reduceBNe,Int.reduceNeg,UInt8.reduceToNat,b1]<;>exact chk1 (by kernel_rfl)
 cases b2:inB t.Next 2 1000 with
 |false=>
  have e:tabI t=false:=by unfold tabI;simp[b2]
  rw[e]
  unfold inB at b2
  simp only[go_sem,Nat.reduceLT,Nat.reduceAdd,Nat.reduceSub,Nat.reduceEqDiff,Nat.reduceLeDiff,Int.reduceEq,Int.reduceBEq,Int.reduceBNe,Int.reduceNeg,UInt8.reduceToNat,b1,hin,b2]<;>exact chk1 (by kernel_rfl)
 |true=>
 have b2':=b2
 unfold inB at b2
 simp only[go_sem,Nat.reduceLT,Nat.reduceAdd,Nat.reduceSub,Nat.reduceEqDiff,Nat.reduceLeDiff,Int.reduceEq,Int.reduceBEq,Int.reduceBNe,Int.reduceNeg,UInt8.reduceToNat,b1,hin,b2]
 refine AGz (fun k σ=>∃j:Nat,j≤t.Inodes.length∧k=t.Inodes.length - j∧(∀i,i<j→BOz t.Inodes t.Next i=true)∧σ=slots 63 [(1,.c .box [.sh true (.s 6 (t.Inodes.map TInode.pv)),.sh false (.i .i64 t.Next)]),(18,.c .one [.sh true (.s 6 (t.Inodes.map TInode.pv))]),(19,.c .one [.sh false (.i .i64 (t.Inodes.length:Nat))]),(20,.c .one [.sh false (.i .i64 (j:Nat))])]) t.Inodes.length (by omega) ?_ ?_
 ·simp only[go_sem,Nat.reduceLT,Nat.reduceAdd,Nat.reduceSub,Nat.reduceEqDiff,Nat.reduceLeDiff,Int.reduceEq,Int.reduceBEq,Int.reduceBNe,Int.reduceNeg,UInt8.reduceToNat]
  exact⟨0,Nat.zero_le _,rfl,fun i hi=>absurd hi (Nat.not_lt_zero _),rfl⟩
 ·rintro k σ ⟨j,hj,rfl,hp,rfl⟩
  by_cases hlt:j<t.Inodes.length
  ·have h1:((j:Int)<(t.Inodes.length:Int)):=by omega
   have hx:t.Inodes[j]? =some t.Inodes[j]:=List.getElem?_eq_getElem hlt
   have hok:=ho _ (List.getElem_mem hlt)
   generalize t.Inodes[j]=a at hx hok
   have hc:=Mgz m (deep hn (by decide)) a hok
   simp only[go_sem]at hc
   have step:BOz t.Inodes t.Next j=true→∀i,i<j+1→BOz t.Inodes t.Next i=true:=fun e i hi=>by
    rcases Nat.lt_succ_iff_lt_or_eq.1 hi with h|h
    ·exact hp i h
    ·subst h;exact e
   have bad:BOz t.Inodes t.Next j=false→tabI t=false:=fun e=>by
    have:Cbz t=false:=by unfold Cbz;rw[C8z hlt e]
    unfold tabI;simp[this]
   cases d1:Atz a with
   |false=>
    rw[bad (MKz hx d1)]
    simp only[go_sem,Nat.reduceLT,Nat.reduceAdd,Nat.reduceSub,Nat.reduceEqDiff,Nat.reduceLeDiff,Int.reduceEq,Int.reduceBEq,Int.reduceBNe,Int.reduceNeg,UInt8.reduceToNat,h1,hx,hc,d1]<;>exact chk1 (by kernel_rfl)
   |true=>
    by_cases d2:a.Ino≥t.Next
    ·rw[bad (MJz hx d2)]
     simp only[go_sem,Nat.reduceLT,Nat.reduceAdd,Nat.reduceSub,Nat.reduceEqDiff,Nat.reduceLeDiff,Int.reduceEq,Int.reduceBEq,Int.reduceBNe,Int.reduceNeg,UInt8.reduceToNat,h1,hx,hc,d1,d2]<;>exact chk1 (by kernel_rfl)
    ·by_cases h0:j=0
     ·have e:=Iwz (next:=t.Next) hx h0
      rw[d1,decide_eq_false d2]at e
      have hgt:¬((j:Int)>0):=by omega
      simp only[go_sem,Nat.reduceLT,Nat.reduceAdd,Nat.reduceSub,Nat.reduceEqDiff,Nat.reduceLeDiff,Int.reduceEq,Int.reduceBEq,Int.reduceBNe,Int.reduceNeg,UInt8.reduceToNat,h1,hx,hc,d1,d2,hgt,ACz hlt (by omega)]
      exact chk (by kernel_rfl) ⟨_,by omega,j+1,hlt,rfl,step e,rfl⟩
     ·have hgt:((j:Int)>0):=by omega
      have hy:t.Inodes[j - 1]? =some t.Inodes[j - 1]:=List.getElem?_eq_getElem (by omega)
      generalize t.Inodes[j - 1]=y at hy
      have e:=Ivz (next:=t.Next) hx h0 hy
      rw[d1,decide_eq_false d2]at e
      obtain⟨j',hj'⟩:∃j',j'=j - 1:=⟨_,rfl⟩
      rw[←hj']at hy
      have ws:IntKind.i64.wrap ((j:Int) - 1)=(j':Int):=by rw[AYz (by omega) (by omega)];omega
      by_cases d3:y.Ino≥a.Ino
      ·rw[bad (by rw[e,decide_eq_true d3];rfl)]
       simp only[go_sem,Nat.reduceLT,Nat.reduceAdd,Nat.reduceSub,Nat.reduceEqDiff,Nat.reduceLeDiff,Int.reduceEq,Int.reduceBEq,Int.reduceBNe,Int.reduceNeg,UInt8.reduceToNat,h1,hx,hc,d1,d2,hgt,ws,hy,d3,ACz hlt (by omega)]<;>exact chk1 (by kernel_rfl)
      ·have e':BOz t.Inodes t.Next j=true:=by rw[e,decide_eq_false d3];rfl
       simp only[go_sem,Nat.reduceLT,Nat.reduceAdd,Nat.reduceSub,Nat.reduceEqDiff,Nat.reduceLeDiff,Int.reduceEq,Int.reduceBEq,Int.reduceBNe,Int.reduceNeg,UInt8.reduceToNat,h1,hx,hc,d1,d2,hgt,ws,hy,d3,ACz hlt (by omega)]
       exact chk (by kernel_rfl) ⟨_,by omega,j+1,hlt,rfl,step e',rfl⟩
  ·have h1:¬((j:Int)<(t.Inodes.length:Int)):=by omega
   obtain rfl:j=t.Inodes.length:=by omega
   have be:Cbz t=true:=by unfold Cbz;exact Ckz hp
   have e:tabI t=E5z t:=by unfold tabI;rw[decide_eq_false b1,b2',be];simp
   rw[e]
   have hat:=Byz m (deep hn (by decide)) t ht 1
   simp only[go_sem]at hat
   unfold atC at hat
   unfold E5z
   cases hf:t.Inodes.find? (fun x=>x.Ino==1)with
   |none=>
    rw[hf]at hat
    simp only[go_sem,Bpz]at hat
    simp only[go_sem,Nat.reduceLT,Nat.reduceAdd,Nat.reduceSub,Nat.reduceEqDiff,Nat.reduceLeDiff,Int.reduceEq,Int.reduceBEq,Int.reduceBNe,Int.reduceNeg,UInt8.reduceToNat,h1,hat]
   |some x=>
    rw[hf]at hat
    simp only[go_sem,BMz]at hat
    simp only[go_sem,Nat.reduceLT,Nat.reduceAdd,Nat.reduceSub,Nat.reduceEqDiff,Nat.reduceLeDiff,Int.reduceEq,Int.reduceBEq,Int.reduceBNe,Int.reduceNeg,UInt8.reduceToNat,h1,hat]
set_option maxHeartbeats 4000000 in
theorem Onz (n:Nat) (hn:Big+8≤n) (t:TTab) (ht:t.ok):pcall env n 105 [.c .agg (t.pv.map ASz)] []=some ⟨pvSV (.b (tabS t)),[]⟩:=by
 obtain⟨m,rfl⟩:=AFz hn
 have hB:=AXz
 have hbd:Bd=1048576:=rfl
 have hin:=fun a b c=>Gbz m (deep hn (by decide)) a b c
 simp only[go_sem]at hin
 have hl:=ht.Inodes.2
 have ho:=ht.Inodes.1
 refine ARz (ADz (fn:=Tryz.f105) rfl rfl rfl (Nat.le_of_ble_eq_true rfl) ?_)
 unfold Tryz.f105
 cases b1:inB t.Inodes.length 1 30 with
 |false=>
  have e:tabS t=false:=by unfold tabS;simp[b1]
  rw[e]
  unfold inB at b1
  simp only[go_sem,Nat.reduceLT,Nat.reduceAdd,Nat.reduceSub,Nat.reduceEqDiff,Nat.reduceLeDiff,Int.reduceEq,Int.reduceBEq,Int.reduceBNe,Int.reduceNeg,UInt8.reduceToNat,hin,b1]<;>exact chk1 (by kernel_rfl)
 |true=>
 have b1':=b1
 unfold inB at b1
 cases b2:inB t.Next 2 1000 with
 |false=>
  have e:tabS t=false:=by unfold tabS;simp[b2]
  rw[e]
  unfold inB at b2
  simp only[go_sem,Nat.reduceLT,Nat.reduceAdd,Nat.reduceSub,Nat.reduceEqDiff,Nat.reduceLeDiff,Int.reduceEq,Int.reduceBEq,Int.reduceBNe,Int.reduceNeg,UInt8.reduceToNat,hin,b1,b2]<;>exact chk1 (by kernel_rfl)
 |true=>
 have b2':=b2
 unfold inB at b2
 simp only[go_sem,Nat.reduceLT,Nat.reduceAdd,Nat.reduceSub,Nat.reduceEqDiff,Nat.reduceLeDiff,Int.reduceEq,Int.reduceBEq,Int.reduceBNe,Int.reduceNeg,UInt8.reduceToNat,hin,b1,b2]
 refine AGz (fun k σ=>∃j:Nat,j≤t.Inodes.length∧k=t.Inodes.length - j∧(∀i,i<j→BOz t.Inodes t.Next i=true)∧σ=slots 68 [(1,.c .box [.sh true (.s 6 (t.Inodes.map TInode.pv)),.sh false (.i .i64 t.Next)]),(3,.c .one [.sh false (.i .i64 (j:Nat))])]) t.Inodes.length (by omega) ?_ ?_
 ·simp only[go_sem,Nat.reduceLT,Nat.reduceAdd,Nat.reduceSub,Nat.reduceEqDiff,Nat.reduceLeDiff,Int.reduceEq,Int.reduceBEq,Int.reduceBNe,Int.reduceNeg,UInt8.reduceToNat]
  exact⟨0,Nat.zero_le _,rfl,fun i hi=>absurd hi (Nat.not_lt_zero _),rfl⟩
 ·rintro k σ ⟨j,hj,rfl,hp,rfl⟩
  by_cases hlt:j<t.Inodes.length
  ·have h1:((j:Int)<(t.Inodes.length:Int)):=by omega
   have hx:t.Inodes[j]? =some t.Inodes[j]:=List.getElem?_eq_getElem hlt
   have hok:=ho _ (List.getElem_mem hlt)
   generalize t.Inodes[j]=a at hx hok
   have hc:=Mfz m (deep hn (by decide)) a hok
   simp only[go_sem]at hc
   have step:BOz t.Inodes t.Next j=true→∀i,i<j+1→BOz t.Inodes t.Next i=true:=fun e i hi=>by
    rcases Nat.lt_succ_iff_lt_or_eq.1 hi with h|h
    ·exact hp i h
    ·subst h;exact e
   have bad:BOz t.Inodes t.Next j=false→tabS t=false:=fun e=>by
    have:Cbz t=false:=by unfold Cbz;rw[C8z hlt e]
    unfold tabS;simp[this]
   cases d1:Atz a with
   |false=>
    rw[bad (MKz hx d1)]
    simp only[go_sem,Nat.reduceLT,Nat.reduceAdd,Nat.reduceSub,Nat.reduceEqDiff,Nat.reduceLeDiff,Int.reduceEq,Int.reduceBEq,Int.reduceBNe,Int.reduceNeg,UInt8.reduceToNat,h1,hx,hc,d1]<;>exact chk1 (by kernel_rfl)
   |true=>
    by_cases d2:a.Ino≥t.Next
    ·rw[bad (MJz hx d2)]
     simp only[go_sem,Nat.reduceLT,Nat.reduceAdd,Nat.reduceSub,Nat.reduceEqDiff,Nat.reduceLeDiff,Int.reduceEq,Int.reduceBEq,Int.reduceBNe,Int.reduceNeg,UInt8.reduceToNat,h1,hx,hc,d1,d2]<;>exact chk1 (by kernel_rfl)
    ·by_cases h0:j=0
     ·have e:=Iwz (next:=t.Next) hx h0
      rw[d1,decide_eq_false d2]at e
      have hgt:¬((j:Int)>0):=by omega
      simp only[go_sem,Nat.reduceLT,Nat.reduceAdd,Nat.reduceSub,Nat.reduceEqDiff,Nat.reduceLeDiff,Int.reduceEq,Int.reduceBEq,Int.reduceBNe,Int.reduceNeg,UInt8.reduceToNat,h1,hx,hc,d1,d2,hgt,ACz hlt (by omega)]
      exact chk (by kernel_rfl) ⟨_,by omega,j+1,hlt,rfl,step e,rfl⟩
     ·have hgt:((j:Int)>0):=by omega
      have hy:t.Inodes[j - 1]? =some t.Inodes[j - 1]:=List.getElem?_eq_getElem (by omega)
      generalize t.Inodes[j - 1]=y at hy
      have e:=Ivz (next:=t.Next) hx h0 hy
      rw[d1,decide_eq_false d2]at e
      obtain⟨j',hj'⟩:∃j',j'=j - 1:=⟨_,rfl⟩
      rw[←hj']at hy
      have ws:IntKind.i64.wrap ((j:Int) - 1)=(j':Int):=by rw[AYz (by omega) (by omega)];omega
      by_cases d3:y.Ino≥a.Ino
      ·rw[bad (by rw[e,decide_eq_true d3];rfl)]
       simp only[go_sem,Nat.reduceLT,Nat.reduceAdd,Nat.reduceSub,Nat.reduceEqDiff,Nat.reduceLeDiff,Int.reduceEq,Int.reduceBEq,Int.reduceBNe,Int.reduceNeg,UInt8.reduceToNat,h1,hx,hc,d1,d2,hgt,ws,hy,d3,ACz hlt (by omega)]<;>exact chk1 (by kernel_rfl)
      ·have e':BOz t.Inodes t.Next j=true:=by rw[e,decide_eq_false d3];rfl
       simp only[go_sem,Nat.reduceLT,Nat.reduceAdd,Nat.reduceSub,Nat.reduceEqDiff,Nat.reduceLeDiff,Int.reduceEq,Int.reduceBEq,Int.reduceBNe,Int.reduceNeg,UInt8.reduceToNat,h1,hx,hc,d1,d2,hgt,ws,hy,d3,ACz hlt (by omega)]
       exact chk (by kernel_rfl) ⟨_,by omega,j+1,hlt,rfl,step e',rfl⟩
  ·have h1:¬((j:Int)<(t.Inodes.length:Int)):=by omega
   obtain rfl:j=t.Inodes.length:=by omega
   have be:Cbz t=true:=by unfold Cbz;exact Ckz hp
   have e:tabS t=JQz t:=by unfold tabS;rw[b1',b2',be];simp
   rw[e]
   have hlen:0<t.Inodes.length:=by
    simp only[Bool.and_eq_true,decide_eq_true_eq]at b1;omega
   have hx:t.Inodes[0]? =some t.Inodes[0]:=List.getElem?_eq_getElem hlen
   unfold JQz
   generalize t.Inodes[0]=a at hx
   rw[hx]
   cases d:(a.Ino==1)<;>simp only[go_sem,Nat.reduceLT,Nat.reduceAdd,Nat.reduceSub,Nat.reduceEqDiff,Nat.reduceLeDiff,Int.reduceEq,Int.reduceBEq,Int.reduceBNe,Int.reduceNeg,UInt8.reduceToNat,h1,hx,d]
theorem C7z {n:Nat} {p:Nat→Bool} (h:allB n p=true) {i:Nat} (hi:i<n):p i=true:=by
 unfold allB at h
 rw[List.all_eq_true]at h
 exact h i (List.mem_range.2 hi)
theorem MIz {l:List TInode} {next:Int} (h:allB l.length (BOz l next)=true):∀(i:Nat) (x:TInode),l[i]? =some x→x.Ino≥(i:Int)+1
 |0,x,hx=>by
  have hi:=(List.getElem?_eq_some_iff.1 hx).1
  have h1:=C7z h hi
  rw[Iwz hx rfl]at h1
  have h2:Atz x=true:=by
   cases e:Atz x with
   |true=>rfl
   |false=>rw[e]at h1;simp at h1
  unfold Atz inB at h2
  simp only[Bool.and_eq_true,decide_eq_true_eq]at h2
  have:=h2.1.1.1.1.1.1
  omega
 |i+1,x,hx=>by
  have hi:=(List.getElem?_eq_some_iff.1 hx).1
  have hy:l[i]? =some l[i]:=List.getElem?_eq_getElem (by omega)
  have ih:=MIz h i _ hy
  have h1:=C7z h hi
  rw[Ivz hx (by omega) hy]at h1
  simp only[Bool.and_eq_true,Bool.not_eq_true',decide_eq_false_iff_not]at h1
  have:=h1.2
  omega
theorem Unz (t:TTab):tabI t=tabS t:=by
 unfold tabI tabS
 cases hn:Cbz t with
 |false=>simp
 |true=>
  unfold Cbz at hn
  have hlow:=MIz hn
  cases hl:t.Inodes with
  |nil=>
   have:E5z t=false:=by unfold E5z;rw[hl];rfl
   rw[this]
   simp[inB]
  |cons a l=>
   have h1:inB ((a::l).length:Nat) 1 30= !(decide (((a::l).length:Int)>30)):=by
    unfold inB
    rw[show decide (((a::l).length:Int)≥1)=true from decide_eq_true (by simp only[List.length_cons];omega),Bool.true_and]
    by_cases h:((a::l).length:Int)≤30
    ·rw[decide_eq_true h,decide_eq_false (by omega)];rfl
    ·rw[decide_eq_false h,decide_eq_true (by omega)];rfl
   have h2:E5z t=JQz t:=by
    unfold E5z JQz
    rw[hl]
    simp only[List.getElem?_cons_zero]
    cases ha:(a.Ino==1)with
    |true=>simp[ha]
    |false=>
     have:l.find? (fun x=>x.Ino==1)=none:=by
      rw[List.find?_eq_none]
      intro x hx hc
      obtain⟨i,hi⟩:=List.getElem?_of_mem hx
      have:=hlow (i+1) x (by rw[hl];simpa using hi)
      have hc':x.Ino=1:=by simpa using hc
      omega
     simp[ha,this]
   rw[h1,h2]
end Go.Proofs.YtblelojdboefjaaGreatDoor.R
namespace Go.Proofs.YtblelojdboefjaaGreatDoor.R
open Go
def Drz (es:List TEnt) (k:Int):Nat:=es.countP fun e=>e.Ino==k
def Dqz (x:TInode) (k:Int):Nat:=match x.Kind==2 with
 |true=>Drz x.Ents k
 |false=>0
def BFz (l:List TInode) (k:Int):Nat:=(l.map fun x=>Dqz x k).sum
theorem Ihz {es:List TEnt} {k:Int} {i:Nat} {e:TEnt} (h:es[i]? =some e):Drz (es.take (i+1)) k=Drz (es.take i) k+(if(e.Ino==k)=true then 1 else 0):=by
 unfold Drz
 rw[List.take_add_one,h,List.countP_append]
 simp[List.countP_cons]
theorem Igz {l:List TInode} {k:Int} {j:Nat} {a:TInode} (h:l[j]? =some a):BFz (l.take (j+1)) k=BFz (l.take j) k+Dqz a k:=by
 unfold BFz
 rw[List.take_add_one,h]
 simp
theorem F1z (es:List TEnt) (k:Int):Drz es k≤es.length:=List.countP_le_length
theorem I0z {a:TInode} {k:Int} (h:(a.Kind==2)=true):Dqz a k=Drz a.Ents k:=by unfold Dqz;rw[h]
theorem MTz {a:TInode} {k:Int} (h:(a.Kind==2)=false):Dqz a k=0:=by unfold Dqz;rw[h]
set_option maxHeartbeats 4000000 in
theorem MVz (n:Nat) (hn:Big+2≤n) (t:TTab) (ht:t.ok) (k:Int):pcall env n 118 [.c .agg (t.pv.map ASz),pvSV (.i .i64 k)] []=some ⟨pvSV (.i .i64 (BFz t.Inodes k:Nat)),[]⟩:=by
 obtain⟨m,rfl⟩:=AFz hn
 have hB:=AXz
 have hbd:Bd=1048576:=rfl
 have hl:=ht.Inodes.2
 have ho:=ht.Inodes.1
 refine ARz (ADz (fn:=Tryz.f118) rfl rfl rfl (Nat.le_of_ble_eq_true rfl) ?_)
 unfold Tryz.f118
 simp only[go_sem,Nat.reduceLT,Nat.reduceAdd,Nat.reduceSub,Nat.reduceEqDiff,Nat.reduceLeDiff,Int.reduceEq,Int.reduceBEq,Int.reduceBNe,Int.reduceNeg,UInt8.reduceToNat]
 refine AGz (fun r σ=>∃j c:Nat,j≤t.Inodes.length∧r=t.Inodes.length - j∧c=BFz (t.Inodes.take j) k∧c≤j*1048576∧σ=slots 36 [(1,.c .one [.sh false (.i .i64 k)]),(2,.c .box [.sh true (.s 6 (t.Inodes.map TInode.pv)),.sh false (.i .i64 t.Next)]),(5,.c .one [.sh false (.i .i64 (c:Nat))]),(11,.c .one [.sh true (.s 6 (t.Inodes.map TInode.pv))]),(12,.c .one [.sh false (.i .i64 (t.Inodes.length:Nat))]),(13,.c .one [.sh false (.i .i64 (j:Nat))])]) t.Inodes.length (by omega) ?_ ?_
 ·simp only[go_sem,Nat.reduceLT,Nat.reduceAdd,Nat.reduceSub,Nat.reduceEqDiff,Nat.reduceLeDiff,Int.reduceEq,Int.reduceBEq,Int.reduceBNe,Int.reduceNeg,UInt8.reduceToNat]
  exact⟨0,0,Nat.zero_le _,rfl,rfl,Nat.zero_le _,rfl⟩
 ·rintro r σ ⟨j,c,hj,rfl,hc,hcb,rfl⟩
  by_cases hlt:j<t.Inodes.length
  ·have h1:((j:Int)<(t.Inodes.length:Int)):=by omega
   have hx:t.Inodes[j]? =some t.Inodes[j]:=List.getElem?_eq_getElem hlt
   have hok:=ho _ (List.getElem_mem hlt)
   generalize t.Inodes[j]=a at hx hok
   have hs:=Igz (k:=k) hx
   rw[←hc]at hs
   cases hk:(a.Kind==2)with
   |false=>
    rw[MTz hk]at hs
    have hk':(a.Kind !=2)=true:=by unfold bne;rw[hk];rfl
    simp only[go_sem,Nat.reduceLT,Nat.reduceAdd,Nat.reduceSub,Nat.reduceEqDiff,Nat.reduceLeDiff,Int.reduceEq,Int.reduceBEq,Int.reduceBNe,Int.reduceNeg,UInt8.reduceToNat,h1,hx,hk',ACz hlt (by omega)]
    exact⟨_,by omega,j+1,c,hlt,rfl,by omega,Nat.le_trans hcb (Nat.mul_le_mul_right _ (Nat.le_succ j)),rfl⟩
   |true=>
    rw[I0z hk]at hs
    have hel:=hok.Ents.2
    have hk':(a.Kind !=2)=false:=by unfold bne;rw[hk];rfl
    simp only[go_sem,Nat.reduceLT,Nat.reduceAdd,Nat.reduceSub,Nat.reduceEqDiff,Nat.reduceLeDiff,Int.reduceEq,Int.reduceBEq,Int.reduceBNe,Int.reduceNeg,UInt8.reduceToNat,h1,hx,hk']
    refine AGz (fun r σ=>∃i d:Nat,i≤a.Ents.length∧r=a.Ents.length - i∧d=c+Drz (a.Ents.take i) k∧σ=slots 36 [(1,.c .one [.sh false (.i .i64 k)]),(2,.c .box [.sh true (.s 6 (t.Inodes.map TInode.pv)),.sh false (.i .i64 t.Next)]),(5,.c .one [.sh false (.i .i64 (d:Nat))]),(7,.c .box [.sh false (.i .i64 a.Ino),.sh false (.i .i64 a.Kind),.sh false (.i .i64 a.Links),.sh true (.s 1 (a.Data.map bpv)),.sh true (.s 2 (a.Ents.map TEnt.pv)),.sh true (.s 2 (a.Attrs.map TAttr.pv))]),(11,.c .one [.sh true (.s 6 (t.Inodes.map TInode.pv))]),(12,.c .one [.sh false (.i .i64 (t.Inodes.length:Nat))]),(13,.c .one [.sh false (.i .i64 (j:Nat))]),(21,.c .one [.sh true (.s 2 (a.Ents.map TEnt.pv))]),(22,.c .one [.sh false (.i .i64 (a.Ents.length:Nat))]),(23,.c .one [.sh false (.i .i64 (i:Nat))])]) a.Ents.length (by omega) ?_ ?_
    ·simp only[go_sem,Nat.reduceLT,Nat.reduceAdd,Nat.reduceSub,Nat.reduceEqDiff,Nat.reduceLeDiff,Int.reduceEq,Int.reduceBEq,Int.reduceBNe,Int.reduceNeg,UInt8.reduceToNat]
     exact⟨0,c,Nat.zero_le _,rfl,rfl,rfl⟩
    ·rintro r σ ⟨i,d,hi,rfl,hd,rfl⟩
     have hdb:=F1z (a.Ents.take i) k
     rw[List.length_take]at hdb
     by_cases hlt2:i<a.Ents.length
     ·have h2:((i:Int)<(a.Ents.length:Int)):=by omega
      have hy:a.Ents[i]? =some a.Ents[i]:=List.getElem?_eq_getElem hlt2
      generalize a.Ents[i]=e at hy
      have he:=Ihz (k:=k) hy
      cases hq:(e.Ino==k)with
      |true=>
       rw[hq,if_pos rfl]at he
       have wd:IntKind.i64.wrap ((d:Int)+1)=((d+1:Nat):Int):=by rw[AYz (by omega) (by omega)];omega
       simp only[go_sem,Nat.reduceLT,Nat.reduceAdd,Nat.reduceSub,Nat.reduceEqDiff,Nat.reduceLeDiff,Int.reduceEq,Int.reduceBEq,Int.reduceBNe,Int.reduceNeg,UInt8.reduceToNat,h2,hy,hq,wd,ACz hlt2 (by omega)]
       exact⟨_,by omega,i+1,d+1,hlt2,rfl,by omega,rfl⟩
      |false=>
       rw[hq,if_neg (by decide)]at he
       simp only[go_sem,Nat.reduceLT,Nat.reduceAdd,Nat.reduceSub,Nat.reduceEqDiff,Nat.reduceLeDiff,Int.reduceEq,Int.reduceBEq,Int.reduceBNe,Int.reduceNeg,UInt8.reduceToNat,h2,hy,hq,ACz hlt2 (by omega)]
       exact⟨_,by omega,i+1,d,hlt2,rfl,by omega,rfl⟩
     ·have h2:¬((i:Int)<(a.Ents.length:Int)):=by omega
      obtain rfl:i=a.Ents.length:=by omega
      rw[List.take_length]at hd
      have hle:=F1z a.Ents k
      simp only[go_sem,Nat.reduceLT,Nat.reduceAdd,Nat.reduceSub,Nat.reduceEqDiff,Nat.reduceLeDiff,Int.reduceEq,Int.reduceBEq,Int.reduceBNe,Int.reduceNeg,UInt8.reduceToNat,h2,ACz hlt (by omega)]
      exact⟨_,by omega,j+1,d,hlt,rfl,by rw[hs];exact hd,by omega,rfl⟩
  ·have h1:¬((j:Int)<(t.Inodes.length:Int)):=by omega
   obtain rfl:j=t.Inodes.length:=by omega
   rw[List.take_length]at hc
   rw[←hc]
   simp only[go_sem,Nat.reduceLT,Nat.reduceAdd,Nat.reduceSub,Nat.reduceEqDiff,Nat.reduceLeDiff,Int.reduceEq,Int.reduceBEq,Int.reduceBNe,Int.reduceNeg,UInt8.reduceToNat,h1]
set_option maxHeartbeats 4000000 in
theorem MUz (n:Nat) (hn:Big+2≤n) (t:TTab) (ht:t.ok) (k:Int):pcall env n 107 [.c .agg (t.pv.map ASz),pvSV (.i .i64 k)] []=some ⟨pvSV (.i .i64 (BFz t.Inodes k:Nat)),[]⟩:=by
 obtain⟨m,rfl⟩:=AFz hn
 have hB:=AXz
 have hbd:Bd=1048576:=rfl
 have hl:=ht.Inodes.2
 have ho:=ht.Inodes.1
 refine ARz (ADz (fn:=Tryz.f107) rfl rfl rfl (Nat.le_of_ble_eq_true rfl) ?_)
 unfold Tryz.f107
 simp only[go_sem,Nat.reduceLT,Nat.reduceAdd,Nat.reduceSub,Nat.reduceEqDiff,Nat.reduceLeDiff,Int.reduceEq,Int.reduceBEq,Int.reduceBNe,Int.reduceNeg,UInt8.reduceToNat]
 refine AGz (fun r σ=>∃j c:Nat,j≤t.Inodes.length∧r=t.Inodes.length - j∧c=BFz (t.Inodes.take j) k∧c≤j*1048576∧σ=slots 50 [(1,.c .one [.sh false (.i .i64 k)]),(2,.c .box [.sh true (.s 6 (t.Inodes.map TInode.pv)),.sh false (.i .i64 t.Next)]),(5,.c .one [.sh false (.i .i64 (c:Nat))]),(6,.c .one [.sh false (.i .i64 (j:Nat))])]) t.Inodes.length (by omega) ?_ ?_
 ·simp only[go_sem,Nat.reduceLT,Nat.reduceAdd,Nat.reduceSub,Nat.reduceEqDiff,Nat.reduceLeDiff,Int.reduceEq,Int.reduceBEq,Int.reduceBNe,Int.reduceNeg,UInt8.reduceToNat]
  exact⟨0,0,Nat.zero_le _,rfl,rfl,Nat.zero_le _,rfl⟩
 ·rintro r σ ⟨j,c,hj,rfl,hc,hcb,rfl⟩
  by_cases hlt:j<t.Inodes.length
  ·have h1:((j:Int)<(t.Inodes.length:Int)):=by omega
   have hx:t.Inodes[j]? =some t.Inodes[j]:=List.getElem?_eq_getElem hlt
   have hok:=ho _ (List.getElem_mem hlt)
   generalize t.Inodes[j]=a at hx hok
   have hs:=Igz (k:=k) hx
   rw[←hc]at hs
   have hel:=hok.Ents.2
   simp only[go_sem,Nat.reduceLT,Nat.reduceAdd,Nat.reduceSub,Nat.reduceEqDiff,Nat.reduceLeDiff,Int.reduceEq,Int.reduceBEq,Int.reduceBNe,Int.reduceNeg,UInt8.reduceToNat,h1]
   refine AGz (fun r σ=>∃i d:Nat,i≤a.Ents.length∧((a.Kind==2)=false→i=0)∧r=a.Ents.length - i∧d=c+Drz (a.Ents.take i) k∧σ=slots 50 [(1,.c .one [.sh false (.i .i64 k)]),(2,.c .box [.sh true (.s 6 (t.Inodes.map TInode.pv)),.sh false (.i .i64 t.Next)]),(5,.c .one [.sh false (.i .i64 (d:Nat))]),(6,.c .one [.sh false (.i .i64 (j:Nat))]),(7,.c .one [.sh false (.i .i64 (i:Nat))])]) a.Ents.length (by omega) ?_ ?_
   ·simp only[go_sem,Nat.reduceLT,Nat.reduceAdd,Nat.reduceSub,Nat.reduceEqDiff,Nat.reduceLeDiff,Int.reduceEq,Int.reduceBEq,Int.reduceBNe,Int.reduceNeg,UInt8.reduceToNat]
    exact⟨0,c,Nat.zero_le _,fun _=>rfl,rfl,rfl,rfl⟩
   ·rintro r σ ⟨i,d,hi,hi0,rfl,hd,rfl⟩
    have hdb:=F1z (a.Ents.take i) k
    rw[List.length_take]at hdb
    cases hk:(a.Kind==2)with
    |false=>
     have:=hi0 hk
     subst this
     rw[MTz hk]at hs
     have hd':d=c:=hd
     subst hd'
     by_cases h2:(0:Int)<(a.Ents.length:Int)
     ·simp only[go_sem,Nat.reduceLT,Nat.reduceAdd,Nat.reduceSub,Nat.reduceEqDiff,Nat.reduceLeDiff,Int.reduceEq,Int.reduceBEq,Int.reduceBNe,Int.reduceNeg,UInt8.reduceToNat,h2,hx,hk,ACz hlt (by omega)]
      exact⟨_,by omega,j+1,d,hlt,rfl,by omega,Nat.le_trans hcb (Nat.mul_le_mul_right _ (Nat.le_succ j)),rfl⟩
     ·simp only[go_sem,Nat.reduceLT,Nat.reduceAdd,Nat.reduceSub,Nat.reduceEqDiff,Nat.reduceLeDiff,Int.reduceEq,Int.reduceBEq,Int.reduceBNe,Int.reduceNeg,UInt8.reduceToNat,h2,hx,hk,ACz hlt (by omega)]
      exact⟨_,by omega,j+1,d,hlt,rfl,by omega,Nat.le_trans hcb (Nat.mul_le_mul_right _ (Nat.le_succ j)),rfl⟩
    |true=>
     rw[I0z hk]at hs
     by_cases hlt2:i<a.Ents.length
     ·have h2:((i:Int)<(a.Ents.length:Int)):=by omega
      have hy:a.Ents[i]? =some a.Ents[i]:=List.getElem?_eq_getElem hlt2
      generalize a.Ents[i]=e at hy
      have he:=Ihz (k:=k) hy
      cases hq:(e.Ino==k)with
      |true=>
       rw[hq,if_pos rfl]at he
       have wd:IntKind.i64.wrap ((d:Int)+1)=((d+1:Nat):Int):=by rw[AYz (by omega) (by omega)];omega
       simp only[go_sem,Nat.reduceLT,Nat.reduceAdd,Nat.reduceSub,Nat.reduceEqDiff,Nat.reduceLeDiff,Int.reduceEq,Int.reduceBEq,Int.reduceBNe,Int.reduceNeg,UInt8.reduceToNat,h2,hx,hk,hy,hq,wd,ACz hlt2 (by omega)]
       exact⟨_,by omega,i+1,d+1,hlt2,fun h=>by simp[hk]at h,rfl,by omega,rfl⟩
      |false=>
       rw[hq,if_neg (by decide)]at he
       simp only[go_sem,Nat.reduceLT,Nat.reduceAdd,Nat.reduceSub,Nat.reduceEqDiff,Nat.reduceLeDiff,Int.reduceEq,Int.reduceBEq,Int.reduceBNe,Int.reduceNeg,UInt8.reduceToNat,h2,hx,hk,hy,hq,ACz hlt2 (by omega)]
       exact⟨_,by omega,i+1,d,hlt2,fun h=>by simp[hk]at h,rfl,by omega,rfl⟩
     ·have h2:¬((i:Int)<(a.Ents.length:Int)):=by omega
      obtain rfl:i=a.Ents.length:=by omega
      rw[List.take_length]at hd
      have hle:=F1z a.Ents k
      simp only[go_sem,Nat.reduceLT,Nat.reduceAdd,Nat.reduceSub,Nat.reduceEqDiff,Nat.reduceLeDiff,Int.reduceEq,Int.reduceBEq,Int.reduceBNe,Int.reduceNeg,UInt8.reduceToNat,h2,hx,hk,ACz hlt (by omega)]
      exact⟨_,by omega,j+1,d,hlt,rfl,by rw[hs];exact hd,by omega,rfl⟩
  ·have h1:¬((j:Int)<(t.Inodes.length:Int)):=by omega
   obtain rfl:j=t.Inodes.length:=by omega
   rw[List.take_length]at hc
   rw[←hc]
   simp only[go_sem,Nat.reduceLT,Nat.reduceAdd,Nat.reduceSub,Nat.reduceEqDiff,Nat.reduceLeDiff,Int.reduceEq,Int.reduceBEq,Int.reduceBNe,Int.reduceNeg,UInt8.reduceToNat,h1]
end Go.Proofs.YtblelojdboefjaaGreatDoor.R
namespace Go.Proofs.YtblelojdboefjaaGreatDoor.R
open Go
def hasB (l:List Int) (k:Int):Bool:=l.any fun x=>x==k
theorem Mmz {l:List Int} {k a:Int} {j:Nat} (hx:l[j]? =some a) (h:(a==k)=true):hasB l k=true:=List.any_eq_true.2 ⟨a,List.mem_of_getElem? hx,h⟩
theorem LLz {l:List Int} {k:Int} (h:∀(i:Nat) (y:Int),i<l.length→l[i]? =some y→(y==k)=false):hasB l k=false:=by
 unfold hasB
 rw[List.any_eq_false]
 intro y hy
 obtain⟨i,hi⟩:=List.getElem?_of_mem hy
 rw[h i y (List.getElem?_eq_some_iff.1 hi).1 hi]
 decide
set_option maxHeartbeats 1000000 in
theorem SJz (n:Nat) (hn:Big+2≤n) (l:List Int) (hl:l.length≤4398046511104) (k:Int):pcall env n 264 [.c .one [.sh true (.s 1 (l.map ipv))],pvSV (.i .i64 k)] []=some ⟨pvSV (.b (hasB l k)),[]⟩:=by
 obtain⟨m,rfl⟩:=AFz hn
 have hB:=AXz
 have hB2:4398046511104<Big:=by decide
 have hbd:Bd=1048576:=rfl
 refine ARz (ADz (fn:=Tryz.f264) rfl rfl rfl (Nat.le_of_ble_eq_true rfl) ?_)
 unfold Tryz.f264
 simp only[go_sem,Nat.reduceLT,Nat.reduceAdd,Nat.reduceSub,Nat.reduceEqDiff,Nat.reduceLeDiff,Int.reduceEq,Int.reduceBEq,Int.reduceBNe,Int.reduceNeg,UInt8.reduceToNat]
 refine AGz (fun r σ=>∃j:Nat,j≤l.length∧r=l.length - j∧(∀(i:Nat) (y:Int),i<j→l[i]? =some y→(y==k)=false)∧σ=slots 18 [(0,.c .one [.sh true (.s 1 (l.map ipv))]),(1,.c .one [.sh false (.i .i64 k)]),(5,.c .one [.sh false (.i .i64 (j:Nat))])]) l.length (by omega) ?_ ?_
 ·simp only[go_sem,Nat.reduceLT,Nat.reduceAdd,Nat.reduceSub,Nat.reduceEqDiff,Nat.reduceLeDiff,Int.reduceEq,Int.reduceBEq,Int.reduceBNe,Int.reduceNeg,UInt8.reduceToNat]
  exact⟨0,Nat.zero_le _,rfl,fun i y hi=>absurd hi (Nat.not_lt_zero _),rfl⟩
 ·rintro r σ ⟨j,hj,rfl,hp,rfl⟩
  by_cases hlt:j<l.length
  ·have h1:((j:Int)<(l.length:Int)):=by omega
   have hx:l[j]? =some l[j]:=List.getElem?_eq_getElem hlt
   generalize l[j]=a at hx
   cases ha:(a==k)with
   |true=>
    rw[Mmz hx ha]
    simp only[go_sem,Nat.reduceLT,Nat.reduceAdd,Nat.reduceSub,Nat.reduceEqDiff,Nat.reduceLeDiff,Int.reduceEq,Int.reduceBEq,Int.reduceBNe,Int.reduceNeg,UInt8.reduceToNat,h1,hx,ha,ipv]
   |false=>
    simp only[go_sem,Nat.reduceLT,Nat.reduceAdd,Nat.reduceSub,Nat.reduceEqDiff,Nat.reduceLeDiff,Int.reduceEq,Int.reduceBEq,Int.reduceBNe,Int.reduceNeg,UInt8.reduceToNat,h1,hx,ha,ipv,ACz hlt (by omega)]
    refine⟨_,by omega,j+1,hlt,rfl,fun i y hi hy=> ?_,rfl⟩
    rcases Nat.lt_succ_iff_lt_or_eq.1 hi with h|h
    ·exact hp i y h hy
    ·subst h;rw[hx]at hy;injection hy with hy;subst hy;exact ha
  ·have h1:¬((j:Int)<(l.length:Int)):=by omega
   obtain rfl:j=l.length:=by omega
   rw[LLz hp]
   simp only[go_sem,Nat.reduceLT,Nat.reduceAdd,Nat.reduceSub,Nat.reduceEqDiff,Nat.reduceLeDiff,Int.reduceEq,Int.reduceBEq,Int.reduceBNe,Int.reduceNeg,UInt8.reduceToNat,h1]
set_option maxHeartbeats 1000000 in
theorem Nlz (n:Nat) (hn:Big+2≤n) (l:List Int) (hl:l.length≤4398046511104) (k:Int):∃v:Int,decide (v≥0)=hasB l k∧pcall env n 243 [.c .one [.sh true (.s 1 (l.map ipv))],pvSV (.i .i64 k)] []=some ⟨pvSV (.i .i64 v),[]⟩:=by
 obtain⟨m,rfl⟩:=AFz hn
 have hB:=AXz
 have hB2:4398046511104<Big:=by decide
 have hbd:Bd=1048576:=rfl
 suffices h: @Wq _ (pcall env (m+1) 243 [.c .one [.sh true (.s 1 (l.map ipv))],pvSV (.i .i64 k)] []) ⟨fun r=>∃v:Int,decide (v≥0)=hasB l k∧r=⟨pvSV (.i .i64 v),[]⟩⟩by
  obtain⟨r,h1,v,h2,h3⟩:=h;exact⟨v,h2,by rw[h1,h3]⟩
 refine ADz (fn:=Tryz.f243) rfl rfl rfl (Nat.le_of_ble_eq_true rfl) ?_
 unfold Tryz.f243
 simp only[go_sem,Nat.reduceLT,Nat.reduceAdd,Nat.reduceSub,Nat.reduceEqDiff,Nat.reduceLeDiff,Int.reduceEq,Int.reduceBEq,Int.reduceBNe,Int.reduceNeg,UInt8.reduceToNat]
 refine AGz (fun r σ=>∃j:Nat,j≤l.length∧r=l.length - j∧(∀(i:Nat) (y:Int),i<j→l[i]? =some y→(y==k)=false)∧σ=slots 19 [(0,.c .one [.sh true (.s 1 (l.map ipv))]),(1,.c .one [.sh false (.i .i64 k)]),(7,.c .one [.sh false (.i .i64 (l.length:Nat))]),(8,.c .one [.sh false (.i .i64 (j:Nat))])]) l.length (by omega) ?_ ?_
 ·simp only[go_sem,Nat.reduceLT,Nat.reduceAdd,Nat.reduceSub,Nat.reduceEqDiff,Nat.reduceLeDiff,Int.reduceEq,Int.reduceBEq,Int.reduceBNe,Int.reduceNeg,UInt8.reduceToNat]
  exact⟨0,Nat.zero_le _,rfl,fun i y hi=>absurd hi (Nat.not_lt_zero _),rfl⟩
 ·rintro r σ ⟨j,hj,rfl,hp,rfl⟩
  by_cases hlt:j<l.length
  ·have h1:((j:Int)<(l.length:Int)):=by omega
   have hx:l[j]? =some l[j]:=List.getElem?_eq_getElem hlt
   generalize l[j]=a at hx
   cases ha:(a==k)with
   |true=>
    have ha':(k==a)=true:=by rw[BEq.comm];exact ha
    rw[Mmz hx ha]
    simp only[go_sem,Nat.reduceLT,Nat.reduceAdd,Nat.reduceSub,Nat.reduceEqDiff,Nat.reduceLeDiff,Int.reduceEq,Int.reduceBEq,Int.reduceBNe,Int.reduceNeg,UInt8.reduceToNat,h1,hx,ha',ipv]
    exact⟨_,by simp,rfl⟩
   |false=>
    have ha':(k==a)=false:=by rw[BEq.comm];exact ha
    simp only[go_sem,Nat.reduceLT,Nat.reduceAdd,Nat.reduceSub,Nat.reduceEqDiff,Nat.reduceLeDiff,Int.reduceEq,Int.reduceBEq,Int.reduceBNe,Int.reduceNeg,UInt8.reduceToNat,h1,hx,ha',ipv,ACz hlt (by omega)]
    refine⟨_,by omega,j+1,hlt,rfl,fun i y hi hy=> ?_,rfl⟩
    rcases Nat.lt_succ_iff_lt_or_eq.1 hi with h|h
    ·exact hp i y h hy
    ·subst h;rw[hx]at hy;injection hy with hy;subst hy;exact ha
  ·have h1:¬((j:Int)<(l.length:Int)):=by omega
   obtain rfl:j=l.length:=by omega
   rw[LLz hp]
   simp only[go_sem,Nat.reduceLT,Nat.reduceAdd,Nat.reduceSub,Nat.reduceEqDiff,Nat.reduceLeDiff,Int.reduceEq,Int.reduceBEq,Int.reduceBNe,Int.reduceNeg,UInt8.reduceToNat,h1]
   exact⟨_,by simp,rfl⟩
theorem Kjz (n:Nat) (hn:Big+3≤n) (l:List Int) (hl:l.length≤4398046511104) (k:Int):pcall env n 196 [.c .one [.sh true (.s 1 (l.map ipv))],pvSV (.i .i64 k)] []=some ⟨pvSV (.b (hasB l k)),[]⟩:=by
 obtain⟨m,rfl⟩:=AFz hn
 obtain⟨v,hv,hc⟩:=Nlz m (deep hn (by decide)) l hl k
 simp only[go_sem]at hc
 rw[←hv]
 refine ARz (ADz (fn:=Tryz.f196) rfl rfl rfl (Nat.le_of_ble_eq_true rfl) ?_)
 unfold Tryz.f196
 simp only[go_sem,Nat.reduceLT,Nat.reduceAdd,Nat.reduceSub,Nat.reduceEqDiff,Nat.reduceLeDiff,Int.reduceEq,Int.reduceBEq,Int.reduceBNe,Int.reduceNeg,UInt8.reduceToNat,hc]
end Go.Proofs.YtblelojdboefjaaGreatDoor.R
namespace Go.Proofs.YtblelojdboefjaaGreatDoor.R
open Go
def AKz (l:List TInode) (k:Int):Option TInode:=l.find? fun x=>x.Ino==k
def B4z (x:TInode):List Int:=match x.Kind==2 with
 |true=>x.Ents.map (·.Ino)
 |false=>[]
inductive Rch (l:List TInode):Int→Prop
 |root:(AKz l 1).isSome=true→Rch l 1
 |step (a k:Int) (x:TInode):Rch l a→AKz l a=some x→k∈B4z x→(AKz l k).isSome=true→Rch l k
theorem Rch.placed {l:List TInode} {k:Int} (h:Rch l k):(AKz l k).isSome=true:=by
 cases h<;>assumption
structure Full (l:List TInode) (L:List Int):Prop where
 nd:L.Nodup
 mem:∀k,k∈L↔Rch l k
theorem Cuz {α:Type} [BEq α] [LawfulBEq α]:∀{L M:List α},L.Nodup→(∀a∈L,a∈M)→L.length≤M.length
 |[],_,_,_=>Nat.zero_le _
 |a::L,M,hn,hm=>by
  have ha:=hm a (by simp)
  have h2:L.length≤(M.erase a).length:=Cuz (List.nodup_cons.1 hn).2 fun b hb=>by
   refine(List.mem_erase_of_ne ?_).2 (hm b (by simp[hb]))
   rintro rfl
   exact(List.nodup_cons.1 hn).1 hb
  have h3:=List.length_erase_of_mem ha
  have h4:0<M.length:=List.length_pos_of_mem ha
  simp only[List.length_cons]
  omega
theorem Full.len {l:List TInode} {L M:List Int} (h:Full l L) (h':Full l M):L.length=M.length:=
 Nat.le_antisymm (Cuz h.nd fun a ha=>(h'.mem a).2 ((h.mem a).1 ha)) (Cuz h'.nd fun a ha=>(h.mem a).2 ((h'.mem a).1 ha))
theorem Full.perm {l:List TInode} {L M:List Int} (h:Full l L) (p:M.Perm L):Full l M:=
 ⟨p.nodup_iff.2 h.nd,fun k=>p.mem_iff.trans (h.mem k)⟩
theorem Gdz {l:List Int} {k:Int}:hasB l k=true↔k∈l:=by
 unfold hasB
 simp
theorem Ayz {l:List TInode} {k:Int} {x:TInode} (h:AKz l k=some x):x∈l∧x.Ino=k:=by
 unfold AKz at h
 exact⟨List.mem_of_find?_eq_some h,by simpa using List.find?_some h⟩
def remL (l:List TInode) (out:List Int):Nat:=(l.map fun x=>match hasB out x.Ino with
 |true=>0
 |false=>x.Ents.length).sum
theorem G9z {out:List Int} {k j:Int}:hasB (out++[k]) j=(hasB out j||k==j):=by
 unfold hasB;simp
theorem Uvz (l:List TInode) (out:List Int) (k:Int):remL l (out++[k])≤remL l out:=by
 unfold remL
 induction l with
 |nil=>exact Nat.le_refl _
 |cons x l ih=>
  simp only[List.map_cons,List.sum_cons,G9z]at ih ⊢
  cases hasB out x.Ino<;>cases k==x.Ino<;>simp<;>omega
theorem Uuz {l:List TInode} {out:List Int} {x:TInode} (hx:x∈l) (h:hasB out x.Ino=false):remL l (out++[x.Ino])+x.Ents.length≤remL l out:=by
 induction l with
 |nil=>simp at hx
 |cons y l ih=>
  have hle:=Uvz l out x.Ino
  unfold remL at hle ih ⊢
  simp only[List.map_cons,List.sum_cons,G9z]
  rcases List.mem_cons.1 hx with rfl|hx
  ·simp[h];simp only[G9z]at hle;omega
  ·have:=ih hx
   simp only[G9z]at this
   cases hasB out y.Ino<;>cases x.Ino==y.Ino<;>simp<;>omega
theorem Uwz {l:List TInode} {m:Nat} (h:∀x∈l,x.Ents.length≤m) (out:List Int):remL l out≤l.length*m:=by
 induction l with
 |nil=>simp[remL]
 |cons x l ih=>
  have h1:=ih fun y hy=>h y (by simp[hy])
  have h2:=h x (by simp)
  unfold remL at h1 ⊢
  simp only[List.map_cons,List.sum_cons,List.length_cons,Nat.succ_mul]
  cases hasB out x.Ino<;>simp<;>omega
structure Bfs (l:List TInode) (out next:List Int):Prop where
 nd:out.Nodup
 got:∀k∈out,Rch l k
 todo:∀k∈next,(AKz l k).isSome=true→Rch l k
 shut:∀a∈out,∀x,AKz l a=some x→∀k∈B4z x,(AKz l k).isSome=true→k∈out∨k∈next
 root:(AKz l 1).isSome=true→1∈out∨1∈next
theorem Bfs.start (l:List TInode):Bfs l [] [1]where
 nd:=List.nodup_nil
 got:=fun k h=>by simp at h
 todo:=fun k h hk=>by
  have:k=1:=by simpa using h
  subst this
  exact .root hk
 shut:=fun a h=>by simp at h
 root:=fun _=> .inr (by simp)
theorem Bfs.skip {l:List TInode} {out next:List Int} {k:Int} (h:Bfs l out (k::next)) (hk:(AKz l k).isSome=true→hasB out k=true):Bfs l out next where
 nd:=h.nd
 got:=h.got
 todo:=fun j hj hp=>h.todo j (by simp[hj]) hp
 shut:=fun a ha x hx j hj hp=>by
  rcases h.shut a ha x hx j hj hp with h1|h1
  ·exact .inl h1
  ·rcases List.mem_cons.1 h1 with rfl|h1
   ·exact .inl (Gdz.1 (hk hp))
   ·exact .inr h1
 root:=fun hp=>by
  rcases h.root hp with h1|h1
  ·exact .inl h1
  ·rcases List.mem_cons.1 h1 with h2|h1
   ·rw[←h2]at hk;exact .inl (Gdz.1 (hk hp))
   ·exact .inr h1
theorem Bfs.take {l:List TInode} {out next:List Int} {k:Int} {x:TInode} (h:Bfs l out (k::next)) (hx:AKz l k=some x) (hk:hasB out k=false):Bfs l (out++[k]) (next++B4z x):=by
 have hr:Rch l k:=h.todo k (by simp) (by rw[hx];rfl)
 have hnot:¬k∈out:=fun e=>by rw[Gdz.2 e]at hk;simp at hk
 refine⟨?_,?_,?_,?_,?_⟩
 ·rw[List.nodup_append]
  refine⟨h.nd,by simp,fun a ha b hb=> ?_⟩
  have:b=k:=by simpa using hb
  subst this
  rintro rfl
  exact hnot ha
 ·intro j hj
  rcases List.mem_append.1 hj with h1|h1
  ·exact h.got j h1
  ·have:j=k:=by simpa using h1
   subst this;exact hr
 ·intro j hj hp
  rcases List.mem_append.1 hj with h1|h1
  ·exact h.todo j (by simp[h1]) hp
  ·exact .step k j x hr hx h1 hp
 ·intro a ha y hy j hj hp
  rcases List.mem_append.1 ha with h1|h1
  ·rcases h.shut a h1 y hy j hj hp with h2|h2
   ·exact .inl (List.mem_append.2 (.inl h2))
   ·rcases List.mem_cons.1 h2 with rfl|h2
    ·exact .inl (List.mem_append.2 (.inr (by simp)))
    ·exact .inr (List.mem_append.2 (.inl h2))
  ·have:a=k:=by simpa using h1
   subst this
   rw[hx]at hy
   injection hy with hy;subst hy
   exact .inr (List.mem_append.2 (.inr hj))
 ·intro hp
  rcases h.root hp with h1|h1
  ·exact .inl (List.mem_append.2 (.inl h1))
  ·rcases List.mem_cons.1 h1 with h2|h1
   ·exact .inl (List.mem_append.2 (.inr (by simp[h2])))
   ·exact .inr (List.mem_append.2 (.inl h1))
theorem Bfs.full {l:List TInode} {out:List Int} (h:Bfs l out []):Full l out:=by
 refine⟨h.nd,fun k=>⟨h.got k,fun hr=> ?_⟩⟩
 induction hr with
 |root hp=>exact(h.root hp).resolve_right (by simp)
 |step a k x _ hx hk hp ih=>exact(h.shut a ih x hx k hk hp).resolve_right (by simp)
end Go.Proofs.YtblelojdboefjaaGreatDoor.R
namespace Go.Proofs.YtblelojdboefjaaGreatDoor.R
open Go
theorem Hdz (l:List Int):(DNz l).Perm l:=DEz _ l
theorem ITz (l:List Int):(DNz l).length=l.length:=(Hdz l).length_eq
theorem I2z:∀l:List Int,ints? (l.map ipv)=some l
 |[]=>rfl
 |n::l=>by simp[ints?,ipv,I2z l]
theorem EFz {α β:Type} {l:List α} {f:α→β}:(l.map f).take l.length=l.map f:=by
 rw[←List.length_map (f:=f),List.take_length]
structure Small (t:TTab):Prop where
 n:t.Inodes.length≤30
 e:∀x∈t.Inodes,x.Ents.length≤10
set_option maxHeartbeats 4000000 in
theorem KSz (n:Nat) (hn:Big+8≤n) (t:TTab) (ht:t.ok) (hs:Small t):∃L:List Int,Full t.Inodes L∧L.length≤1000∧pcall env n 117 [.c .agg (t.pv.map ASz)] []=some ⟨.c .one [.ow false 1 (L.map ipv)],[]⟩:=by
 obtain⟨m,rfl⟩:=AFz hn
 have hB:=AXz
 have hbd:Bd=1048576:=rfl
 have hl:=hs.n
 have hlim:LIM=70368744177664:=rfl
 suffices h: @Wq _ (pcall env (m+1) 117 [.c .agg (t.pv.map ASz)] []) ⟨fun r=>∃L:List Int,Full t.Inodes L∧L.length≤1000∧r=⟨.c .one [.ow false 1 (L.map ipv)],[]⟩⟩by
  obtain⟨r,h1,L,h2,h3,h4⟩:=h;exact⟨L,h2,h3,by rw[h1,h4]⟩
 refine ADz (fn:=Tryz.f117) rfl rfl rfl (Nat.le_of_ble_eq_true rfl) ?_
 unfold Tryz.f117
 simp only[go_sem,Nat.reduceLT,Nat.reduceAdd,Nat.reduceSub,Nat.reduceEqDiff,Nat.reduceLeDiff,Int.reduceEq,Int.reduceBEq,Int.reduceBNe,Int.reduceNeg,UInt8.reduceToNat,Nat.reduceBEq]
 refine AGz (fun r σ=>∃out next:List Int,Bfs t.Inodes out next∧next.length+remL t.Inodes out≤r∧out.length+next.length+remL t.Inodes out≤301∧σ=slots 56 [(1,.c .box [.sh true (.s 6 (t.Inodes.map TInode.pv)),.sh false (.i .i64 t.Next)]),(3,.c .one [.ow false 1 (out.map ipv)]),(4,.c .one [.ow false 1 (next.map ipv)])]) (301) (by omega) ?_ ?_
 ·simp only[go_sem,Nat.reduceLT,Nat.reduceAdd,Nat.reduceSub,Nat.reduceEqDiff,Nat.reduceLeDiff,Int.reduceEq,Int.reduceBEq,Int.reduceBNe,Int.reduceNeg,UInt8.reduceToNat,Nat.reduceBEq]
  refine⟨[],[1],.start _,?_,?_,rfl⟩<;>(have:=Uwz hs.e [];simp only[List.length_cons,List.length_nil]at this ⊢;omega)
 ·rintro r σ ⟨out,next,hb,hr,hsum,rfl⟩
  cases next with
  |nil=>
   simp only[List.length_nil]at hsum
   have hf:=hb.full
   by_cases hz:out.length=0
   ·simp only[go_sem,Nat.reduceLT,Nat.reduceAdd,Nat.reduceSub,Nat.reduceEqDiff,Nat.reduceLeDiff,Int.reduceEq,Int.reduceBEq,Int.reduceBNe,Int.reduceNeg,UInt8.reduceToNat,Nat.reduceBEq,sortIntOrc,I2z]
    refine BPz (by omega) ?_
    simp only[go_sem,Nat.reduceLT,Nat.reduceAdd,Nat.reduceSub,Nat.reduceEqDiff,Nat.reduceLeDiff,Int.reduceEq,Int.reduceBEq,Int.reduceBNe,Int.reduceNeg,UInt8.reduceToNat,Nat.reduceBEq,hz]
    exact⟨out,hf,by omega,rfl⟩
   ·simp only[go_sem,Nat.reduceLT,Nat.reduceAdd,Nat.reduceSub,Nat.reduceEqDiff,Nat.reduceLeDiff,Int.reduceEq,Int.reduceBEq,Int.reduceBNe,Int.reduceNeg,UInt8.reduceToNat,Nat.reduceBEq,sortIntOrc,I2z]
    refine BPz (by omega) ?_
    simp only[go_sem,Nat.reduceLT,Nat.reduceAdd,Nat.reduceSub,Nat.reduceEqDiff,Nat.reduceLeDiff,Int.reduceEq,Int.reduceBEq,Int.reduceBNe,Int.reduceNeg,UInt8.reduceToNat,Nat.reduceBEq,hz,ITz]
    exact⟨DNz out,hf.perm (Hdz out),by rw[ITz];omega,rfl⟩
  |cons k next=>
   have h1:((next.length+1:Nat):Int)>0:=by omega
   have hat:=Byz m (deep hn (by decide)) t ht k
   have hct:=Kjz m (deep hn (by decide)) out (by simp only[List.length_cons]at hsum;omega) k
   simp only[go_sem]at hat hct
   unfold atC at hat
   have h2:(1:Int)≤((next.length+1:Nat):Int):=by omega
   simp only[List.length_cons]at hr hsum
   cases hf:AKz t.Inodes k with
   |none=>
    have hf':=hf
    unfold AKz at hf
    rw[hf]at hat
    simp only[go_sem,Bpz]at hat
    simp only[go_sem,Nat.reduceLT,Nat.reduceAdd,Nat.reduceSub,Nat.reduceEqDiff,Nat.reduceLeDiff,Int.reduceEq,Int.reduceBEq,Int.reduceBNe,Int.reduceNeg,UInt8.reduceToNat,Nat.reduceBEq,h1,h2,hat,EFz,ipv]
    exact⟨r - 1,by omega,out,next,hb.skip (fun e=>by rw[hf']at e;simp at e),by omega,by omega,rfl⟩
   |some x=>
    have hf':=hf
    obtain⟨hmem,hino⟩:=Ayz hf
    have hel:=hs.e x hmem
    unfold AKz at hf
    rw[hf]at hat
    simp only[go_sem,BMz]at hat
    cases hh:hasB out k with
    |true=>
     simp only[go_sem,Nat.reduceLT,Nat.reduceAdd,Nat.reduceSub,Nat.reduceEqDiff,Nat.reduceLeDiff,Int.reduceEq,Int.reduceBEq,Int.reduceBNe,Int.reduceNeg,UInt8.reduceToNat,Nat.reduceBEq,h1,h2,hat,EFz,ipv,hct,hh]
     exact⟨r - 1,by omega,out,next,hb.skip (fun _=>hh),by omega,by omega,rfl⟩
    |false=>
     have hrem:=Uuz hmem (by rw[hino];exact hh)
     rw[hino]at hrem
     have hlm:(out.length+1)*8≤LIM:=by omega
     cases hk:(x.Kind==2)with
     |false=>
      have hkid:B4z x=[]:=by unfold B4z;rw[hk]
      have htk:=hb.take hf' hh
      rw[hkid,List.append_nil]at htk
      simp only[go_sem,Nat.reduceLT,Nat.reduceAdd,Nat.reduceSub,Nat.reduceEqDiff,Nat.reduceLeDiff,Int.reduceEq,Int.reduceBEq,Int.reduceBNe,Int.reduceNeg,UInt8.reduceToNat,Nat.reduceBEq,h1,h2,hat,EFz,ipv,hct,hh,hlm,hk]
      refine⟨r - 1,by omega,out++[k],next,htk,by omega,by simp only[List.length_append,List.length_cons,List.length_nil];omega,?_⟩
      rw[List.map_append];rfl
     |true=>
      have hkid:B4z x=x.Ents.map (·.Ino):=by unfold B4z;rw[hk]
      have htk:=hb.take hf' hh
      rw[hkid]at htk
      simp only[go_sem,Nat.reduceLT,Nat.reduceAdd,Nat.reduceSub,Nat.reduceEqDiff,Nat.reduceLeDiff,Int.reduceEq,Int.reduceBEq,Int.reduceBNe,Int.reduceNeg,UInt8.reduceToNat,Nat.reduceBEq,h1,h2,hat,EFz,ipv,hct,hh,hlm,hk]
      refine AGz (fun r' σ=>∃i:Nat,i≤x.Ents.length∧r'=x.Ents.length - i∧σ=slots 56 [(1,.c .box [.sh true (.s 6 (t.Inodes.map TInode.pv)),.sh false (.i .i64 t.Next)]),(3,.c .one [.ow false 1 (out.map ipv++[[.i .i64 k]])]),(4,.c .one [.ow false 1 ((next++(x.Ents.take i).map (·.Ino)).map ipv)]),(6,.c .box [.sh false (.i .i64 x.Ino),.sh false (.i .i64 x.Kind),.sh false (.i .i64 x.Links),.ow false 1 (x.Data.map bpv),.ow false 2 (x.Ents.map TEnt.pv),.ow false 2 (x.Attrs.map TAttr.pv)]),(41,.c .one [.br 6 4 [] 0 0 false 2 (x.Ents.map TEnt.pv)]),(42,.c .one [.sh false (.i .i64 (x.Ents.length:Nat))]),(43,.c .one [.sh false (.i .i64 (i:Nat))])]) x.Ents.length (by omega) ?_ ?_
      ·simp only[go_sem,Nat.reduceLT,Nat.reduceAdd,Nat.reduceSub,Nat.reduceEqDiff,Nat.reduceLeDiff,Int.reduceEq,Int.reduceBEq,Int.reduceBNe,Int.reduceNeg,UInt8.reduceToNat,Nat.reduceBEq]
       exact⟨0,Nat.zero_le _,rfl,by simp only[List.take_zero,List.map_nil,List.append_nil];rfl⟩
      ·rintro r' σ ⟨i,hi,rfl,rfl⟩
       by_cases hlt:i<x.Ents.length
       ·have h3:((i:Int)<(x.Ents.length:Int)):=by omega
        have hy:x.Ents[i]? =some x.Ents[i]:=List.getElem?_eq_getElem hlt
        generalize x.Ents[i]=e at hy
        have hlm2:(next.length+(x.Ents.take i).length+1)*8≤LIM:=by
         rw[List.length_take];omega
        simp only[go_sem,Nat.reduceLT,Nat.reduceAdd,Nat.reduceSub,Nat.reduceEqDiff,Nat.reduceLeDiff,Int.reduceEq,Int.reduceBEq,Int.reduceBNe,Int.reduceNeg,UInt8.reduceToNat,Nat.reduceBEq,h3,hy,hlm2,ACz hlt (by omega)]
        refine⟨_,by omega,i+1,hlt,rfl,?_⟩
        rw[List.take_add_one,hy]
        simp only[Option.toList_some,List.map_append,List.map_cons,List.map_nil,List.append_assoc,ipv]
       ·have h3:¬((i:Int)<(x.Ents.length:Int)):=by omega
        obtain rfl:i=x.Ents.length:=by omega
        rw[List.take_length]
        simp only[go_sem,Nat.reduceLT,Nat.reduceAdd,Nat.reduceSub,Nat.reduceEqDiff,Nat.reduceLeDiff,Int.reduceEq,Int.reduceBEq,Int.reduceBNe,Int.reduceNeg,UInt8.reduceToNat,Nat.reduceBEq,h3]
        refine⟨r - 1,by omega,out++[k],next++x.Ents.map (·.Ino),htk,?_,?_,?_⟩
        ·simp only[List.length_append,List.length_map];omega
        ·simp only[List.length_append,List.length_map,List.length_cons,List.length_nil];omega
        ·rw[List.map_append (l₁:=out)];rfl
end Go.Proofs.YtblelojdboefjaaGreatDoor.R
namespace Go.Proofs.YtblelojdboefjaaGreatDoor.R
open Go
def A2z {α:Type} (l:List α) (j:Nat) (z:α):List α:=l.take j++z::l.drop j
theorem G8z {α:Type} {l:List α} {j:Nat} {z:α} (h:j≤l.length):(A2z l j z).length=l.length+1:=by
 unfold A2z;simp;omega
theorem Mjz {α:Type} (l:List α) (z:α):A2z l l.length z=l++[z]:=by
 unfold A2z;simp
theorem Miz {α:Type} {l:List α} {j:Nat} {z:α} (h:j<l.length):(A2z l (j+1) z)[j]? =l[j]? :=by
 unfold A2z
 rw[List.getElem?_append_left (by rw[List.length_take];omega),List.getElem?_take_of_lt (Nat.lt_succ_self j)]
theorem OPz {α:Type} {l:List α} {j:Nat} {z:α} (h:j≤l.length):(A2z l j z)[j]? =some z:=by
 unfold A2z
 rw[List.getElem?_append_right (by rw[List.length_take];omega),List.length_take,Nat.min_eq_left h,Nat.sub_self]
 rfl
theorem G7z {α:Type} {l:List α} {j:Nat} {z y:α} (h:j≤l.length):(A2z l j z).set j y=A2z l j y:=by
 unfold A2z
 rw[List.set_append_right _ _ (by rw[List.length_take];omega),List.length_take,Nat.min_eq_left h,Nat.sub_self]
 rfl
theorem LKz {α:Type} {l:List α} {j:Nat} {a:α} (h:l[j]? =some a):A2z l (j+1) a=A2z l j a:=by
 obtain⟨hj,ha⟩:=List.getElem?_eq_some_iff.1 h
 unfold A2z
 rw[List.take_add_one,h]
 have:l.drop j=a::l.drop (j+1):=by rw[List.drop_eq_getElem_cons hj,ha]
 rw[this]
 simp
theorem LJz {α:Type} (l:List α) (j:Nat) (z:α):(A2z l j z).Perm (l++[z]):=by
 unfold A2z
 have h1:(l.take j++z::l.drop j).Perm (z::(l.take j++l.drop j)):=List.perm_middle
 rw[List.take_append_drop]at h1
 exact h1.trans (List.perm_append_singleton z l).symm
theorem N8z {l:List Int} {j:Nat} {a:Int}:(l.map ipv).set j [.i .i64 a]=(l.set j a).map ipv:=by
 rw[List.map_set];rfl
set_option maxHeartbeats 4000000 in
theorem SIz (n:Nat) (hn:Big+3≤n) (l:List Int) (hl:l.length≤4398046511104) (k:Int):∃c:CV,(c= .sh true (.s 1 (l.map ipv))∧hasB l k=true∨hasB l k=false∧∃p,c= .ow false 1 ((A2z l p k).map ipv)∧p≤l.length)∧pcall env n 240 [.c .one [.sh true (.s 1 (l.map ipv))],pvSV (.i .i64 k)] []=some ⟨.c .one [c],[]⟩:=by
 obtain⟨m,rfl⟩:=AFz hn
 have hB:=AXz
 have hB2:4398046511104<Big:=by decide
 have hlim:LIM=70368744177664:=rfl
 have hh:=SJz m (deep hn (by decide)) l hl k
 simp only[go_sem]at hh
 suffices h: @Wq _ (pcall env (m+1) 240 [.c .one [.sh true (.s 1 (l.map ipv))],pvSV (.i .i64 k)] []) ⟨fun r=>∃c:CV,(c= .sh true (.s 1 (l.map ipv))∧hasB l k=true∨hasB l k=false∧∃p,c= .ow false 1 ((A2z l p k).map ipv)∧p≤l.length)∧r=⟨.c .one [c],[]⟩⟩by
  obtain⟨r,h1,c,h2,h3⟩:=h;exact⟨c,h2,by rw[h1,h3]⟩
 refine ADz (fn:=Tryz.f240) rfl rfl rfl (Nat.le_of_ble_eq_true rfl) ?_
 unfold Tryz.f240
 cases hb:hasB l k with
 |true=>
  simp only[go_sem,Nat.reduceLT,Nat.reduceAdd,Nat.reduceSub,Nat.reduceEqDiff,Nat.reduceLeDiff,Int.reduceEq,Int.reduceBEq,Int.reduceBNe,Int.reduceNeg,UInt8.reduceToNat,Nat.reduceBEq,hh,hb]
  exact⟨_,rfl,rfl⟩
 |false=>
  have hlm:l.length*8≤LIM:=by omega
  have hlm2:(l.length+1)*8≤LIM:=by omega
  have w1:IntKind.i64.wrap (((l.length+1:Nat):Int) - 1)=(l.length:Nat):=by rw[AYz (by omega) (by omega)];omega
  simp only[go_sem,Nat.reduceLT,Nat.reduceAdd,Nat.reduceSub,Nat.reduceEqDiff,Nat.reduceLeDiff,Int.reduceEq,Int.reduceBEq,Int.reduceBNe,Int.reduceNeg,UInt8.reduceToNat,Nat.reduceBEq,hh,hb,hlm,hlm2,w1]
  refine AGz (fun r σ=>∃(j:Nat) (z:Int),j≤l.length∧r=j+1∧σ=slots 46 [(1,.c .one [.sh false (.i .i64 k)]),(5,.c .one [.ow false 1 ((A2z l j z).map ipv)]),(6,.c .one [.sh false (.i .i64 (j:Nat))])]) (l.length+1) (by omega) ?_ ?_
  ·simp only[go_sem,Nat.reduceLT,Nat.reduceAdd,Nat.reduceSub,Nat.reduceEqDiff,Nat.reduceLeDiff,Int.reduceEq,Int.reduceBEq,Int.reduceBNe,Int.reduceNeg,UInt8.reduceToNat,Nat.reduceBEq]
   refine⟨l.length,k,Nat.le_refl _,rfl,?_⟩
   rw[Mjz,List.map_append]
   rfl
  ·rintro r σ ⟨j,z,hj,rfl,rfl⟩
   have hat:(A2z l j z)[j]? =some z:=OPz hj
   have hst:((A2z l j z).map ipv).set j [.i .i64 k]=(A2z l j k).map ipv:=by rw[N8z,G7z hj]
   cases j with
   |zero=>
    simp only[go_sem,Nat.reduceLT,Nat.reduceAdd,Nat.reduceSub,Nat.reduceEqDiff,Nat.reduceLeDiff,Int.reduceEq,Int.reduceBEq,Int.reduceBNe,Int.reduceNeg,UInt8.reduceToNat,Nat.reduceBEq,hat,hst]
    exact⟨_,⟨0,rfl,Nat.zero_le _⟩,rfl⟩
   |succ j=>
    have hx:l[j]? =some l[j]:=List.getElem?_eq_getElem (by omega)
    generalize l[j]=a at hx
    have h1:((j+1:Nat):Int)>0:=by omega
    have w2:IntKind.i64.wrap (((j+1:Nat):Int) - 1)=(j:Nat):=by rw[AYz (by omega) (by omega)];omega
    have hg:(A2z l (j+1) z)[j]? =some a:=by rw[Miz (by omega),hx]
    have hst2:((A2z l (j+1) z).map ipv).set (j+1) [.i .i64 a]=(A2z l j a).map ipv:=by rw[N8z,G7z hj,LKz hx]
    by_cases hgt:a>k
    ·simp only[go_sem,Nat.reduceLT,Nat.reduceAdd,Nat.reduceSub,Nat.reduceEqDiff,Nat.reduceLeDiff,Int.reduceEq,Int.reduceBEq,Int.reduceBNe,Int.reduceNeg,UInt8.reduceToNat,Nat.reduceBEq,h1,w2,hg,hgt,hat,hst2,ipv]
     exact⟨_,Nat.lt_succ_self _,j,a,by omega,rfl,rfl⟩
    ·simp only[go_sem,Nat.reduceLT,Nat.reduceAdd,Nat.reduceSub,Nat.reduceEqDiff,Nat.reduceLeDiff,Int.reduceEq,Int.reduceBEq,Int.reduceBNe,Int.reduceNeg,UInt8.reduceToNat,Nat.reduceBEq,h1,w2,hg,hgt,hat,hst,ipv]
     exact⟨_,⟨j+1,rfl,hj⟩,rfl⟩
end Go.Proofs.YtblelojdboefjaaGreatDoor.R
namespace Go.Proofs.YtblelojdboefjaaGreatDoor.R
open Go
theorem B1z {E:Env} {call:CallF} {N n:Nat} {b:Code} {σ:St} {K:Kont (Ex×St)} (hn:0<n) (h: @Wq _ (some (tidy N (E.D (BNz b)) σ)) ⟨fun σ=> @Wq _ (AEz E call N n b σ) ⟨cont (fun _=>False) K.run⟩⟩): @Wq _ (AEz E call N n (.loop b) σ) K:=by
 refine AGz (fun _ τ=>τ=tidy N (E.D (BNz b)) σ) 0 hn (by rw[ERz];rfl) ?_
 rintro k τ rfl
 rw[ERz]at h
 refine h.mono fun r hr=> ?_
 obtain⟨e,τ⟩:=r
 cases e with
 |normal=>exact hr.elim
 |_=>exact hr
theorem M0z {T G:Prop} (main:T→G) (pf:T):G:=main pf
theorem Iuz {l:List TInode} {k:Int}:decide (BZz l k≥0)=(AKz l k).isSome:=by
 unfold AKz
 rcases Eez l k with⟨h1,h2⟩|⟨j,x,h1,_,h2⟩
 ·rw[h1,h2];rfl
 ·rw[h1,h2];simp
theorem GTz {t:TTab} (hs:Small t) {L:List Int} (h1:L.Nodup) (h2:∀k∈L,Rch t.Inodes k):L.length≤t.Inodes.length:=by
 have:=Cuz (M:=t.Inodes.map (·.Ino)) h1 fun k hk=>by
  have:=(h2 k hk).placed
  obtain⟨x,hx⟩:=Option.isSome_iff_exists.1 this
  obtain⟨h3,h4⟩:=Ayz hx
  exact List.mem_map.2 ⟨x,h3,h4⟩
 simpa using this
def Shp (c:CV) (L:List Int):Prop:=c= .sh true (.s 1 (L.map ipv))∨c= .sh false (.s 1 (L.map ipv))∨c= .ow false 1 (L.map ipv)
structure RndK (t:TTab) (l out:List Int) (i:Nat) (now:List Int):Prop where
 nd:out.Nodup
 r:∀k∈out,Rch t.Inodes k
 sub:∀k∈l,k∈out
 kid:∀a∈l.take i,∀x,AKz t.Inodes a=some x→∀k∈B4z x,(AKz t.Inodes k).isSome=true→k∈out
 now:∀k∈now,(AKz t.Inodes k).isSome=true→k∈out
theorem RndK.has {t:TTab} {l out:List Int} {i:Nat} {now:List Int} {k:Int} (h:RndK t l out i now) (hk:k∈out):RndK t l out i (now++[k]):=
 ⟨h.nd,h.r,h.sub,h.kid,fun j hj hp=>by
  rcases List.mem_append.1 hj with h1|h1
  ·exact h.now j h1 hp
  ·have:j=k:=by simpa using h1
   subst this;exact hk⟩
theorem RndK.none {t:TTab} {l out:List Int} {i:Nat} {now:List Int} {k:Int} (h:RndK t l out i now) (hk:(AKz t.Inodes k).isSome=false):RndK t l out i (now++[k]):=
 ⟨h.nd,h.r,h.sub,h.kid,fun j hj hp=>by
  rcases List.mem_append.1 hj with h1|h1
  ·exact h.now j h1 hp
  ·have:j=k:=by simpa using h1
   subst this;rw[hk]at hp;simp at hp⟩
theorem RndK.add {t:TTab} {l out out':List Int} {i:Nat} {now:List Int} {k:Int} (h:RndK t l out i now) (hr:Rch t.Inodes k) (hk:hasB out k=false) (hp:out'.Perm (out++[k])):RndK t l out' i (now++[k]):=by
 have hnot:¬k∈out:=fun e=>by rw[Gdz.2 e]at hk;simp at hk
 have hm:∀j,j∈out'↔j∈out∨j=k:=fun j=>by rw[hp.mem_iff];simp
 refine⟨?_,?_,?_,?_,?_⟩
 ·rw[hp.nodup_iff,List.nodup_append]
  refine⟨h.nd,by simp,fun a ha b hb=> ?_⟩
  have:b=k:=by simpa using hb
  subst this
  rintro rfl
  exact hnot ha
 ·intro j hj
  rcases(hm j).1 hj with h1|rfl
  ·exact h.r j h1
  ·exact hr
 ·intro j hj;exact(hm j).2 (.inl (h.sub j hj))
 ·intro a ha x hx j hj hq;exact(hm j).2 (.inl (h.kid a ha x hx j hj hq))
 ·intro j hj hq
  rcases List.mem_append.1 hj with h1|h1
  ·exact(hm j).2 (.inl (h.now j h1 hq))
  ·have:j=k:=by simpa using h1
   exact(hm j).2 (.inr this)
theorem RndK.next {t:TTab} {l out:List Int} {i:Nat} {a:Int} {now:List Int} (h:RndK t l out i now) (ha:l[i]? =some a) (hx:∀x,AKz t.Inodes a=some x→B4z x=now):RndK t l out (i+1) []:=
 ⟨h.nd,h.r,h.sub,fun b hb x hx' k hk hp=>by
  rw[List.take_add_one,ha]at hb
  rcases List.mem_append.1 hb with h1|h1
  ·exact h.kid b h1 x hx' k hk hp
  ·have:b=a:=by simpa using h1
   subst this
   rw[hx x hx']at hk
   exact h.now k hk hp,fun k hk=>by simp at hk⟩
set_option maxHeartbeats 4000000 in
theorem Qbz (n:Nat) (hn:Big+8≤n) (t:TTab) (ht:t.ok) (hs:Small t) (l:List Int) (hnd:l.Nodup) (hr:∀k∈l,Rch t.Inodes k):∃(c:CV) (L:List Int),Shp c L∧RndK t l L l.length []∧pcall env n 190 [.c .agg (t.pv.map ASz),.c .one [.sh true (.s 1 (l.map ipv))]] []=some ⟨.c .one [c],[]⟩:=by
 obtain⟨m,rfl⟩:=AFz hn
 have hB:=AXz
 have hbd:Bd=1048576:=rfl
 have hll:=GTz hs hnd hr
 have hn30:=hs.n
 suffices h: @Wq _ (pcall env (m+1) 190 [.c .agg (t.pv.map ASz),.c .one [.sh true (.s 1 (l.map ipv))]] []) ⟨fun r=>∃(c:CV) (L:List Int),Shp c L∧RndK t l L l.length []∧r=⟨.c .one [c],[]⟩⟩by
  obtain⟨r,h1,c,L,h2,h3,h4⟩:=h;exact⟨c,L,h2,h3,by rw[h1,h4]⟩
 refine ADz (fn:=Tryz.f190) rfl rfl rfl (Nat.le_of_ble_eq_true rfl) ?_
 unfold Tryz.f190
 simp only[go_sem,Nat.reduceLT,Nat.reduceAdd,Nat.reduceSub,Nat.reduceEqDiff,Nat.reduceLeDiff,Int.reduceEq,Int.reduceBEq,Int.reduceBNe,Int.reduceNeg,UInt8.reduceToNat,Nat.reduceBEq]
 refine AGz (fun r σ=>∃(i:Nat) (c:CV) (out:List Int),i≤l.length∧r=l.length - i∧Shp c out∧RndK t l out i []∧σ=slots 59 [(1,.c .one [.sh true (.s 1 (l.map ipv))]),(2,.c .box [.sh true (.s 6 (t.Inodes.map TInode.pv)),.sh false (.i .i64 t.Next)]),(5,.c .one [c]),(6,.c .one [.sh false (.i .i64 (i:Nat))])]) l.length (by omega) ?_ ?_
 ·simp only[go_sem,Nat.reduceLT,Nat.reduceAdd,Nat.reduceSub,Nat.reduceEqDiff,Nat.reduceLeDiff,Int.reduceEq,Int.reduceBEq,Int.reduceBNe,Int.reduceNeg,UInt8.reduceToNat,Nat.reduceBEq]
  exact⟨0,_,l,Nat.zero_le _,rfl,.inl rfl,⟨hnd,hr,fun k hk=>hk,fun a ha=>by simp at ha,fun k hk=>by simp at hk⟩,rfl⟩
 ·rintro r σ ⟨i,c,out,hi,rfl,hc,hrnd,rfl⟩
  by_cases hlt:i<l.length
  ·have h1:((i:Int)<(l.length:Int)):=by omega
   have hx:l[i]? =some l[i]:=List.getElem?_eq_getElem hlt
   generalize l[i]=a at hx
   have hat:=Cqz m (deep hn (by decide)) t ht a
   simp only[go_sem]at hat
   unfold atC at hat
   have hpr:∀(x:TInode) (k:Int),AKz t.Inodes a=some x→k∈B4z x→(AKz t.Inodes k).isSome=true→Rch t.Inodes k:=fun x k hx' hk hp=> .step a k x (hr a (List.mem_of_getElem? hx)) hx' hk hp
   cases hf:AKz t.Inodes a with
   |none=>
    have hf':=hf
    unfold AKz at hf
    rw[hf]at hat
    simp only[go_sem,Bpz]at hat
    have hnext:=hrnd.next hx (fun x hx'=>by rw[hf']at hx';simp at hx')
    rcases hc with rfl|rfl|rfl
    all_goals
     simp only[go_sem,Nat.reduceLT,Nat.reduceAdd,Nat.reduceSub,Nat.reduceEqDiff,Nat.reduceLeDiff,Int.reduceEq,Int.reduceBEq,Int.reduceBNe,Int.reduceNeg,UInt8.reduceToNat,Nat.reduceBEq,h1,hx,hat,ipv]
     refine chk (by kernel_rfl) ?_
     refine B1z (by omega) ?_
     simp only[go_sem,Nat.reduceLT,Nat.reduceAdd,Nat.reduceSub,Nat.reduceEqDiff,Nat.reduceLeDiff,Int.reduceEq,Int.reduceBEq,Int.reduceBNe,Int.reduceNeg,UInt8.reduceToNat,Nat.reduceBEq,ACz hlt (by omega)]
     exact⟨_,by omega,i+1,_,out,hlt,rfl,by first|exact .inl rfl|exact .inr (.inl rfl)|exact .inr (.inr rfl),hnext,rfl⟩
   |some x=>
    have hf':=hf
    obtain⟨hmem,hino⟩:=Ayz hf
    have hel:=hs.e x hmem
    unfold AKz at hf
    rw[hf]at hat
    simp only[go_sem,BMz]at hat
    cases hk:(x.Kind==2)with
    |false=>
     have hkid:B4z x=[]:=by unfold B4z;rw[hk]
     have hnext:=hrnd.next hx (fun y hy=>by rw[hf']at hy;injection hy with hy;subst hy;exact hkid)
     have he0:(0:Int)<(x.Ents.length:Int)∨¬(0:Int)<(x.Ents.length:Int):=Classical.em _
     rcases hc with rfl|rfl|rfl
     all_goals
      simp only[go_sem,Nat.reduceLT,Nat.reduceAdd,Nat.reduceSub,Nat.reduceEqDiff,Nat.reduceLeDiff,Int.reduceEq,Int.reduceBEq,Int.reduceBNe,Int.reduceNeg,UInt8.reduceToNat,Nat.reduceBEq,h1,hx,hat,ipv]
      refine chk (by kernel_rfl) ?_
      refine B1z (by omega) ?_
      rcases he0 with h0|h0
      all_goals
       simp only[go_sem,Nat.reduceLT,Nat.reduceAdd,Nat.reduceSub,Nat.reduceEqDiff,Nat.reduceLeDiff,Int.reduceEq,Int.reduceBEq,Int.reduceBNe,Int.reduceNeg,UInt8.reduceToNat,Nat.reduceBEq,h0,hk,ACz hlt (by omega)]
       exact⟨_,by omega,i+1,_,out,hlt,rfl,by first|exact .inl rfl|exact .inr (.inl rfl)|exact .inr (.inr rfl),hnext,rfl⟩
    |true=>
     have hkid:B4z x=x.Ents.map (·.Ino):=by unfold B4z;rw[hk]
     have hbx:x.Ents.length<m:=by omega
     apply M0z
     case main=>
      intro key
      rcases id hc with h9|h9|h9
      all_goals
       simp only[go_sem,Nat.reduceLT,Nat.reduceAdd,Nat.reduceSub,Nat.reduceEqDiff,Nat.reduceLeDiff,Int.reduceEq,Int.reduceBEq,Int.reduceBNe,Int.reduceNeg,UInt8.reduceToNat,Nat.reduceBEq,h9,h1,hx,hat,ipv]
       refine chk (by kernel_rfl) ?_
       refine AGz (fun r' σ=>∃(j:Nat) (c:CV) (out:List Int),j≤x.Ents.length∧r'=x.Ents.length - j∧Shp c out∧RndK t l out i ((x.Ents.take j).map (·.Ino))∧σ=slots 59 [(1,.c .one [.sh true (.s 1 (l.map ipv))]),(2,.c .box [.sh true (.s 6 (t.Inodes.map TInode.pv)),.sh false (.i .i64 t.Next)]),(5,.c .one [c]),(6,.c .one [.sh false (.i .i64 (i:Nat))]),(7,.c .box [.sh false (.i .i64 x.Ino),.sh false (.i .i64 x.Kind),.sh false (.i .i64 x.Links),.ow false 1 (x.Data.map bpv),.ow false 2 (x.Ents.map TEnt.pv),.ow false 2 (x.Attrs.map TAttr.pv)]),(8,.c .one [.sh false (.b true)]),(9,.c .one [.sh false (.i .i64 (j:Nat))])]) x.Ents.length hbx ?_ key
       simp only[go_sem,Nat.reduceLT,Nat.reduceAdd,Nat.reduceSub,Nat.reduceEqDiff,Nat.reduceLeDiff,Int.reduceEq,Int.reduceBEq,Int.reduceBNe,Int.reduceNeg,UInt8.reduceToNat,Nat.reduceBEq]
       exact⟨0,_,out,Nat.zero_le _,rfl,by first|exact .inl rfl|exact .inr (.inl rfl)|exact .inr (.inr rfl),hrnd,rfl⟩
     case pf=>
      rintro r' σ ⟨j,c,out,hj,rfl,hc,hrd,rfl⟩
      by_cases hlt2:j<x.Ents.length
      ·have h2:((j:Int)<(x.Ents.length:Int)):=by omega
       have hy:x.Ents[j]? =some x.Ents[j]:=List.getElem?_eq_getElem hlt2
       generalize x.Ents[j]=e at hy
       have hl4:=Gaz m (deep hn (by decide)) t ht e.Ino
       have hpg:=Iuz (l:=t.Inodes) (k:=e.Ino)
       simp only[go_sem]at hl4
       have htk:(x.Ents.take (j+1)).map (·.Ino)=(x.Ents.take j).map (·.Ino)++[e.Ino]:=by rw[List.take_add_one,hy];simp
       have hin:e.Ino∈B4z x:=by rw[hkid];exact List.mem_map.2 ⟨e,List.mem_of_getElem? hy,rfl⟩
       cases hpl:(AKz t.Inodes e.Ino).isSome with
       |false=>
        have hnone:=hrd.none hpl
        rw[←htk]at hnone
        rw[hpl]at hpg
        rcases hc with rfl|rfl|rfl<;>
        ·simp only[go_sem,Nat.reduceLT,Nat.reduceAdd,Nat.reduceSub,Nat.reduceEqDiff,Nat.reduceLeDiff,Int.reduceEq,Int.reduceBEq,Int.reduceBNe,Int.reduceNeg,UInt8.reduceToNat,Nat.reduceBEq,h2,hk,hy,hl4,hpg,ACz hlt2 (by omega)]
         exact chk (by kernel_rfl) ⟨_,by omega,j+1,_,out,hlt2,rfl,by first|exact .inl rfl|exact .inr (.inl rfl)|exact .inr (.inr rfl),hnone,rfl⟩
       |true=>
        rw[hpl]at hpg
        obtain⟨c',hc',hput⟩:=SIz m (deep hn (by decide)) out (by have:=GTz hs hrd.nd hrd.r;omega) e.Ino
        simp only[go_sem]at hput
        rcases hc' with⟨rfl,hb⟩|⟨hb,p,rfl,hp⟩
        ·have hhas:=hrd.has (Gdz.1 hb)
         rw[←htk]at hhas
         rcases hc with rfl|rfl|rfl<;>
         ·simp only[go_sem,Nat.reduceLT,Nat.reduceAdd,Nat.reduceSub,Nat.reduceEqDiff,Nat.reduceLeDiff,Int.reduceEq,Int.reduceBEq,Int.reduceBNe,Int.reduceNeg,UInt8.reduceToNat,Nat.reduceBEq,h2,hk,hy,hl4,hpg,hput,ACz hlt2 (by omega)]
          first
          |exact chk (by kernel_rfl) ⟨_,by omega,j+1,.sh true (.s 1 (out.map ipv)),out,hlt2,rfl,.inl rfl,hhas,rfl⟩
          |exact chk (by kernel_rfl) ⟨_,by omega,j+1,.sh false (.s 1 (out.map ipv)),out,hlt2,rfl,.inr (.inl rfl),hhas,rfl⟩
        ·have hadd:=hrd.add (hpr x _ hf' hin hpl) hb (LJz out p e.Ino)
         rw[←htk]at hadd
         rcases hc with rfl|rfl|rfl<;>
         ·simp only[go_sem,Nat.reduceLT,Nat.reduceAdd,Nat.reduceSub,Nat.reduceEqDiff,Nat.reduceLeDiff,Int.reduceEq,Int.reduceBEq,Int.reduceBNe,Int.reduceNeg,UInt8.reduceToNat,Nat.reduceBEq,h2,hk,hy,hl4,hpg,hput,ACz hlt2 (by omega)]
          exact chk (by kernel_rfl) ⟨_,by omega,j+1,.ow false 1 ((A2z out p e.Ino).map ipv),A2z out p e.Ino,hlt2,rfl,.inr (.inr rfl),hadd,rfl⟩
      ·have h2:¬((j:Int)<(x.Ents.length:Int)):=by omega
       obtain rfl:j=x.Ents.length:=by omega
       rw[List.take_length]at hrd
       have hnext:=hrd.next hx (fun y hy=>by rw[hf']at hy;injection hy with hy;subst hy;exact hkid)
       rcases hc with rfl|rfl|rfl<;>
       ·simp only[go_sem,Nat.reduceLT,Nat.reduceAdd,Nat.reduceSub,Nat.reduceEqDiff,Nat.reduceLeDiff,Int.reduceEq,Int.reduceBEq,Int.reduceBNe,Int.reduceNeg,UInt8.reduceToNat,Nat.reduceBEq,h2,hk,ACz hlt (by omega)]
        exact⟨_,by omega,i+1,_,out,hlt,rfl,by first|exact .inl rfl|exact .inr (.inl rfl)|exact .inr (.inr rfl),hnext,rfl⟩
  ·have h1:¬((i:Int)<(l.length:Int)):=by omega
   obtain rfl:i=l.length:=by omega
   rcases hc with rfl|rfl|rfl<;>
   ·simp only[go_sem,Nat.reduceLT,Nat.reduceAdd,Nat.reduceSub,Nat.reduceEqDiff,Nat.reduceLeDiff,Int.reduceEq,Int.reduceBEq,Int.reduceBNe,Int.reduceNeg,UInt8.reduceToNat,Nat.reduceBEq,h1]
    exact⟨_,out,by first|exact .inl rfl|exact .inr (.inl rfl)|exact .inr (.inr rfl),hrnd,rfl⟩
end Go.Proofs.YtblelojdboefjaaGreatDoor.R
