/- Paths: the reference's way to split them. -/
import Derived.Test.YtblelojdboefjaaGreatDoorQ7
import Derived.Test.YtblelojdboefjaaGreatDoorQ3
set_option linter.all false
set_option maxRecDepth 100000
namespace Go.Proofs.YtblelojdboefjaaGreatDoor.R
open Go
attribute [go_sem] or_false false_or or_true true_or
theorem JBz:∀{a:List UInt8},(∀c∈a,c≠47)→AUz a=[a]
 |[],_=>rfl
 |c::a,h=>by
  have hc:c≠47:=h c (by simp)
  have ih:=JBz (a:=a) fun d hd=>h d (by simp[hd])
  simp only[AUz,if_neg hc,ih]
theorem Lvz:∀{a b:List UInt8},(∀c∈a,c≠47)→AUz (a++47::b)=a::AUz b
 |[],b,_=>by simp[AUz]
 |c::a,b,h=>by
  have hc:c≠47:=h c (by simp)
  have ih:=Lvz (a:=a) (b:=b) fun d hd=>h d (by simp[hd])
  simp only[List.cons_append,AUz,if_neg hc,ih]
theorem Roz (l:List UInt8):AUz l≠[]:=fun h=>by have:=EGz l;rw[h]at this;simp at this
theorem Grz {l:List UInt8} (h:l≠[]):BJz (47::l)=if(decide ((AUz l).length≤30)&&(AUz l).all BAz)=true then some (AUz l)else none:=by
 unfold BJz
 rw[if_neg (by simpa using h)]
 have e:AUz (47::l)=[]::AUz l:=by simp[AUz]
 rw[e]
 cases hs:AUz l with
 |nil=>exact absurd hs (Roz l)
 |cons p ps=>rfl
theorem JKz {l:List UInt8} (h:∀l',l≠47::l'):BJz l=none:=by
 unfold BJz
 rw[if_neg (h [])]
 cases l with
 |nil=>rfl
 |cons c l=>
  have hc:c≠47:=fun e=>h l (by rw[e])
  simp only[AUz,if_neg hc]
  cases hs:AUz l with
  |nil=>rfl
  |cons p ps=>rfl
def Ezz:List UInt8→List (List UInt8)
 |47::l=>AUz l
 |l=>AUz l
theorem Ryz {l:List UInt8} {dn ps:List (List UInt8)} {p:List UInt8} (h47:l≠[47]) (h:dn++p::ps=Ezz l) (hb:BAz p=false∨dn.length=30):BJz l=none:=by
 by_cases hs:∃l',l=47::l'
 ·obtain⟨l',rfl⟩:=hs
  have hl:l'≠[]:=fun e=>h47 (by rw[e])
  rw[Grz hl,if_neg]
  have e:AUz l'=dn++p::ps:=h.symm
  rw[e]
  rcases hb with hb|hb
  ·simp[hb]
  ·have:¬((dn++p::ps).length≤30):=by rw[List.length_append,List.length_cons];omega
   simp only[decide_eq_false this,Bool.false_and];simp
 ·exact JKz fun l' e=>hs ⟨l',e⟩
def Ciz:Option (List (List UInt8))→List CV
 |none=>[.ow false 1 [],.sh false (.b false)]
 |some ps=>[.ow false 1 (ps.map ppv),.sh false (.b true)]
theorem OHz {l:List UInt8} {f j:Nat} {c:UInt8} (hf:f≤j) (h:l[j]? =some c):(l.take (j+1)).drop f=(l.take j).drop f++[c]:=by
 obtain⟨hj,rfl⟩:=List.getElem?_eq_some_iff.1 h
 rw[List.take_succ_eq_append_getElem hj,List.drop_append_of_le_length (by simp;omega)]
theorem Udz {l:List UInt8} {f j:Nat} (hf:f≤j) (hj:j≤l.length):l.drop f=(l.take j).drop f++l.drop j:=by
 have e:l=l.take j++l.drop j:=(List.take_append_drop j l).symm
 rw[show l.drop f=(l.take j++l.drop j).drop f from by rw[←e],List.drop_append_of_le_length (by simp;omega)]
theorem Oxz {l:List UInt8} (h:l[0]? =some 47):Ezz l=AUz (l.drop 1):=by
 cases l with
 |nil=>simp at h
 |cons c l=>simp at h;subst h;rfl
theorem NIz {l:List UInt8} {c:UInt8} (h:l[0]? =some c) (hc:c≠47):Ezz l=AUz l:=by
 cases l with
 |nil=>rfl
 |cons d l=>
  simp at h;subst h
  unfold Ezz
  split
  ·rename_i h;injection h with h;exact absurd h hc
  ·rfl
theorem P4z {c:UInt8}:c≠47→((c.toNat:Int) !=47)=true:=fun h=>by
 have:c.toNat≠47:=fun e=>h (UInt8.toNat.inj (by simpa using e))
 simp;omega
structure SpS (l:List UInt8) (j f:Nat) (dn:List (List UInt8)):Prop where
 le:j≤l.length+1
 zero:j=0→f=0∧dn=[]
 mid:0<j→j≤l.length→f≤j∧(∀c∈(l.take j).drop f,c≠47)∧dn++AUz (l.drop f)=Ezz l
 fin:j=l.length+1→(l=[]∧dn=[])∨(l≠[]∧dn=Ezz l)
 good:dn.all BAz=true∧dn.length≤30∧∀p∈dn,p.length≤l.length
section
variable {l:List UInt8} {j f:Nat} {dn:List (List UInt8)} {c:UInt8}
theorem SpS.part (h:SpS l j f dn) (h0:0<j) (hj:j≤l.length) (he:j=l.length∨l[j]? =some 47):∃rest,dn++(l.take j).drop f::rest=Ezz l∧(j=l.length→rest=[])∧(l[j]? =some 47→rest=AUz (l.drop (j+1))):=by
 obtain⟨hf,hn,hp⟩:=h.mid h0 hj
 rw[Udz hf hj]at hp
 rcases he with he|he
 ·have e:l.drop j=[]:=List.drop_of_length_le (by omega)
  rw[e,List.append_nil,JBz hn]at hp
  exact⟨[],hp,fun _=>rfl,fun hx=>by rw[he]at hx;simp at hx⟩
 ·obtain⟨hlt,hx⟩:=List.getElem?_eq_some_iff.1 he
  have e:l.drop j=47::l.drop (j+1):=by rw[List.drop_eq_getElem_cons hlt,hx]
  rw[e,Lvz hn]at hp
  exact⟨_,hp,fun h=>by omega,fun _=>rfl⟩
theorem SpS.char (h:SpS l j f dn) (hlt:j<l.length) (hx:l[j]? =some c) (hc:c≠47):SpS l (j+1) f dn:=by
 refine⟨by omega,fun e=>by omega,fun _ _=> ?_,fun e=>by omega,h.good⟩
 by_cases h0:j=0
 ·subst h0
  obtain⟨rfl,rfl⟩:=h.zero rfl
  refine⟨Nat.zero_le _,?_,by rw[List.drop_zero];exact(NIz hx hc).symm⟩
  rw[OHz (Nat.le_refl _) hx]
  simpa using hc
 ·obtain⟨hf,hn,hp⟩:=h.mid (by omega) (by omega)
  refine⟨by omega,?_,hp⟩
  rw[OHz hf hx]
  intro d hd
  rcases List.mem_append.1 hd with hd|hd
  ·exact hn d hd
  ·simp at hd;subst hd;exact hc
theorem SpS.first (h:SpS l j f dn) (h0:j=0) (hx:l[j]? =some 47):SpS l (j+1) (j+1) dn:=by
 subst h0
 obtain⟨_,rfl⟩:=h.zero rfl
 have hlt:=(List.getElem?_eq_some_iff.1 hx).1
 exact⟨by omega,fun e=>by omega,fun _ _=>⟨Nat.le_refl _,by simp,(Oxz hx).symm⟩,fun e=>by omega,h.good⟩
theorem SpS.empty (h:SpS l j f dn) (h0:j=0) (hl:l.length=0):SpS l (j+1) (j+1) dn:=by
 subst h0
 obtain⟨_,rfl⟩:=h.zero rfl
 exact⟨by omega,fun e=>by omega,fun _ h=>by omega,fun _=> .inl ⟨List.length_eq_zero_iff.1 hl,rfl⟩,h.good⟩
theorem SpS.next (h:SpS l j f dn) (h0:0<j) (hj:j≤l.length) (he:j=l.length∨l[j]? =some 47) (hb:BAz ((l.take j).drop f)=true) (h30:dn.length≠30):SpS l (j+1) (j+1) (dn++[(l.take j).drop f]):=by
 obtain⟨rest,hp,h1,h2⟩:=h.part h0 hj he
 obtain⟨g1,g2,g3⟩:=h.good
 refine⟨by omega,fun e=>by omega,fun _ hlt=>⟨Nat.le_refl _,by simp,?_⟩,fun e=> .inr ⟨fun hl=> ?_,?_⟩,?_,?_,fun p hp=> ?_⟩
 ·have:l[j]? =some 47:=by
   rcases he with he|he
   ·omega
   ·exact he
  rw[←hp,h2 this,List.append_assoc];rfl
 ·subst hl;simp at hj;omega
 ·rw[←hp,h1 (by omega)]
 ·rw[List.all_append,g1];simp[hb]
 ·simp only[List.length_append,List.length_cons,List.length_nil];omega
 ·rcases List.mem_append.1 hp with hp|hp
  ·exact g3 p hp
  ·simp at hp;subst hp;simp;omega
theorem SpS.bad (h:SpS l j f dn) (h47:l≠[47]) (h0:0<j) (hj:j≤l.length) (he:j=l.length∨l[j]? =some 47) (hb:BAz ((l.take j).drop f)=false∨dn.length=30):BJz l=none:=by
 obtain⟨rest,hp,_,_⟩:=h.part h0 hj he
 exact Ryz h47 hp hb
theorem SpS.done (h:SpS l j f dn) (h47:l≠[47]) (hj:j=l.length+1):BJz l=if l[0]? =some 47 then some dn else none:=by
 obtain⟨g1,g2,g3⟩:=h.good
 split
 ·rename_i hx
  rcases h.fin hj with⟨rfl,_⟩|⟨_,hd⟩
  ·simp at hx
  ·cases l with
   |nil=>simp at hx
   |cons c l=>
    simp at hx;subst hx
    have hl:l≠[]:=fun e=>h47 (by rw[e])
    have e:AUz l=dn:=hd.symm
    rw[Grz hl,e,if_pos (by rw[g1,Bool.and_true];exact decide_eq_true g2)]
 ·rename_i hx
  exact JKz fun l' e=>hx (by rw[e];rfl)
end
theorem ICz (n:Nat) (hn:Big+3≤n) (l:List UInt8) (hl:l.length≤Bd):pcall env n 212 [pvSV (.t ⟨⟨l⟩⟩)] []=some ⟨.c (.tup [(false,1),(false,1)]) (Ciz (BJz l)),[]⟩:=by
 obtain⟨m,rfl⟩:=AEz hn
 have hB:=ASz
 have hbd:Bd=1048576:=rfl
 have hc:=fun(p:List UInt8) (hp:p.length≤Bd)=>D7z m (deep hn (by decide)) ⟨⟨p⟩⟩ hp
 simp only[go_sem,BYz]at hc
 by_cases h47:l=[47]
 ·have hb:(l==[47])=true:=by simp[h47]
  rw[show BJz l=some []from if_pos h47]
  refine ANz (ADz (fn:=Tryz.f212) rfl rfl rfl (Nat.le_of_ble_eq_true rfl) ?_)
  unfold Tryz.f212
  simp only[go_sem,seval,hb,Ciz]
 ·have hb:(l==[47])=false:=by simpa using h47
  refine ANz (ADz (fn:=Tryz.f212) rfl rfl rfl (Nat.le_of_ble_eq_true rfl) ?_)
  unfold Tryz.f212
  simp only[go_sem,seval,hb]
  refine AFz (fun k σ=>∃(j f:Nat) (dn:List (List UInt8)),k=l.length+1 - j∧SpS l j f dn∧σ=slots 59 [(0,.c .one [.sh false (.t ⟨⟨l⟩⟩)]),(4,.c .one [.ow false 1 (dn.map ppv)]),(5,.c .one [.sh false (.i .i64 (f:Nat))]),(6,.c .one [.sh false (.i .i64 (j:Nat))])]) (l.length+1) (by omega) ?_ ?_
  ·simp only[go_sem,seval]
   exact⟨0,0,[],rfl,⟨Nat.zero_le _,fun _=>⟨rfl,rfl⟩,fun h=>absurd h (Nat.lt_irrefl _),fun h=>absurd h (by omega),⟨rfl,Nat.zero_le _,by simp⟩⟩,rfl⟩
  ·rintro k σ ⟨j,f,dn,rfl,hi,rfl⟩
   have hjl:=hi.le
   obtain⟨hg1,hg2,hg3⟩:=hi.good
   by_cases hle:j≤l.length
   ·have h1:((j:Int)≤(l.length:Int)):=by omega
    have ws:IntKind.i64.wrap ((j:Int)+1)=((j+1:Nat):Int):=by rw[ARz (by omega) (by omega)];omega
    by_cases hlt:j<l.length
    ·have h2:((j:Int)<(l.length:Int)):=by omega
     have hx:l[j]? =some l[j]:=List.getElem?_eq_getElem hlt
     generalize l[j]=c at hx
     by_cases hc47:c=47
     ·subst hc47
      by_cases hj0:j=0
      ·have hgt:¬((j:Int)>0):=by omega
       simp only[go_sem,seval,h1,h2,hx,ws,hgt]
       exact⟨_,by omega,j+1,j+1,dn,rfl,hi.first hj0 hx,rfl⟩
      ·skip
       have hgt:((j:Int)>0):=by omega
       have hcur:((l.take j).drop f).length≤Bd:=by simp;omega
       have hq:=hc _ hcur
       have hf:=(hi.mid (by omega) hle).1
       have w1:((0:Int)≤(j:Int)):=by omega
       by_cases hb1:BAz ((l.take j).drop f)=true
       ·by_cases hb2:dn.length=30
        ·have hb2':((dn.length:Int)==30)=true:=by simp[hb2]
         rw[hi.bad h47 (by omega) hle (.inr hx) (.inr hb2)]
         simp only[go_sem,seval,h1,h2,hx,hgt,ws,hq,w1,hb1,hb2']
         repeat (first|(refine BNz (by omega) ?_;simp only[go_sem,seval,h1,h2,hx,hgt,ws,hq,w1,hb1,hb2'])|(refine EDz (by omega) ?_;simp only[go_sem,seval,h1,h2,hx,hgt,ws,hq,w1,hb1,hb2'])|(refine BNz (by unfold LIM;omega) ?_;simp only[go_sem,seval,h1,h2,hx,hgt,ws,hq,w1,hb1,hb2']))
         simp only[Ciz]
        ·have hb2':((dn.length:Int)==30)=false:=by simp;omega
         simp only[go_sem,seval,h1,h2,hx,hgt,ws,hq,w1,hb1,hb2']
         repeat (first|(refine BNz (by omega) ?_;simp only[go_sem,seval,h1,h2,hx,hgt,ws,hq,w1,hb1,hb2'])|(refine EDz (by omega) ?_;simp only[go_sem,seval,h1,h2,hx,hgt,ws,hq,w1,hb1,hb2'])|(refine BNz (by unfold LIM;omega) ?_;simp only[go_sem,seval,h1,h2,hx,hgt,ws,hq,w1,hb1,hb2']))
         exact⟨_,by omega,j+1,j+1,dn++[(l.take j).drop f],rfl,hi.next (by omega) hle (.inr hx) hb1 hb2,by rw[List.map_append];rfl⟩
       ·have hb1':BAz ((l.take j).drop f)=false:=by simpa using hb1
        rw[hi.bad h47 (by omega) hle (.inr hx) (.inl hb1')]
        simp only[go_sem,seval,h1,h2,hx,hgt,ws,hq,w1,hb1']
        repeat (first|(refine BNz (by omega) ?_;simp only[go_sem,seval,h1,h2,hx,hgt,ws,hq,w1,hb1'])|(refine EDz (by omega) ?_;simp only[go_sem,seval,h1,h2,hx,hgt,ws,hq,w1,hb1'])|(refine BNz (by unfold LIM;omega) ?_;simp only[go_sem,seval,h1,h2,hx,hgt,ws,hq,w1,hb1']))
        simp only[Ciz]
     ·have hne:=P4z hc47
      simp only[go_sem,seval,h1,h2,hx,hne,ws]
      exact⟨_,by omega,j+1,f,dn,rfl,hi.char hlt hx hc47,rfl⟩
    ·have h2:¬((j:Int)<(l.length:Int)):=by omega
     by_cases hj0:j=0
     ·have hgt:¬((j:Int)>0):=by omega
      simp only[go_sem,seval,h1,h2,ws,hgt]
      exact⟨_,by omega,j+1,j+1,dn,rfl,hi.empty hj0 (by omega),rfl⟩
     ·have hxx:True:=trivial
      have hgt:((j:Int)>0):=by omega
      have hcur:((l.take j).drop f).length≤Bd:=by simp;omega
      have hq:=hc _ hcur
      have hf:=(hi.mid (by omega) hle).1
      have w1:((0:Int)≤(j:Int)):=by omega
      by_cases hb1:BAz ((l.take j).drop f)=true
      ·by_cases hb2:dn.length=30
       ·have hb2':((dn.length:Int)==30)=true:=by simp[hb2]
        rw[hi.bad h47 (by omega) hle (.inl (by omega)) (.inr hb2)]
        simp only[go_sem,seval,h1,h2,hxx,hgt,ws,hq,w1,hb1,hb2']
        repeat (first|(refine BNz (by omega) ?_;simp only[go_sem,seval,h1,h2,hxx,hgt,ws,hq,w1,hb1,hb2'])|(refine EDz (by omega) ?_;simp only[go_sem,seval,h1,h2,hxx,hgt,ws,hq,w1,hb1,hb2'])|(refine BNz (by unfold LIM;omega) ?_;simp only[go_sem,seval,h1,h2,hxx,hgt,ws,hq,w1,hb1,hb2']))
        simp only[Ciz]
       ·have hb2':((dn.length:Int)==30)=false:=by simp;omega
        simp only[go_sem,seval,h1,h2,hxx,hgt,ws,hq,w1,hb1,hb2']
        repeat (first|(refine BNz (by omega) ?_;simp only[go_sem,seval,h1,h2,hxx,hgt,ws,hq,w1,hb1,hb2'])|(refine EDz (by omega) ?_;simp only[go_sem,seval,h1,h2,hxx,hgt,ws,hq,w1,hb1,hb2'])|(refine BNz (by unfold LIM;omega) ?_;simp only[go_sem,seval,h1,h2,hxx,hgt,ws,hq,w1,hb1,hb2']))
        exact⟨_,by omega,j+1,j+1,dn++[(l.take j).drop f],rfl,hi.next (by omega) hle (.inl (by omega)) hb1 hb2,by rw[List.map_append];rfl⟩
      ·have hb1':BAz ((l.take j).drop f)=false:=by simpa using hb1
       rw[hi.bad h47 (by omega) hle (.inl (by omega)) (.inl hb1')]
       simp only[go_sem,seval,h1,h2,hxx,hgt,ws,hq,w1,hb1']
       repeat (first|(refine BNz (by omega) ?_;simp only[go_sem,seval,h1,h2,hxx,hgt,ws,hq,w1,hb1'])|(refine EDz (by omega) ?_;simp only[go_sem,seval,h1,h2,hxx,hgt,ws,hq,w1,hb1'])|(refine BNz (by unfold LIM;omega) ?_;simp only[go_sem,seval,h1,h2,hxx,hgt,ws,hq,w1,hb1']))
       simp only[Ciz]
   ·have h1:¬((j:Int)≤(l.length:Int)):=by omega
    rw[hi.done h47 (by omega)]
    cases hx:l[0]? with
    |none=>
     have e:l=[]:=by cases l with
      |nil=>rfl
      |cons _ _=>simp at hx
     subst e
     have h1':¬((j:Int)≤0):=by simpa using h1
     simp only[go_sem,seval,h1',Ciz]
    |some c=>
     have hl0:((l.length:Int)==0)=false:=by
      have:=(List.getElem?_eq_some_iff.1 hx).1
      rw[beq_eq_false_iff_ne];omega
     by_cases hc47:c=47
     ·subst hc47
      simp only[go_sem,seval,h1,hx,hl0,Ciz,if_true]
     ·have hne:=P4z hc47
      rw[if_neg (by simpa using hc47)]
      simp only[go_sem,seval,h1,hx,hl0,hne,Ciz]
end Go.Proofs.YtblelojdboefjaaGreatDoor.R
namespace Go.Proofs.YtblelojdboefjaaGreatDoor.R
open Go
def allB (n:Nat) (p:Nat→Bool):Bool:=(List.range n).all p
theorem A8z {n i:Nat} {p:Nat→Bool} (hi:i<n) (h:p i=false):allB n p=false:=by
 unfold allB;rw[List.all_eq_false];exact⟨i,List.mem_range.2 hi,by simp[h]⟩
theorem BRz {n:Nat} {p:Nat→Bool} (h:∀i,i<n→p i=true):allB n p=true:=by
 unfold allB;rw[List.all_eq_true];exact fun i hi=>h i (List.mem_range.1 hi)
theorem Uuz (n:Nat) (p q:Nat→Bool):allB n (fun i=>p i&&q i)=(allB n p&&allB n q):=by
 unfold allB
 induction List.range n with
 |nil=>rfl
 |cons i l ih=>simp only[List.all_cons,ih];cases p i<;>cases q i<;>simp
def A1z (x y:ByteArray):Bool:=Op.bytesLess x.toList y.toList
def inB (n a b:Int):Bool:=decide (n≥a)&&decide (n≤b)
def HCz (prev:Option TAttr) (a:TAttr):Bool:=BYz a.Name&&inB a.Val.size 1 16&&(match prev with
 |some y=>A1z y.Name a.Name
 |none=>true)
def Buz (l:List TAttr) (i:Nat):Bool:=match l[i]? with
 |some a=>HCz (if i=0 then none else l[i - 1]?) a
 |none=>true
def BXz (l:List TAttr):Bool:=allB l.length (Buz l)&&decide ((l.length:Int)≤4)
theorem Ogz {l:List TAttr} {j:Nat} {a:TAttr} (h:l[j]? =some a) (h0:j=0):Buz l j=(BYz a.Name&&inB a.Val.size 1 16):=by
 simp only[Buz,h,HCz,if_pos h0,Bool.and_true]
theorem Odz {l:List TAttr} {j:Nat} {a y:TAttr} (h:l[j]? =some a) (h0:j≠0) (hy:l[j - 1]? =some y):Buz l j=(BYz a.Name&&inB a.Val.size 1 16&&A1z y.Name a.Name):=by
 simp only[Buz,h,HCz,if_neg h0,hy]
theorem Ofz {l:List TAttr} {j:Nat} {a:TAttr} (h:l[j]? =some a) (hb:BYz a.Name=false):Buz l j=false:=by
 simp only[Buz,h,HCz,hb,Bool.false_and]
theorem Oez {l:List TAttr} {j:Nat} {a:TAttr} (h:l[j]? =some a) (hb:inB a.Val.size 1 16=false):Buz l j=false:=by
 simp only[Buz,h,HCz,hb,Bool.and_false,Bool.false_and]
set_option maxHeartbeats 1000000 in
theorem GGz (n:Nat) (hn:Big+3≤n) (l:List TAttr) (ho:∀a∈l,a.ok) (hl:l.length≤Bd):pcall env n 151 [.c .one [.sh true (.s 2 (l.map TAttr.pv))]] []=some ⟨pvSV (.b (BXz l)),[]⟩:=by
 obtain⟨m,rfl⟩:=AEz hn
 have hB:=ASz
 have hbd:Bd=1048576:=rfl
 have hin:=fun a b c=>E2z m (deep hn (by decide)) a b c
 simp only[go_sem]at hin
 refine ANz (ADz (fn:=Tryz.f151) rfl rfl rfl (Nat.le_of_ble_eq_true rfl) ?_)
 unfold Tryz.f151
 simp only[go_sem,seval]
 refine AFz (fun k σ=>∃j:Nat,j≤l.length∧k=l.length - j∧(∀i,i<j→Buz l i=true)∧σ=slots 48 [(0,.c .one [.sh true (.s 2 (l.map TAttr.pv))]),(3,.c .one [.sh false (.i .i64 (j:Nat))])]) l.length (by omega) ?_ ?_
 ·simp only[go_sem,seval]
  exact⟨0,Nat.zero_le _,rfl,fun i hi=>absurd hi (Nat.not_lt_zero _),rfl⟩
 ·rintro k σ ⟨j,hj,rfl,hp,rfl⟩
  by_cases hlt:j<l.length
  ·have h1:((j:Int)<(l.length:Int)):=by omega
   have hx:l[j]? =some l[j]:=List.getElem?_eq_getElem hlt
   have hok:=ho _ (List.getElem_mem hlt)
   generalize l[j]=a at hx hok
   have hc:=D7z m (deep hn (by decide)) a.Name hok.Name
   simp only[go_sem]at hc
   have step:Buz l j=true→∀i,i<j+1→Buz l i=true:=fun e i hi=>by
    rcases Nat.lt_succ_iff_lt_or_eq.1 hi with h|h
    ·exact hp i h
    ·subst h;exact e
   have bad:Buz l j=false→BXz l=false:=fun e=>by unfold BXz;rw[A8z hlt e,Bool.false_and]
   cases b1:BYz a.Name with
   |false=>
    rw[bad (Ofz hx b1)]
    simp only[go_sem,seval,h1,hx,hc,b1]<;>exact chk1 (by kernel_rfl)
   |true=>
    cases b2:inB a.Val.size 1 16 with
    |false=>
     rw[bad (Oez hx b2)]
     unfold inB at b2
     simp only[go_sem,seval,h1,hx,hc,b1,hin,b2]<;>exact chk1 (by kernel_rfl)
    |true=>
     by_cases h0:j=0
     ·have e:=Ogz hx h0
      rw[b1,b2]at e
      unfold inB at b2
      have hgt:¬((j:Int)>0):=by omega
      simp only[go_sem,seval,h1,hx,hc,b1,hin,b2,hgt,ACz hlt (by omega)]
      exact chk (by kernel_rfl) ⟨_,by omega,j+1,hlt,rfl,step e,rfl⟩
     ·have hgt:((j:Int)>0):=by omega
      have hy:l[j - 1]? =some l[j - 1]:=List.getElem?_eq_getElem (by omega)
      generalize l[j - 1]=y at hy
      have e:=Odz hx h0 hy
      rw[b1,b2]at e
      unfold inB at b2
      obtain⟨j',hj'⟩:∃j',j'=j - 1:=⟨_,rfl⟩
      rw[←hj']at hy
      have ws:IntKind.i64.wrap ((j:Int) - 1)=(j':Int):=by rw[ARz (by omega) (by omega)];omega
      cases b3:A1z y.Name a.Name with
      |false=>
       rw[bad (by rw[e,b3];rfl)]
       unfold A1z at b3
       simp only[go_sem,seval,h1,hx,hc,b1,hin,b2,hgt,ws,hy,b3,ACz hlt (by omega)]<;>exact chk1 (by kernel_rfl)
      |true=>
       have e':Buz l j=true:=by rw[e,b3];rfl
       unfold A1z at b3
       simp only[go_sem,seval,h1,hx,hc,b1,hin,b2,hgt,ws,hy,b3,ACz hlt (by omega)]
       exact chk (by kernel_rfl) ⟨_,by omega,j+1,hlt,rfl,step e',rfl⟩
  ·have h1:¬((j:Int)<(l.length:Int)):=by omega
   obtain rfl:j=l.length:=by omega
   have e:BXz l=decide ((l.length:Int)≤4):=by unfold BXz;rw[BRz hp,Bool.true_and]
   rw[e]
   simp only[go_sem,seval,h1]
set_option maxHeartbeats 1000000 in
theorem GHz (n:Nat) (hn:Big+3≤n) (l:List TAttr) (ho:∀a∈l,a.ok) (hl:l.length≤Bd):pcall env n 166 [.c .one [.sh true (.s 2 (l.map TAttr.pv))]] []=some ⟨pvSV (.b (BXz l)),[]⟩:=by
 obtain⟨m,rfl⟩:=AEz hn
 have hB:=ASz
 have hbd:Bd=1048576:=rfl
 have hin:=fun a b c=>Fuz m (deep hn (by decide)) a b c
 simp only[go_sem]at hin
 refine ANz (ADz (fn:=Tryz.f166) rfl rfl rfl (Nat.le_of_ble_eq_true rfl) ?_)
 unfold Tryz.f166
 simp only[go_sem,seval]
 refine AFz (fun k σ=>∃j:Nat,j≤l.length∧k=l.length - j∧(∀i,i<j→Buz l i=true)∧σ=slots 42 [(0,.c .one [.sh true (.s 2 (l.map TAttr.pv))]),(5,.c .one [.sh true (.s 2 (l.map TAttr.pv))]),(6,.c .one [.sh false (.i .i64 (l.length:Nat))]),(7,.c .one [.sh false (.i .i64 (j:Nat))])]) l.length (by omega) ?_ ?_
 ·simp only[go_sem,seval]
  exact⟨0,Nat.zero_le _,rfl,fun i hi=>absurd hi (Nat.not_lt_zero _),rfl⟩
 ·rintro k σ ⟨j,hj,rfl,hp,rfl⟩
  by_cases hlt:j<l.length
  ·have h1:((j:Int)<(l.length:Int)):=by omega
   have hx:l[j]? =some l[j]:=List.getElem?_eq_getElem hlt
   have hok:=ho _ (List.getElem_mem hlt)
   generalize l[j]=a at hx hok
   have hc:=FDz m (deep hn (by decide)) a.Name hok.Name
   simp only[go_sem]at hc
   have step:Buz l j=true→∀i,i<j+1→Buz l i=true:=fun e i hi=>by
    rcases Nat.lt_succ_iff_lt_or_eq.1 hi with h|h
    ·exact hp i h
    ·subst h;exact e
   have bad:Buz l j=false→BXz l=false:=fun e=>by unfold BXz;rw[A8z hlt e,Bool.false_and]
   cases b1:BYz a.Name with
   |false=>
    rw[bad (Ofz hx b1)]
    simp only[go_sem,seval,h1,hx,hc,b1]<;>exact chk1 (by kernel_rfl)
   |true=>
    cases b2:inB a.Val.size 1 16 with
    |false=>
     rw[bad (Oez hx b2)]
     unfold inB at b2
     simp only[go_sem,seval,h1,hx,hc,b1,hin,b2]<;>exact chk1 (by kernel_rfl)
    |true=>
     by_cases h0:j=0
     ·have e:=Ogz hx h0
      rw[b1,b2]at e
      unfold inB at b2
      have hgt:¬((j:Int)>0):=by omega
      simp only[go_sem,seval,h1,hx,hc,b1,hin,b2,hgt,ACz hlt (by omega)]
      exact chk (by kernel_rfl) ⟨_,by omega,j+1,hlt,rfl,step e,rfl⟩
     ·have hgt:((j:Int)>0):=by omega
      have hy:l[j - 1]? =some l[j - 1]:=List.getElem?_eq_getElem (by omega)
      generalize l[j - 1]=y at hy
      have e:=Odz hx h0 hy
      rw[b1,b2]at e
      unfold inB at b2
      obtain⟨j',hj'⟩:∃j',j'=j - 1:=⟨_,rfl⟩
      rw[←hj']at hy
      have ws:IntKind.i64.wrap ((j:Int) - 1)=(j':Int):=by rw[ARz (by omega) (by omega)];omega
      cases b3:A1z y.Name a.Name with
      |false=>
       rw[bad (by rw[e,b3];rfl)]
       unfold A1z at b3
       simp only[go_sem,seval,h1,hx,hc,b1,hin,b2,hgt,ws,hy,b3,ACz hlt (by omega)]<;>exact chk1 (by kernel_rfl)
      |true=>
       have e':Buz l j=true:=by rw[e,b3];rfl
       unfold A1z at b3
       simp only[go_sem,seval,h1,hx,hc,b1,hin,b2,hgt,ws,hy,b3,ACz hlt (by omega)]
       exact chk (by kernel_rfl) ⟨_,by omega,j+1,hlt,rfl,step e',rfl⟩
  ·have h1:¬((j:Int)<(l.length:Int)):=by omega
   obtain rfl:j=l.length:=by omega
   have e:BXz l=decide ((l.length:Int)≤4):=by unfold BXz;rw[BRz hp,Bool.true_and]
   rw[e]
   simp only[go_sem,seval,h1]
def FUz (prev:Option TEnt) (a:TEnt):Bool:=BYz a.Name&&inB a.Ino 2 1000&&(match prev with
 |some y=>A1z y.Name a.Name
 |none=>true)
def B2z (l:List TEnt) (i:Nat):Bool:=match l[i]? with
 |some a=>FUz (if i=0 then none else l[i - 1]?) a
 |none=>true
def CLz (l:List TEnt):Bool:=allB l.length (B2z l)&&decide ((l.length:Int)≤10)
theorem Pxz {l:List TEnt} {j:Nat} {a:TEnt} (h:l[j]? =some a) (h0:j=0):B2z l j=(BYz a.Name&&inB a.Ino 2 1000):=by
 simp only[B2z,h,FUz,if_pos h0,Bool.and_true]
theorem Puz {l:List TEnt} {j:Nat} {a y:TEnt} (h:l[j]? =some a) (h0:j≠0) (hy:l[j - 1]? =some y):B2z l j=(BYz a.Name&&inB a.Ino 2 1000&&A1z y.Name a.Name):=by
 simp only[B2z,h,FUz,if_neg h0,hy]
theorem Pwz {l:List TEnt} {j:Nat} {a:TEnt} (h:l[j]? =some a) (hb:BYz a.Name=false):B2z l j=false:=by
 simp only[B2z,h,FUz,hb,Bool.false_and]
theorem Pvz {l:List TEnt} {j:Nat} {a:TEnt} (h:l[j]? =some a) (hb:inB a.Ino 2 1000=false):B2z l j=false:=by
 simp only[B2z,h,FUz,hb,Bool.and_false,Bool.false_and]
set_option maxHeartbeats 1000000 in
theorem PEz (n:Nat) (hn:Big+3≤n) (l:List TEnt) (ho:∀a∈l,a.ok) (hl:l.length≤Bd):pcall env n 239 [.c .one [.sh true (.s 2 (l.map TEnt.pv))]] []=some ⟨pvSV (.b (CLz l)),[]⟩:=by
 obtain⟨m,rfl⟩:=AEz hn
 have hB:=ASz
 have hbd:Bd=1048576:=rfl
 have hin:=fun a b c=>E2z m (deep hn (by decide)) a b c
 simp only[go_sem]at hin
 refine ANz (ADz (fn:=Tryz.f239) rfl rfl rfl (Nat.le_of_ble_eq_true rfl) ?_)
 unfold Tryz.f239
 simp only[go_sem,seval]
 refine AFz (fun k σ=>∃j:Nat,j≤l.length∧k=l.length - j∧(∀i,i<j→B2z l i=true)∧σ=slots 47 [(0,.c .one [.sh true (.s 2 (l.map TEnt.pv))]),(3,.c .one [.sh false (.i .i64 (j:Nat))])]) l.length (by omega) ?_ ?_
 ·simp only[go_sem,seval]
  exact⟨0,Nat.zero_le _,rfl,fun i hi=>absurd hi (Nat.not_lt_zero _),rfl⟩
 ·rintro k σ ⟨j,hj,rfl,hp,rfl⟩
  by_cases hlt:j<l.length
  ·have h1:((j:Int)<(l.length:Int)):=by omega
   have hx:l[j]? =some l[j]:=List.getElem?_eq_getElem hlt
   have hok:=ho _ (List.getElem_mem hlt)
   generalize l[j]=a at hx hok
   have hc:=D7z m (deep hn (by decide)) a.Name hok.Name
   simp only[go_sem]at hc
   have step:B2z l j=true→∀i,i<j+1→B2z l i=true:=fun e i hi=>by
    rcases Nat.lt_succ_iff_lt_or_eq.1 hi with h|h
    ·exact hp i h
    ·subst h;exact e
   have bad:B2z l j=false→CLz l=false:=fun e=>by unfold CLz;rw[A8z hlt e,Bool.false_and]
   cases b1:BYz a.Name with
   |false=>
    rw[bad (Pwz hx b1)]
    simp only[go_sem,seval,h1,hx,hc,b1]<;>exact chk1 (by kernel_rfl)
   |true=>
    cases b2:inB a.Ino 2 1000 with
    |false=>
     rw[bad (Pvz hx b2)]
     unfold inB at b2
     simp only[go_sem,seval,h1,hx,hc,b1,hin,b2]<;>exact chk1 (by kernel_rfl)
    |true=>
     by_cases h0:j=0
     ·have e:=Pxz hx h0
      rw[b1,b2]at e
      unfold inB at b2
      have hgt:¬((j:Int)>0):=by omega
      simp only[go_sem,seval,h1,hx,hc,b1,hin,b2,hgt,ACz hlt (by omega)]
      exact chk (by kernel_rfl) ⟨_,by omega,j+1,hlt,rfl,step e,rfl⟩
     ·have hgt:((j:Int)>0):=by omega
      have hy:l[j - 1]? =some l[j - 1]:=List.getElem?_eq_getElem (by omega)
      generalize l[j - 1]=y at hy
      have e:=Puz hx h0 hy
      rw[b1,b2]at e
      unfold inB at b2
      obtain⟨j',hj'⟩:∃j',j'=j - 1:=⟨_,rfl⟩
      rw[←hj']at hy
      have ws:IntKind.i64.wrap ((j:Int) - 1)=(j':Int):=by rw[ARz (by omega) (by omega)];omega
      cases b3:A1z y.Name a.Name with
      |false=>
       rw[bad (by rw[e,b3];rfl)]
       unfold A1z at b3
       simp only[go_sem,seval,h1,hx,hc,b1,hin,b2,hgt,ws,hy,b3,ACz hlt (by omega)]<;>exact chk1 (by kernel_rfl)
      |true=>
       have e':B2z l j=true:=by rw[e,b3];rfl
       unfold A1z at b3
       simp only[go_sem,seval,h1,hx,hc,b1,hin,b2,hgt,ws,hy,b3,ACz hlt (by omega)]
       exact chk (by kernel_rfl) ⟨_,by omega,j+1,hlt,rfl,step e',rfl⟩
  ·have h1:¬((j:Int)<(l.length:Int)):=by omega
   obtain rfl:j=l.length:=by omega
   have e:CLz l=decide ((l.length:Int)≤10):=by unfold CLz;rw[BRz hp,Bool.true_and]
   rw[e]
   simp only[go_sem,seval,h1]
end Go.Proofs.YtblelojdboefjaaGreatDoor.R
namespace Go.Proofs.YtblelojdboefjaaGreatDoor.R
open Go
def Fkz (x:TInode):Bool:=match x.Kind==1 with
 |true=>(x.Ents.length:Int)==0
 |false=>match x.Kind==2 with
  |true=>((x.Data.length:Int)==0)&&decide (x.Links≤1)
  |false=>false
def Auz (x:TInode):Bool:=inB x.Ino 1 1000&&(inB x.Links 0 1000&&((x.Links==0)==(x.Ino==1)))&& !(decide ((x.Data.length:Int)>100))&&CLz x.Ents&&BXz x.Attrs&&Fkz x
theorem Njz {x:TInode} (h:(x.Kind==1)=true):Fkz x=((x.Ents.length:Int)==0):=by unfold Fkz;rw[h]
theorem SQz {x:TInode} (h:(x.Kind==1)=false) (h2:(x.Kind==2)=true):Fkz x=(((x.Data.length:Int)==0)&&decide (x.Links≤1)):=by unfold Fkz;rw[h,h2]
theorem Kgz {x:TInode} (h:(x.Kind==1)=false) (h2:(x.Kind==2)=false):Fkz x=false:=by unfold Fkz;rw[h,h2]
set_option maxHeartbeats 4000000 in
theorem Nmz (n:Nat) (hn:Big+5≤n) (x:TInode) (hx:x.ok):pcall env n 189 [.c .agg (x.pv.map AMz)] []=some ⟨pvSV (.b (Auz x)),[]⟩:=by
 obtain⟨m,rfl⟩:=AEz hn
 have hin:=fun a b c=>E2z m (deep hn (by decide)) a b c
 have hat:=GGz m (deep hn (by decide)) x.Attrs hx.Attrs.1 hx.Attrs.2
 have hen:=PEz m (deep hn (by decide)) x.Ents hx.Ents.1 hx.Ents.2
 simp only[go_sem]at hin hat hen
 unfold Auz
 refine ANz (ADz (fn:=Tryz.f189) rfl rfl rfl (Nat.le_of_ble_eq_true rfl) ?_)
 unfold Tryz.f189
 cases b1:inB x.Ino 1 1000 with
 |false=>
  unfold inB at b1
  simp only[go_sem,seval,hin,b1]<;>exact chk1 (by kernel_rfl)
 |true=>
  unfold inB at b1
  cases b2:inB x.Links 0 1000 with
  |false=>
   unfold inB at b2
   simp only[go_sem,seval,hin,b1,b2]<;>exact chk1 (by kernel_rfl)
  |true=>
   unfold inB at b2
   cases b3:((x.Links==0)==(x.Ino==1))with
   |false=>
    simp only[go_sem,seval,hin,b1,b2,b3]<;>exact chk1 (by kernel_rfl)
   |true=>
    by_cases b4:((x.Data.length:Int)>100)
    ·simp only[go_sem,seval,hin,b1,b2,b3,b4]<;>exact chk1 (by kernel_rfl)
    ·skip
     cases b5:CLz x.Ents with
     |false=>
      simp only[go_sem,seval,hin,b1,b2,b3,b4,hen,b5]<;>exact chk1 (by kernel_rfl)
     |true=>
      cases b6:BXz x.Attrs with
      |false=>
       simp only[go_sem,seval,hin,b1,b2,b3,b4,hen,b5,hat,b6]<;>exact chk1 (by kernel_rfl)
      |true=>
       cases c1:(x.Kind==1)with
       |true=>
        rw[Njz c1]
        simp only[go_sem,seval,hin,b1,b2,b3,b4,hen,b5,hat,b6,c1]<;>exact chk1 (by kernel_rfl)
       |false=>
        cases c2:(x.Kind==2)with
        |false=>
         rw[Kgz c1 c2]
         simp only[go_sem,seval,hin,b1,b2,b3,b4,hen,b5,hat,b6,c1,c2]<;>exact chk1 (by kernel_rfl)
        |true=>
         rw[SQz c1 c2]
         cases c3:((x.Data.length:Int)==0)with
         |false=>
          simp only[go_sem,seval,hin,b1,b2,b3,b4,hen,b5,hat,b6,c1,c2,c3]<;>exact chk1 (by kernel_rfl)
         |true=>
          simp only[go_sem,seval,hin,b1,b2,b3,b4,hen,b5,hat,b6,c1,c2,c3]<;>exact chk1 (by kernel_rfl)
theorem UWz {l:List TEnt} (h:(l.length:Int)>10):CLz l=false:=by
 unfold CLz
 rw[show decide ((l.length:Int)≤10)=false from decide_eq_false (by omega),Bool.and_false]
set_option maxHeartbeats 4000000 in
theorem Nnz (n:Nat) (hn:Big+5≤n) (x:TInode) (hxo:x.ok):pcall env n 195 [.c .agg (x.pv.map AMz)] []=some ⟨pvSV (.b (Auz x)),[]⟩:=by
 obtain⟨m,rfl⟩:=AEz hn
 have hB:=ASz
 have hbd:Bd=1048576:=rfl
 have hin:=fun a b c=>Fuz m (deep hn (by decide)) a b c
 have hat:=GHz m (deep hn (by decide)) x.Attrs hxo.Attrs.1 hxo.Attrs.2
 simp only[go_sem]at hin hat
 have hl:=hxo.Ents.2
 have ho:=hxo.Ents.1
 refine ANz (ADz (fn:=Tryz.f195) rfl rfl rfl (Nat.le_of_ble_eq_true rfl) ?_)
 unfold Tryz.f195
 cases b1:inB x.Ino 1 1000 with
 |false=>
  have e:Auz x=false:=by unfold Auz;simp[b1]
  rw[e]
  unfold inB at b1
  simp only[go_sem,seval,hin,b1]<;>exact chk1 (by kernel_rfl)
 |true=>
 have b1':=b1
 unfold inB at b1
 by_cases b4:(x.Data.length:Int)>100
 ·have e:Auz x=false:=by unfold Auz;simp[b4]
  rw[e]
  simp only[go_sem,seval,hin,b1,b4]<;>exact chk1 (by kernel_rfl)
 by_cases b5:(x.Ents.length:Int)>10
 ·have e:Auz x=false:=by unfold Auz;simp[UWz b5]
  rw[e]
  simp only[go_sem,seval,hin,b1,b4,b5]<;>exact chk1 (by kernel_rfl)
 cases b6:BXz x.Attrs with
 |false=>
  have e:Auz x=false:=by unfold Auz;simp[b6]
  rw[e]
  simp only[go_sem,seval,hin,b1,b4,b5,hat,b6]<;>exact chk1 (by kernel_rfl)
 |true=>
 simp only[go_sem,seval,hin,b1,b4,b5,hat,b6]
 refine AFz (fun k σ=>∃j:Nat,j≤x.Ents.length∧k=x.Ents.length - j∧(∀i,i<j→B2z x.Ents i=true)∧σ=slots 94 [(1,.c .box [.sh false (.i .i64 x.Ino),.sh false (.i .i64 x.Kind),.sh false (.i .i64 x.Links),.sh true (.s 1 (x.Data.map bpv)),.sh true (.s 2 (x.Ents.map TEnt.pv)),.sh true (.s 2 (x.Attrs.map TAttr.pv))]),(28,.c .one [.sh true (.s 2 (x.Ents.map TEnt.pv))]),(29,.c .one [.sh false (.i .i64 (x.Ents.length:Nat))]),(30,.c .one [.sh false (.i .i64 (j:Nat))])]) x.Ents.length (by omega) ?_ ?_
 ·simp only[go_sem,seval]
  exact⟨0,Nat.zero_le _,rfl,fun i hi=>absurd hi (Nat.not_lt_zero _),rfl⟩
 ·rintro k σ ⟨j,hj,rfl,hp,rfl⟩
  by_cases hlt:j<x.Ents.length
  ·have h1:((j:Int)<(x.Ents.length:Int)):=by omega
   have hx:x.Ents[j]? =some x.Ents[j]:=List.getElem?_eq_getElem hlt
   have hok:=ho _ (List.getElem_mem hlt)
   generalize x.Ents[j]=a at hx hok
   have hc:=FDz m (deep hn (by decide)) a.Name hok.Name
   simp only[go_sem]at hc
   have step:B2z x.Ents j=true→∀i,i<j+1→B2z x.Ents i=true:=fun e i hi=>by
    rcases Nat.lt_succ_iff_lt_or_eq.1 hi with h|h
    ·exact hp i h
    ·subst h;exact e
   have bad:B2z x.Ents j=false→Auz x=false:=fun e=>by
    have:CLz x.Ents=false:=by unfold CLz;rw[A8z hlt e,Bool.false_and]
    unfold Auz;simp[this]
   cases d1:BYz a.Name with
   |false=>
    rw[bad (Pwz hx d1)]
    simp only[go_sem,seval,h1,hx,hc,d1]<;>exact chk1 (by kernel_rfl)
   |true=>
    cases d2:inB a.Ino 2 1000 with
    |false=>
     rw[bad (Pvz hx d2)]
     unfold inB at d2
     simp only[go_sem,seval,h1,hx,hc,d1,hin,d2]<;>exact chk1 (by kernel_rfl)
    |true=>
     by_cases h0:j=0
     ·have e:=Pxz hx h0
      rw[d1,d2]at e
      unfold inB at d2
      have hgt:¬((j:Int)>0):=by omega
      simp only[go_sem,seval,h1,hx,hc,d1,hin,d2,hgt,ACz hlt (by omega)]
      exact chk (by kernel_rfl) ⟨_,by omega,j+1,hlt,rfl,step e,rfl⟩
     ·have hgt:((j:Int)>0):=by omega
      have hy:x.Ents[j - 1]? =some x.Ents[j - 1]:=List.getElem?_eq_getElem (by omega)
      generalize x.Ents[j - 1]=y at hy
      have e:=Puz hx h0 hy
      rw[d1,d2]at e
      unfold inB at d2
      obtain⟨j',hj'⟩:∃j',j'=j - 1:=⟨_,rfl⟩
      rw[←hj']at hy
      have ws:IntKind.i64.wrap ((j:Int) - 1)=(j':Int):=by rw[ARz (by omega) (by omega)];omega
      cases d3:A1z y.Name a.Name with
      |false=>
       rw[bad (by rw[e,d3];rfl)]
       unfold A1z at d3
       simp only[go_sem,seval,h1,hx,hc,d1,hin,d2,hgt,ws,hy,d3,ACz hlt (by omega)]<;>exact chk1 (by kernel_rfl)
      |true=>
       have e':B2z x.Ents j=true:=by rw[e,d3];rfl
       unfold A1z at d3
       simp only[go_sem,seval,h1,hx,hc,d1,hin,d2,hgt,ws,hy,d3,ACz hlt (by omega)]
       exact chk (by kernel_rfl) ⟨_,by omega,j+1,hlt,rfl,step e',rfl⟩
  ·have h1:¬((j:Int)<(x.Ents.length:Int)):=by omega
   obtain rfl:j=x.Ents.length:=by omega
   have be:CLz x.Ents=true:=by
    unfold CLz
    rw[BRz hp,Bool.true_and]
    exact decide_eq_true (by omega)
   have e:Auz x=(inB x.Links 0 1000&&((x.Links==0)==(x.Ino==1))&&Fkz x):=by
    unfold Auz
    rw[b1',be,b6,show decide ((x.Data.length:Int)>100)=false from decide_eq_false b4]
    simp
   rw[e]
   cases b2:inB x.Links 0 1000 with
   |false=>
    unfold inB at b2
    simp only[go_sem,seval,h1,hin,b2]<;>exact chk1 (by kernel_rfl)
   |true=>
    unfold inB at b2
    cases b3:((x.Links==0)==(x.Ino==1))with
    |false=>
     simp only[go_sem,seval,h1,hin,b2,b3]<;>exact chk1 (by kernel_rfl)
    |true=>
     cases c1:(x.Kind==1)with
     |true=>
      rw[Njz c1]
      simp only[go_sem,seval,h1,hin,b2,b3,c1]<;>exact chk1 (by kernel_rfl)
     |false=>
      cases c2:(x.Kind==2)with
      |false=>
       rw[Kgz c1 c2]
       simp only[go_sem,seval,h1,hin,b2,b3,c1,c2]<;>exact chk1 (by kernel_rfl)
      |true=>
       rw[SQz c1 c2]
       cases c3:((x.Data.length:Int)==0)with
       |false=>
        simp only[go_sem,seval,h1,hin,b2,b3,c1,c2,c3]<;>exact chk1 (by kernel_rfl)
       |true=>
        simp only[go_sem,seval,h1,hin,b2,b3,c1,c2,c3]<;>exact chk1 (by kernel_rfl)
end Go.Proofs.YtblelojdboefjaaGreatDoor.R
namespace Go.Proofs.YtblelojdboefjaaGreatDoor.R
open Go
def Bjz (l:List TInode) (k:Int):Int:=match l.findIdx? (fun x=>x.Ino==k)with
 |some j=>(j:Nat)
 |none=> -1
theorem KNz {l:List TInode} {k:Int} {j:Nat} {a:TInode} (hx:l[j]? =some a) (ha:(a.Ino==k)=true) (hp:∀(i:Nat) (y:TInode),i<j→l[i]? =some y→(y.Ino==k)=false):Bjz l k=(j:Nat):=by
 have:l.findIdx? (fun x=>x.Ino==k)=some j:=by
  rw[List.findIdx?_eq_some_iff_getElem]
  have hj:=(List.getElem?_eq_some_iff.1 hx).1
  refine⟨hj,?_,fun i hi=> ?_⟩
  ·have:=(List.getElem?_eq_some_iff.1 hx).2
   rw[this];exact ha
  ·have:=hp i l[i] hi (List.getElem?_eq_getElem (by omega))
   simp[this]
 unfold Bjz;rw[this]
theorem KOz {l:List TInode} {k:Int} (hp:∀(i:Nat) (y:TInode),i<l.length→l[i]? =some y→(y.Ino==k)=false):Bjz l k= -1:=by
 have:l.findIdx? (fun x=>x.Ino==k)=none:=by
  rw[List.findIdx?_eq_none_iff]
  intro y hy
  obtain⟨i,hi⟩:=List.getElem?_of_mem hy
  simpa using hp i y (List.getElem?_eq_some_iff.1 hi).1 hi
 unfold Bjz;rw[this]
set_option maxHeartbeats 1000000 in
theorem G6z (n:Nat) (hn:Big+2≤n) (t:TTab) (ht:t.ok) (k:Int):pcall env n 108 [.c .agg (t.pv.map AMz),pvSV (.i .i64 k)] []=some ⟨pvSV (.i .i64 (Bjz t.Inodes k)),[]⟩:=by
 obtain⟨m,rfl⟩:=AEz hn
 have hB:=ASz
 have hbd:Bd=1048576:=rfl
 have hl:=ht.Inodes.2
 refine ANz (ADz (fn:=Tryz.f108) rfl rfl rfl (Nat.le_of_ble_eq_true rfl) ?_)
 unfold Tryz.f108
 simp only[go_sem,seval]
 refine AFz (fun r σ=>∃j:Nat,j≤t.Inodes.length∧r=t.Inodes.length - j∧(∀(i:Nat) (y:TInode),i<j→t.Inodes[i]? =some y→(y.Ino==k)=false)∧σ=slots 22 [(1,.c .one [.sh false (.i .i64 k)]),(2,.c .box [.sh true (.s 6 (t.Inodes.map TInode.pv)),.sh false (.i .i64 t.Next)]),(5,.c .one [.sh false (.i .i64 (j:Nat))])]) t.Inodes.length (by omega) ?_ ?_
 ·simp only[go_sem,seval]
  exact⟨0,Nat.zero_le _,rfl,fun i y hi=>absurd hi (Nat.not_lt_zero _),rfl⟩
 ·rintro r σ ⟨j,hj,rfl,hp,rfl⟩
  by_cases hlt:j<t.Inodes.length
  ·have h1:((j:Int)<(t.Inodes.length:Int)):=by omega
   have hx:t.Inodes[j]? =some t.Inodes[j]:=List.getElem?_eq_getElem hlt
   generalize t.Inodes[j]=a at hx
   cases ha:(a.Ino==k)with
   |true=>
    rw[KNz hx ha hp]
    simp only[go_sem,seval,h1,hx,ha]
   |false=>
    simp only[go_sem,seval,h1,hx,ha,ACz hlt (by omega)]
    refine⟨_,by omega,j+1,hlt,rfl,fun i y hi hy=> ?_,rfl⟩
    rcases Nat.lt_succ_iff_lt_or_eq.1 hi with h|h
    ·exact hp i y h hy
    ·subst h;rw[hx]at hy;injection hy with hy;subst hy;exact ha
  ·have h1:¬((j:Int)<(t.Inodes.length:Int)):=by omega
   obtain rfl:j=t.Inodes.length:=by omega
   rw[KOz hp]
   simp only[go_sem,seval,h1]
theorem QXz (n:Nat) (hn:Big+1≤n) (x:TInode) (k:Int):pcall env n 199 [.c .agg (x.pv.map AMz),.bp 0 0] [[.sh false (.i .i64 k)]]=some ⟨pvSV (.b (x.Ino==k)),[[.sh false (.i .i64 k)]]⟩:=by
 obtain⟨m,rfl⟩:=AEz hn
 refine ANz (ADz (fn:=Tryz.f199) rfl rfl rfl (Nat.le_of_ble_eq_true rfl) ?_)
 unfold Tryz.f199
 simp only[go_sem,seval]
@[go_sem] theorem AA1z {α β:Type} {f:α→Option β} {a:α}:List.mapM f [a]=(f a).map fun y=>[y]:=by
 simp only[List.mapM_cons,List.mapM_nil]
 cases f a<;>rfl
@[go_sem] theorem AA0z {α β:Type} {f:α→Option β} {a b:α}:List.mapM f [a,b]=(f a).bind fun y=>(f b).map fun z=>[y,z]:=by
 simp only[List.mapM_cons,List.mapM_nil]
 cases f a<;>cases f b<;>rfl
@[go_sem] theorem Zcz {a:Nat}:List.range' a 1=[a]:=rfl
@[go_sem] theorem Zbz {a:Nat}:List.range' a 2=[a,a+1]:=rfl
@[go_sem ↓] theorem AAUz {E:Env} {call:CallF} {N:Nat} {ty:TypeId} {d:Nat} {σ:St} {g:FuncId} {c:Nat} {cs:List Nat} {f:Operand} {xs:List Operand}:RDz E call N ty d σ (.fn g (c::cs)) f xs=Bsz E call N ty d σ f xs:=rfl
set_option maxHeartbeats 1000000 in
theorem MZz (n:Nat) (hn:Big+3≤n) (l:List TInode) (hl:l.length≤Bd) (k:Int):pcall env n 198 [.c .one [.sh true (.s 6 (l.map TInode.pv))],.fn 199 [0]] [[.sh false (.i .i64 k)]]=some ⟨pvSV (.i .i64 (Bjz l k)),[[.sh false (.i .i64 k)]]⟩:=by
 obtain⟨m,rfl⟩:=AEz hn
 have hB:=ASz
 have hbd:Bd=1048576:=rfl
 refine ANz (ADz (fn:=Tryz.f198) rfl rfl rfl (Nat.le_of_ble_eq_true rfl) ?_)
 unfold Tryz.f198
 simp only[go_sem,seval]
 refine AFz (fun r σ=>∃j:Nat,j≤l.length∧r=l.length - j∧(∀(i:Nat) (y:TInode),i<j→l[i]? =some y→(y.Ino==k)=false)∧σ=slots 19 [(0,.c .one [.sh true (.s 6 (l.map TInode.pv))]),(1,.fn 199 [19]),(7,.c .one [.sh false (.i .i64 (l.length:Nat))]),(8,.c .one [.sh false (.i .i64 (j:Nat))])]++[.c .box [.sh false (.i .i64 k)]]) l.length (by omega) ?_ ?_
 ·simp only[go_sem,seval]
  exact⟨0,Nat.zero_le _,rfl,fun i y hi=>absurd hi (Nat.not_lt_zero _),rfl⟩
 ·rintro r σ ⟨j,hj,rfl,hp,rfl⟩
  by_cases hlt:j<l.length
  ·have h1:((j:Int)<(l.length:Int)):=by omega
   have hx:l[j]? =some l[j]:=List.getElem?_eq_getElem hlt
   generalize l[j]=a at hx
   have hc:=QXz m (deep hn (by decide)) a k
   simp only[go_sem]at hc
   cases ha:(a.Ino==k)with
   |true=>
    rw[KNz hx ha hp]
    simp only[go_sem,seval,h1,hx,ha,hc]
   |false=>
    simp only[go_sem,seval,h1,hx,ha,hc,ACz hlt (by omega)]
    refine⟨_,by omega,j+1,hlt,rfl,fun i y hi hy=> ?_,rfl⟩
    rcases Nat.lt_succ_iff_lt_or_eq.1 hi with h|h
    ·exact hp i y h hy
    ·subst h;rw[hx]at hy;injection hy with hy;subst hy;exact ha
  ·have h1:¬((j:Int)<(l.length:Int)):=by omega
   obtain rfl:j=l.length:=by omega
   rw[KOz hp]
   simp only[go_sem,seval,h1]
theorem KPz (n:Nat) (hn:Big+4≤n) (t:TTab) (ht:t.ok) (k:Int):pcall env n 119 [.c .agg (t.pv.map AMz),pvSV (.i .i64 k)] []=some ⟨pvSV (.i .i64 (Bjz t.Inodes k)),[]⟩:=by
 obtain⟨m,rfl⟩:=AEz hn
 have hc:=MZz m (deep hn (by decide)) t.Inodes ht.Inodes.2 k
 simp only[go_sem]at hc
 refine ANz (ADz (fn:=Tryz.f119) rfl rfl rfl (Nat.le_of_ble_eq_true rfl) ?_)
 unfold Tryz.f119
 simp only[go_sem,seval,hc]
end Go.Proofs.YtblelojdboefjaaGreatDoor.R
namespace Go.Proofs.YtblelojdboefjaaGreatDoor.R
open Go
section
variable {E:Env} {call:CallF} {N n:Nat}
theorem Ybz {d:Nat} {f:FuncId} {args:List SV} {bs:List (List CV)} {fn:Func} {code:Code} {K:Ret→Prop} (hn:Big+(d+1)≤n) (ho:E.orc f=none) (hf:E.fns f=some fn) (hb:fn.body=some code) (hl:args.length≤fn.ntmps)
  (h:∀m,(∀{k},k≤d→Big+k≤m)→ @Wq _ (AGz (E.run f (icall E m)) (pcall E m) fn.ntmps m code (start fn.ntmps args bs)) ⟨fun q=>ended q.1∧ @Wq _ (finish (E.run f (icall E m)).T fn.ntmps bs.length fn.results.toList q.2) ⟨K⟩⟩):∃r,pcall E n f args bs=some r∧K r:=by
 obtain⟨m,rfl⟩:∃m,n=m+1:=⟨n - 1,by have:=ASz;omega⟩
 exact ADz (K:=⟨K⟩) ho hf hb hl (h m fun hk=>by omega)
theorem walk {d:Nat} {f:FuncId} {args:List SV} {bs:List (List CV)} {r:Ret} {fn:Func} {code:Code} (hn:Big+(d+1)≤n) (ho:E.orc f=none) (hf:E.fns f=some fn) (hb:fn.body=some code) (hl:args.length≤fn.ntmps)
  (h:∀m,(∀{k},k≤d→Big+k≤m)→ @Wq _ (AGz (E.run f (icall E m)) (pcall E m) fn.ntmps m code (start fn.ntmps args bs)) ⟨fun q=>ended q.1∧ @Wq _ (finish (E.run f (icall E m)).T fn.ntmps bs.length fn.results.toList q.2) ⟨fun s=>s=r⟩⟩):pcall E n f args bs=some r:=by
 obtain⟨q,h1,h2⟩:=Ybz hn ho hf hb hl h
 rw[h1,h2]
theorem GXz {E:Env} {n:Nat} {f:FuncId} {g:CallF→List SV→List (List CV)→Option Ret} {args:List SV} {bs:List (List CV)} (h:E.orc f=some g):pcall E (n+1) f args bs=g (pcall E n) args bs:=by
 rw[HQz];simp only[pbody,h]
class Held where
 st:St
 pr:Prop
def Fin (σ:St) [h:Held]:Prop:=σ=h.st∧h.pr
theorem fin {σ:St} {h:Held} (e:σ=h.st) (p:h.pr): @Fin σ h:=⟨e,p⟩
theorem fin' {σ τ:St} (e:σ=τ): @Fin σ ⟨τ,True⟩:=⟨e,trivial⟩
theorem JZz {b:Code} {σ:St} {K:Kont (Ex×St)} (len:Nat) (S:Nat→St) (I:Nat→Prop) (hn:Big≤n) (hl:len≤1152921504606846976)
  (h0: @Wq _ (some (tidy N (E.D (BVz b)) σ)) ⟨fun σ=> @Fin σ ⟨S 0,I 0⟩⟩)
  (hs:∀j,j<len→(((j:Int)<(len:Int))=True)→IntKind.i64.wrap ((j:Int)+1)=((j+1:Nat):Int)→I j→ @Wq _ (AGz E call N n b (S j)) ⟨cont (fun σ=> @Wq _ (some (tidy N (E.D (BVz b)) σ)) ⟨fun σ=> @Fin σ ⟨S (j+1),I (j+1)⟩⟩) K.run⟩)
  (he:I len→ @Wq _ (AGz E call N n b (S len)) ⟨cont (fun _=>False) K.run⟩): @Wq _ (AGz E call N n (.loop b) σ) K:=by
 have hB:Big=9223372036854775808:=rfl
 refine AFz (fun k τ=>∃j,j≤len∧k=len - j∧I j∧τ=S j) len (by omega) ?_ ?_
 ·rw[Evz]at h0 ⊢
  exact⟨0,Nat.zero_le _,rfl,h0.2,h0.1⟩
 ·rintro k τ ⟨j,hj,rfl,hI,rfl⟩
  by_cases hlt:j<len
  ·refine(hs j hlt (by simp only[eq_iff_iff,iff_true];omega) (ACz hlt hl) hI).mono fun r hr=> ?_
   obtain⟨e,τ⟩:=r
   cases e with
   |normal=>exact Wq.mono (K:=⟨fun σ=> @Fin σ ⟨S (j+1),I (j+1)⟩⟩) hr fun τ ht=>⟨_,by omega,j+1,hlt,rfl,ht.2,ht.1⟩
   |_=>exact hr
  ·obtain rfl:j=len:=by omega
   refine(he hI).mono fun r hr=> ?_
   obtain⟨e,τ⟩:=r
   cases e with
   |normal=>exact hr.elim
   |_=>exact hr
theorem A5z {α:Type} {b:Code} {σ:St} {K:Kont (Ex×St)} (l:List α) (S:Nat→St) (I:Nat→Prop) (hn:Big≤n) (hl:l.length≤1152921504606846976)
  (h0: @Wq _ (some (tidy N (E.D (BVz b)) σ)) ⟨fun σ=> @Fin σ ⟨S 0,I 0⟩⟩)
  (hs:∀j x,l[j]? =some x→x∈l→j<l.length→(((j:Int)<(l.length:Int))=True)→IntKind.i64.wrap ((j:Int)+1)=((j+1:Nat):Int)→I j→ @Wq _ (AGz E call N n b (S j)) ⟨cont (fun σ=> @Wq _ (some (tidy N (E.D (BVz b)) σ)) ⟨fun σ=> @Fin σ ⟨S (j+1),I (j+1)⟩⟩) K.run⟩)
  (he:I l.length→ @Wq _ (AGz E call N n b (S l.length)) ⟨cont (fun _=>False) K.run⟩): @Wq _ (AGz E call N n (.loop b) σ) K:=
 JZz l.length S I hn hl h0 (fun j hj h1 h2 hI=>hs j _ (List.getElem?_eq_getElem hj) (List.getElem_mem hj) hj h1 h2 hI) he
end
attribute [go_sem] Int.lt_irrefl
theorem OVz {w x y:Nat} (hx:x<2^w) (hy:y<2^w):(BitVec.ofInt w (x:Int)^^^BitVec.ofInt w (y:Int)).toNat=x^^^y:=by
 rw[BitVec.toNat_xor,BitVec.ofInt_natCast,BitVec.ofInt_natCast,BitVec.toNat_ofNat,BitVec.toNat_ofNat,Nat.mod_eq_of_lt hx,Nat.mod_eq_of_lt hy]
theorem Jyz {w x y:Nat} (hx:x<2^w) (hy:y<2^w):(BitVec.ofInt w (x:Int)&&&BitVec.ofInt w (y:Int)).toNat=x&&&y:=by
 rw[BitVec.toNat_and,BitVec.ofInt_natCast,BitVec.ofInt_natCast,BitVec.toNat_ofNat,BitVec.toNat_ofNat,Nat.mod_eq_of_lt hx,Nat.mod_eq_of_lt hy]
theorem WCz {w x y:Nat} (hx:x<2^w) (hy:y<2^w):(BitVec.ofInt w (x:Int)|||BitVec.ofInt w (y:Int)).toNat=x|||y:=by
 rw[BitVec.toNat_or,BitVec.ofInt_natCast,BitVec.ofInt_natCast,BitVec.toNat_ofNat,BitVec.toNat_ofNat,Nat.mod_eq_of_lt hx,Nat.mod_eq_of_lt hy]
def crcR (r:Nat):Nat:=if r % 2=1 then(r/2)^^^2197175160 else r/2
def crcB (r:Nat) (b:UInt8):Nat:=crcR (crcR (crcR (crcR (crcR (crcR (crcR (crcR (r^^^b.toNat))))))))
def crcL (l:List UInt8):Nat:=l.foldl crcB 4294967295
def crcN (l:List UInt8):Nat:=crcL l^^^4294967295
theorem D3z {r:Nat} (h:r<4294967296):crcR r<4294967296:=by
 unfold crcR;split
 ·exact Nat.xor_lt_two_pow (n:=32) (by omega) (by omega)
 ·omega
theorem V7z {r:Nat} {b:UInt8} (h:r<4294967296):crcB r b<4294967296:=by
 unfold crcB
 have:=b.toNat_lt
 exact D3z (D3z (D3z (D3z (D3z (D3z (D3z (D3z (Nat.xor_lt_two_pow (n:=32) h (by omega)))))))))
theorem HAz (l:List UInt8):crcL l<4294967296:=by
 suffices H:∀(l:List UInt8) (r:Nat),r<4294967296→l.foldl crcB r<4294967296 from H l _ (by decide)
 intro l
 induction l with
 |nil=>intro r h;exact h
 |cons b l ih=>intro r h;exact ih _ (V7z h)
theorem Lfz (l:List UInt8):crcN l<4294967296:=Nat.xor_lt_two_pow (n:=32) (HAz l) (by decide)
theorem MSz {l:List UInt8} {j:Nat} {b:UInt8} (h:l[j]? =some b):crcL (l.take (j+1))=crcB (crcL (l.take j)) b:=by
 obtain⟨hj,e⟩:=List.getElem?_eq_some_iff.1 h
 unfold crcL
 rw[List.take_succ_eq_append_getElem hj,e,List.foldl_append];rfl
def FEz (r:Nat):Nat→Nat
 |0=>r
 |k+1=>crcR (FEz r k)
theorem Jvz {r:Nat} (h:r<4294967296):∀k,FEz r k<4294967296
 |0=>h
 |k+1=>D3z (Jvz h k)
theorem LGz {x y:Nat} (hx:x<4294967296) (hy:y<4294967296):xorI .u32 (x:Int) (y:Int)=((x^^^y:Nat):Int):=by
 unfold xorI
 rw[OVz hx hy,IntKind.wrap_u32]
 have:=Nat.xor_lt_two_pow (n:=32) hx hy
 omega
theorem VHz {x:Nat} (hx:x<4294967296):andI .u32 (x:Int) 1=((x % 2:Nat):Int):=by
 unfold andI
 rw[show(1:Int)=((1:Nat):Int)from rfl,Jyz hx (by decide),IntKind.wrap_u32,Nat.and_one_is_mod]
 omega
theorem LFz {x y:Nat} (hx:x<4294967296) (hy:y<4294967296):xorI .i64 (x:Int) (y:Int)=((x^^^y:Nat):Int):=by
 unfold xorI
 rw[OVz (Nat.lt_trans hx (by decide)) (Nat.lt_trans hy (by decide)),IntKind.wrap_i64]
 have:=Nat.xor_lt_two_pow (n:=32) hx hy
 omega
theorem VGz {x:Nat} (hx:x<4294967296):andI .i64 (x:Int) 1=((x % 2:Nat):Int):=by
 unfold andI
 rw[show(1:Int)=((1:Nat):Int)from rfl,Jyz (Nat.lt_trans hx (by decide)) (by decide),IntKind.wrap_i64,Nat.and_one_is_mod]
 omega
theorem TTz {r:Nat} (hr:r<4294967296):xorI .u32 (if IntKind.u32.signed then -1 else IntKind.u32.max) (r:Int)=((r^^^4294967295:Nat):Int):=by
 have:=LGz (x:=4294967295) (y:=r) (by decide) hr
 rw[Nat.xor_comm]at this
 exact this
theorem N4z {x k:Nat}:(x:Int).fdiv (2^k)=((x/2^k:Nat):Int):=by
 rw[show((2:Int)^k)=((2^k:Nat):Int)by simp];exact(Int.ofNat_fdiv x (2^k)).symm
theorem Ylz {r s:Nat} (hs:s≤32) (hr:r<4294967296):BTz .shr .u32 (r:Int) (s:Int)=some (.i .u32 ((r/2^s:Nat):Int)):=by
 have h1:min (Int.toNat (s:Int)) IntKind.u32.bits=s:=by rw[Int.toNat_natCast];exact Nat.min_eq_left hs
 have h2:r/2^s≤r:=Nat.div_le_self _ _
 simp only[BTz,h1,N4z]
 rw[if_neg (by omega)]
theorem GLz {r s:Nat} (hs:s≤64) (hr:r<9223372036854775808):BTz .shr .i64 (r:Int) (s:Int)=some (.i .i64 ((r/2^s:Nat):Int)):=by
 have h1:min (Int.toNat (s:Int)) IntKind.i64.bits=s:=by rw[Int.toNat_natCast];exact Nat.min_eq_left hs
 have h2:r/2^s≤r:=Nat.div_le_self _ _
 simp only[BTz,h1,N4z]
 rw[if_neg (by omega)]
theorem u8w (k:Nat):IntKind.u8.wrap (k:Int)=((UInt8.ofNat k).toNat:Int):=by
 rw[IntKind.wrap_u8,UInt8.toNat_ofNat'];omega
def be4 (n:Nat):List UInt8:=[UInt8.ofNat (n/16777216),UInt8.ofNat (n/65536),UInt8.ofNat (n/256),UInt8.ofNat n]
end Go.Proofs.YtblelojdboefjaaGreatDoor.R
namespace Go.Proofs.YtblelojdboefjaaGreatDoor.R
open Go
theorem Kbz:Bd*32≤LIM:=by decide
theorem S1z (n:Nat) (hn:Big+1≤n) (f:Bool) (l:List UInt8) (h:l.length≤Bd):pcall env n 200 [.c .one [.sh f (.s 1 (l.map bpv))]] []=some ⟨.c .one [.ow false 1 (l.map bpv)],[]⟩:=by
 obtain⟨m,rfl⟩:=AEz hn
 have:=Kbz
 rw[GXz (g:=Brz 1 1 true) rfl]
 simp only[Brz,List.length_map,Bool.not_true,Bool.and_false]
 rw[if_pos ⟨trivial,by omega,fun _=>IQz⟩]
theorem S0z (n:Nat) (hn:Big+1≤n) (f:Bool) (l:List TEnt) (h:l.length≤Bd):pcall env n 201 [.c .one [.sh f (.s 2 (l.map TEnt.pv))]] []=some ⟨.c .one [.ow false 2 (l.map TEnt.pv)],[]⟩:=by
 obtain⟨m,rfl⟩:=AEz hn
 have:=Kbz
 rw[GXz (g:=Brz 2 24 true) rfl]
 simp only[Brz,List.length_map,Bool.not_true,Bool.and_false]
 rw[if_pos ⟨trivial,by omega,fun _=>IQz⟩]
theorem S2z (n:Nat) (hn:Big+1≤n) (f:Bool) (l:List TAttr) (h:l.length≤Bd):pcall env n 202 [.c .one [.sh f (.s 2 (l.map TAttr.pv))]] []=some ⟨.c .one [.ow false 2 (l.map TAttr.pv)],[]⟩:=by
 obtain⟨m,rfl⟩:=AEz hn
 have:=Kbz
 rw[GXz (g:=Brz 2 32 true) rfl]
 simp only[Brz,List.length_map,Bool.not_true,Bool.and_false]
 rw[if_pos ⟨trivial,by omega,fun _=>IQz⟩]
def BUz (x:TInode):List CV:=[.sh false (.i .i64 x.Ino),.sh false (.i .i64 x.Kind),.sh false (.i .i64 x.Links),.ow false 1 (x.Data.map bpv),.ow false 2 (x.Ents.map TEnt.pv),.ow false 2 (x.Attrs.map TAttr.pv)]
set_option maxHeartbeats 4000000 in
theorem OIz (n:Nat) (hn:Big+2≤n) (x:TInode) (hx:x.ok):pcall env n 120 [.c .agg (x.pv.map AMz)] []=some ⟨.c .agg (BUz x),[]⟩:=by
 obtain⟨m,rfl⟩:=AEz hn
 have h1:=S1z m (deep hn (by decide)) true x.Data hx.Data.2
 have h2:=S0z m (deep hn (by decide)) true x.Ents hx.Ents.2
 have h3:=S2z m (deep hn (by decide)) true x.Attrs hx.Attrs.2
 refine ANz (ADz (fn:=Tryz.f120) rfl rfl rfl (Nat.le_of_ble_eq_true rfl) ?_)
 unfold Tryz.f120
 simp only[go_sem,seval,h1,h2,h3,BUz]
set_option maxHeartbeats 4000000 in
theorem SPz (n:Nat) (hn:Big+2≤n) (x:TInode) (hx:x.ok):pcall env n 154 [.c .agg (x.pv.map AMz)] []=some ⟨.c .agg (BUz x),[]⟩:=by
 obtain⟨m,rfl⟩:=AEz hn
 have hl:=Kbz
 have h1:(x.Data.map bpv).length*1≤LIM:=by rw[List.length_map];have:=hx.Data.2;omega
 have h2:(x.Ents.map TEnt.pv).length*24≤LIM:=by rw[List.length_map];have:=hx.Ents.2;omega
 have h3:(x.Attrs.map TAttr.pv).length*32≤LIM:=by rw[List.length_map];have:=hx.Attrs.2;omega
 simp only[List.length_map,Nat.mul_one]at h1 h2 h3
 refine ANz (ADz (fn:=Tryz.f154) rfl rfl rfl (Nat.le_of_ble_eq_true rfl) ?_)
 unfold Tryz.f154
 simp only[go_sem,seval,List.length_map,Nat.zero_mul,Nat.zero_le,h1,h2,h3,BUz]
def B1z:List CV:=[.sh false (.i .i64 0),.sh false (.i .i64 0),.sh false (.i .i64 0),.ow false 1 [],.ow false 2 [],.ow false 2 []]
def atC (l:List TInode) (k:Int):List CV:=match l.find? (fun x=>x.Ino==k)with
 |some x=>BUz x++[.sh false (.b true)]
 |none=>B1z++[.sh false (.b false)]
theorem FCz (l:List TInode) (k:Int):(Bjz l k= -1∧l.find? (fun x=>x.Ino==k)=none)∨∃(j:Nat) (x:TInode),Bjz l k=(j:Nat)∧l[j]? =some x∧l.find? (fun x=>x.Ino==k)=some x:=by
 cases h:l.findIdx? (fun x=>x.Ino==k)with
 |none=>
  left
  refine⟨by unfold Bjz;rw[h],?_⟩
  rw[List.findIdx?_eq_none_iff]at h
  rw[List.find?_eq_none]
  intro x hx;have:=h x hx;simpa using this
 |some j=>
  right
  have h':=h
  rw[List.findIdx?_eq_some_iff_getElem]at h
  obtain⟨hj,h1,h2⟩:=h
  refine⟨j,l[j],by unfold Bjz;rw[h'],List.getElem?_eq_getElem hj,?_⟩
  rw[List.find?_eq_some_iff_getElem]
  exact⟨h1,j,hj,rfl,fun i hi=>by simpa using h2 i hi⟩
set_option maxHeartbeats 4000000 in
theorem B9z (n:Nat) (hn:Big+6≤n) (t:TTab) (ht:t.ok) (k:Int):pcall env n 45 [.c .agg (t.pv.map AMz),pvSV (.i .i64 k)] []=some ⟨.c (.tup [(true,6),(false,1)]) (atC t.Inodes k),[]⟩:=by
 obtain⟨m,rfl⟩:=AEz hn
 have hc:=KPz m (deep hn (by decide)) t ht k
 simp only[go_sem]at hc
 refine ANz (ADz (fn:=Tryz.f45) rfl rfl rfl (Nat.le_of_ble_eq_true rfl) ?_)
 unfold Tryz.f45
 rcases FCz t.Inodes k with⟨h1,h2⟩|⟨j,x,h1,hx,h2⟩
 ·rw[h1]at hc
  unfold atC
  rw[h2]
  simp only[go_sem,seval,hc,B1z]
 ·rw[h1]at hc
  have hcp:=OIz m (deep hn (by decide)) x (ht.Inodes.1 _ (List.mem_of_getElem? hx))
  simp only[go_sem,BUz]at hcp
  have hneg:¬((j:Int)<0):=by omega
  unfold atC
  rw[h2]
  simp only[go_sem,seval,hc,hneg,hx,hcp,BUz]
set_option maxHeartbeats 4000000 in
theorem C5z (n:Nat) (hn:Big+6≤n) (t:TTab) (ht:t.ok) (k:Int):pcall env n 109 [.c .agg (t.pv.map AMz),pvSV (.i .i64 k)] []=some ⟨.c (.tup [(true,6),(false,1)]) (atC t.Inodes k),[]⟩:=by
 obtain⟨m,rfl⟩:=AEz hn
 have hc:=G6z m (deep hn (by decide)) t ht k
 simp only[go_sem]at hc
 refine ANz (ADz (fn:=Tryz.f109) rfl rfl rfl (Nat.le_of_ble_eq_true rfl) ?_)
 unfold Tryz.f109
 rcases FCz t.Inodes k with⟨h1,h2⟩|⟨j,x,h1,hx,h2⟩
 ·rw[h1]at hc
  unfold atC
  rw[h2]
  simp only[go_sem,seval,hc,B1z]
 ·rw[h1]at hc
  have hcp:=SPz m (deep hn (by decide)) x (ht.Inodes.1 _ (List.mem_of_getElem? hx))
  simp only[go_sem,BUz]at hcp
  have hneg:¬((j:Int)<0):=by omega
  unfold atC
  rw[h2]
  simp only[go_sem,seval,hc,hneg,hx,hcp,BUz]
end Go.Proofs.YtblelojdboefjaaGreatDoor.R
namespace Go.Proofs.YtblelojdboefjaaGreatDoor.R
open Go
def E0z (next:Int) (prev:Option TInode) (x:TInode):Bool:=Auz x&& !(decide (x.Ino≥next))&&(match prev with
 |some y=> !(decide (y.Ino≥x.Ino))
 |none=>true)
def BWz (l:List TInode) (next:Int) (i:Nat):Bool:=match l[i]? with
 |some x=>E0z next (if i=0 then none else l[i - 1]?) x
 |none=>true
theorem Jjz {l:List TInode} {next:Int} {j:Nat} {a:TInode} (h:l[j]? =some a) (h0:j=0):BWz l next j=(Auz a&& !(decide (a.Ino≥next))):=by
 simp only[BWz,h,E0z,if_pos h0,Bool.and_true]
theorem Jiz {l:List TInode} {next:Int} {j:Nat} {a y:TInode} (h:l[j]? =some a) (h0:j≠0) (hy:l[j - 1]? =some y):BWz l next j=(Auz a&& !(decide (a.Ino≥next))&& !(decide (y.Ino≥a.Ino))):=by
 simp only[BWz,h,E0z,if_neg h0,hy]
theorem NSz {l:List TInode} {next:Int} {j:Nat} {a:TInode} (h:l[j]? =some a) (hb:Auz a=false):BWz l next j=false:=by
 simp only[BWz,h,E0z,hb,Bool.false_and]
theorem NRz {l:List TInode} {next:Int} {j:Nat} {a:TInode} (h:l[j]? =some a) (hb:a.Ino≥next):BWz l next j=false:=by
 simp only[BWz,h,E0z,decide_eq_true hb,Bool.not_true,Bool.and_false,Bool.false_and]
def Clz (t:TTab):Bool:=allB t.Inodes.length (BWz t.Inodes t.Next)
def Fez (t:TTab):Bool:=match t.Inodes.find? (fun x=>x.Ino==1)with
 |some x=>x.Kind==2
 |none=>false
def KJz (t:TTab):Bool:=match t.Inodes[0]? with
 |some x=>(x.Ino==1)&&(x.Kind==2)
 |none=>false
def tabI (t:TTab):Bool:= !(decide ((t.Inodes.length:Int)>30))&&inB t.Next 2 1000&&Clz t&&Fez t
def tabS (t:TTab):Bool:=inB t.Inodes.length 1 30&&inB t.Next 2 1000&&Clz t&&KJz t
set_option maxHeartbeats 4000000 in
theorem QJz (n:Nat) (hn:Big+8≤n) (t:TTab) (ht:t.ok):pcall env n 116 [.c .agg (t.pv.map AMz)] []=some ⟨pvSV (.b (tabI t)),[]⟩:=by
 obtain⟨m,rfl⟩:=AEz hn
 have hB:=ASz
 have hbd:Bd=1048576:=rfl
 have hin:=fun a b c=>Fuz m (deep hn (by decide)) a b c
 simp only[go_sem]at hin
 have hl:=ht.Inodes.2
 have ho:=ht.Inodes.1
 refine ANz (ADz (fn:=Tryz.f116) rfl rfl rfl (Nat.le_of_ble_eq_true rfl) ?_)
 unfold Tryz.f116
 by_cases b1:(t.Inodes.length:Int)>30
 ·have e:tabI t=false:=by unfold tabI;simp[b1]
  rw[e]
  simp only[go_sem,seval,b1]<;>exact chk1 (by kernel_rfl)
 cases b2:inB t.Next 2 1000 with
 |false=>
  have e:tabI t=false:=by unfold tabI;simp[b2]
  rw[e]
  unfold inB at b2
  simp only[go_sem,seval,b1,hin,b2]<;>exact chk1 (by kernel_rfl)
 |true=>
 have b2':=b2
 unfold inB at b2
 simp only[go_sem,seval,b1,hin,b2]
 refine AFz (fun k σ=>∃j:Nat,j≤t.Inodes.length∧k=t.Inodes.length - j∧(∀i,i<j→BWz t.Inodes t.Next i=true)∧σ=slots 63 [(1,.c .box [.sh true (.s 6 (t.Inodes.map TInode.pv)),.sh false (.i .i64 t.Next)]),(18,.c .one [.sh true (.s 6 (t.Inodes.map TInode.pv))]),(19,.c .one [.sh false (.i .i64 (t.Inodes.length:Nat))]),(20,.c .one [.sh false (.i .i64 (j:Nat))])]) t.Inodes.length (by omega) ?_ ?_
 ·simp only[go_sem,seval]
  exact⟨0,Nat.zero_le _,rfl,fun i hi=>absurd hi (Nat.not_lt_zero _),rfl⟩
 ·rintro k σ ⟨j,hj,rfl,hp,rfl⟩
  by_cases hlt:j<t.Inodes.length
  ·have h1:((j:Int)<(t.Inodes.length:Int)):=by omega
   have hx:t.Inodes[j]? =some t.Inodes[j]:=List.getElem?_eq_getElem hlt
   have hok:=ho _ (List.getElem_mem hlt)
   generalize t.Inodes[j]=a at hx hok
   have hc:=Nnz m (deep hn (by decide)) a hok
   simp only[go_sem]at hc
   have step:BWz t.Inodes t.Next j=true→∀i,i<j+1→BWz t.Inodes t.Next i=true:=fun e i hi=>by
    rcases Nat.lt_succ_iff_lt_or_eq.1 hi with h|h
    ·exact hp i h
    ·subst h;exact e
   have bad:BWz t.Inodes t.Next j=false→tabI t=false:=fun e=>by
    have:Clz t=false:=by unfold Clz;rw[A8z hlt e]
    unfold tabI;simp[this]
   cases d1:Auz a with
   |false=>
    rw[bad (NSz hx d1)]
    simp only[go_sem,seval,h1,hx,hc,d1]<;>exact chk1 (by kernel_rfl)
   |true=>
    by_cases d2:a.Ino≥t.Next
    ·rw[bad (NRz hx d2)]
     simp only[go_sem,seval,h1,hx,hc,d1,d2]<;>exact chk1 (by kernel_rfl)
    ·by_cases h0:j=0
     ·have e:=Jjz (next:=t.Next) hx h0
      rw[d1,decide_eq_false d2]at e
      have hgt:¬((j:Int)>0):=by omega
      simp only[go_sem,seval,h1,hx,hc,d1,d2,hgt,ACz hlt (by omega)]
      exact chk (by kernel_rfl) ⟨_,by omega,j+1,hlt,rfl,step e,rfl⟩
     ·have hgt:((j:Int)>0):=by omega
      have hy:t.Inodes[j - 1]? =some t.Inodes[j - 1]:=List.getElem?_eq_getElem (by omega)
      generalize t.Inodes[j - 1]=y at hy
      have e:=Jiz (next:=t.Next) hx h0 hy
      rw[d1,decide_eq_false d2]at e
      obtain⟨j',hj'⟩:∃j',j'=j - 1:=⟨_,rfl⟩
      rw[←hj']at hy
      have ws:IntKind.i64.wrap ((j:Int) - 1)=(j':Int):=by rw[ARz (by omega) (by omega)];omega
      by_cases d3:y.Ino≥a.Ino
      ·rw[bad (by rw[e,decide_eq_true d3];rfl)]
       simp only[go_sem,seval,h1,hx,hc,d1,d2,hgt,ws,hy,d3,ACz hlt (by omega)]<;>exact chk1 (by kernel_rfl)
      ·have e':BWz t.Inodes t.Next j=true:=by rw[e,decide_eq_false d3];rfl
       simp only[go_sem,seval,h1,hx,hc,d1,d2,hgt,ws,hy,d3,ACz hlt (by omega)]
       exact chk (by kernel_rfl) ⟨_,by omega,j+1,hlt,rfl,step e',rfl⟩
  ·have h1:¬((j:Int)<(t.Inodes.length:Int)):=by omega
   obtain rfl:j=t.Inodes.length:=by omega
   have be:Clz t=true:=by unfold Clz;exact BRz hp
   have e:tabI t=Fez t:=by unfold tabI;rw[decide_eq_false b1,b2',be];simp
   rw[e]
   have hat:=B9z m (deep hn (by decide)) t ht 1
   simp only[go_sem]at hat
   unfold atC at hat
   unfold Fez
   cases hf:t.Inodes.find? (fun x=>x.Ino==1)with
   |none=>
    rw[hf]at hat
    simp only[go_sem,B1z]at hat
    simp only[go_sem,seval,h1,hat]
   |some x=>
    rw[hf]at hat
    simp only[go_sem,BUz]at hat
    simp only[go_sem,seval,h1,hat]
set_option maxHeartbeats 4000000 in
theorem QGz (n:Nat) (hn:Big+8≤n) (t:TTab) (ht:t.ok):pcall env n 105 [.c .agg (t.pv.map AMz)] []=some ⟨pvSV (.b (tabS t)),[]⟩:=by
 obtain⟨m,rfl⟩:=AEz hn
 have hB:=ASz
 have hbd:Bd=1048576:=rfl
 have hin:=fun a b c=>E2z m (deep hn (by decide)) a b c
 simp only[go_sem]at hin
 have hl:=ht.Inodes.2
 have ho:=ht.Inodes.1
 refine ANz (ADz (fn:=Tryz.f105) rfl rfl rfl (Nat.le_of_ble_eq_true rfl) ?_)
 unfold Tryz.f105
 cases b1:inB t.Inodes.length 1 30 with
 |false=>
  have e:tabS t=false:=by unfold tabS;simp[b1]
  rw[e]
  unfold inB at b1
  simp only[go_sem,seval,hin,b1]<;>exact chk1 (by kernel_rfl)
 |true=>
 have b1':=b1
 unfold inB at b1
 cases b2:inB t.Next 2 1000 with
 |false=>
  have e:tabS t=false:=by unfold tabS;simp[b2]
  rw[e]
  unfold inB at b2
  simp only[go_sem,seval,hin,b1,b2]<;>exact chk1 (by kernel_rfl)
 |true=>
 have b2':=b2
 unfold inB at b2
 simp only[go_sem,seval,hin,b1,b2]
 refine AFz (fun k σ=>∃j:Nat,j≤t.Inodes.length∧k=t.Inodes.length - j∧(∀i,i<j→BWz t.Inodes t.Next i=true)∧σ=slots 68 [(1,.c .box [.sh true (.s 6 (t.Inodes.map TInode.pv)),.sh false (.i .i64 t.Next)]),(3,.c .one [.sh false (.i .i64 (j:Nat))])]) t.Inodes.length (by omega) ?_ ?_
 ·simp only[go_sem,seval]
  exact⟨0,Nat.zero_le _,rfl,fun i hi=>absurd hi (Nat.not_lt_zero _),rfl⟩
 ·rintro k σ ⟨j,hj,rfl,hp,rfl⟩
  by_cases hlt:j<t.Inodes.length
  ·have h1:((j:Int)<(t.Inodes.length:Int)):=by omega
   have hx:t.Inodes[j]? =some t.Inodes[j]:=List.getElem?_eq_getElem hlt
   have hok:=ho _ (List.getElem_mem hlt)
   generalize t.Inodes[j]=a at hx hok
   have hc:=Nmz m (deep hn (by decide)) a hok
   simp only[go_sem]at hc
   have step:BWz t.Inodes t.Next j=true→∀i,i<j+1→BWz t.Inodes t.Next i=true:=fun e i hi=>by
    rcases Nat.lt_succ_iff_lt_or_eq.1 hi with h|h
    ·exact hp i h
    ·subst h;exact e
   have bad:BWz t.Inodes t.Next j=false→tabS t=false:=fun e=>by
    have:Clz t=false:=by unfold Clz;rw[A8z hlt e]
    unfold tabS;simp[this]
   cases d1:Auz a with
   |false=>
    rw[bad (NSz hx d1)]
    simp only[go_sem,seval,h1,hx,hc,d1]<;>exact chk1 (by kernel_rfl)
   |true=>
    by_cases d2:a.Ino≥t.Next
    ·rw[bad (NRz hx d2)]
     simp only[go_sem,seval,h1,hx,hc,d1,d2]<;>exact chk1 (by kernel_rfl)
    ·by_cases h0:j=0
     ·have e:=Jjz (next:=t.Next) hx h0
      rw[d1,decide_eq_false d2]at e
      have hgt:¬((j:Int)>0):=by omega
      simp only[go_sem,seval,h1,hx,hc,d1,d2,hgt,ACz hlt (by omega)]
      exact chk (by kernel_rfl) ⟨_,by omega,j+1,hlt,rfl,step e,rfl⟩
     ·have hgt:((j:Int)>0):=by omega
      have hy:t.Inodes[j - 1]? =some t.Inodes[j - 1]:=List.getElem?_eq_getElem (by omega)
      generalize t.Inodes[j - 1]=y at hy
      have e:=Jiz (next:=t.Next) hx h0 hy
      rw[d1,decide_eq_false d2]at e
      obtain⟨j',hj'⟩:∃j',j'=j - 1:=⟨_,rfl⟩
      rw[←hj']at hy
      have ws:IntKind.i64.wrap ((j:Int) - 1)=(j':Int):=by rw[ARz (by omega) (by omega)];omega
      by_cases d3:y.Ino≥a.Ino
      ·rw[bad (by rw[e,decide_eq_true d3];rfl)]
       simp only[go_sem,seval,h1,hx,hc,d1,d2,hgt,ws,hy,d3,ACz hlt (by omega)]<;>exact chk1 (by kernel_rfl)
      ·have e':BWz t.Inodes t.Next j=true:=by rw[e,decide_eq_false d3];rfl
       simp only[go_sem,seval,h1,hx,hc,d1,d2,hgt,ws,hy,d3,ACz hlt (by omega)]
       exact chk (by kernel_rfl) ⟨_,by omega,j+1,hlt,rfl,step e',rfl⟩
  ·have h1:¬((j:Int)<(t.Inodes.length:Int)):=by omega
   obtain rfl:j=t.Inodes.length:=by omega
   have be:Clz t=true:=by unfold Clz;exact BRz hp
   have e:tabS t=KJz t:=by unfold tabS;rw[b1',b2',be];simp
   rw[e]
   have hlen:0<t.Inodes.length:=by
    simp only[Bool.and_eq_true,decide_eq_true_eq]at b1;omega
   have hx:t.Inodes[0]? =some t.Inodes[0]:=List.getElem?_eq_getElem hlen
   unfold KJz
   generalize t.Inodes[0]=a at hx
   rw[hx]
   cases d:(a.Ino==1)<;>simp only[go_sem,seval,h1,hx,d]
theorem DLz {n:Nat} {p:Nat→Bool} (h:allB n p=true) {i:Nat} (hi:i<n):p i=true:=by
 unfold allB at h
 rw[List.all_eq_true]at h
 exact h i (List.mem_range.2 hi)
theorem NQz {l:List TInode} {next:Int} (h:allB l.length (BWz l next)=true):∀(i:Nat) (x:TInode),l[i]? =some x→x.Ino≥(i:Int)+1
 |0,x,hx=>by
  have hi:=(List.getElem?_eq_some_iff.1 hx).1
  have h1:=DLz h hi
  rw[Jjz hx rfl]at h1
  have h2:Auz x=true:=by
   cases e:Auz x with
   |true=>rfl
   |false=>rw[e]at h1;simp at h1
  unfold Auz inB at h2
  simp only[Bool.and_eq_true,decide_eq_true_eq]at h2
  have:=h2.1.1.1.1.1.1
  omega
 |i+1,x,hx=>by
  have hi:=(List.getElem?_eq_some_iff.1 hx).1
  have hy:l[i]? =some l[i]:=List.getElem?_eq_getElem (by omega)
  have ih:=NQz h i _ hy
  have h1:=DLz h hi
  rw[Jiz hx (by omega) hy]at h1
  simp only[Bool.and_eq_true,Bool.not_eq_true',decide_eq_false_iff_not]at h1
  have:=h1.2
  omega
theorem Wsz (t:TTab):tabI t=tabS t:=by
 unfold tabI tabS
 cases hn:Clz t with
 |false=>simp
 |true=>
  unfold Clz at hn
  have hlow:=NQz hn
  cases hl:t.Inodes with
  |nil=>
   have:Fez t=false:=by unfold Fez;rw[hl];rfl
   rw[this]
   simp[inB]
  |cons a l=>
   have h1:inB ((a::l).length:Nat) 1 30= !(decide (((a::l).length:Int)>30)):=by
    unfold inB
    rw[show decide (((a::l).length:Int)≥1)=true from decide_eq_true (by simp only[List.length_cons];omega),Bool.true_and]
    by_cases h:((a::l).length:Int)≤30
    ·rw[decide_eq_true h,decide_eq_false (by omega)];rfl
    ·rw[decide_eq_false h,decide_eq_true (by omega)];rfl
   have h2:Fez t=KJz t:=by
    unfold Fez KJz
    rw[hl]
    simp only[List.getElem?_cons_zero]
    cases ha:(a.Ino==1)with
    |true=>simp[ha]
    |false=>
     have:l.find? (fun x=>x.Ino==1)=none:=by
      rw[List.find?_eq_none]
      intro x hx hc
      obtain⟨i,hi⟩:=List.getElem?_of_mem hx
      have:=hlow (i+1) x (by rw[hl];simpa using hi)
      have hc':x.Ino=1:=by simpa using hc
      omega
     simp[ha,this]
   rw[h1,h2]
end Go.Proofs.YtblelojdboefjaaGreatDoor.R
namespace Go.Proofs.YtblelojdboefjaaGreatDoor.R
open Go
def D9z (es:List TEnt) (k:Int):Nat:=es.countP fun e=>e.Ino==k
def D8z (x:TInode) (k:Int):Nat:=match x.Kind==2 with
 |true=>D9z x.Ents k
 |false=>0
def BKz (l:List TInode) (k:Int):Nat:=(l.map fun x=>D8z x k).sum
theorem JSz {es:List TEnt} {k:Int} {i:Nat} {e:TEnt} (h:es[i]? =some e):D9z (es.take (i+1)) k=D9z (es.take i) k+(if(e.Ino==k)=true then 1 else 0):=by
 unfold D9z
 rw[List.take_add_one,h,List.countP_append]
 simp[List.countP_cons]
theorem JRz {l:List TInode} {k:Int} {j:Nat} {a:TInode} (h:l[j]? =some a):BKz (l.take (j+1)) k=BKz (l.take j) k+D8z a k:=by
 unfold BKz
 rw[List.take_add_one,h]
 simp
theorem Gdz (es:List TEnt) (k:Int):D9z es k≤es.length:=List.countP_le_length
theorem Joz {a:TInode} {k:Int} (h:(a.Kind==2)=true):D8z a k=D9z a.Ents k:=by unfold D8z;rw[h]
theorem Naz {a:TInode} {k:Int} (h:(a.Kind==2)=false):D8z a k=0:=by unfold D8z;rw[h]
set_option maxHeartbeats 4000000 in
theorem Ncz (n:Nat) (hn:Big+2≤n) (t:TTab) (ht:t.ok) (k:Int):pcall env n 118 [.c .agg (t.pv.map AMz),pvSV (.i .i64 k)] []=some ⟨pvSV (.i .i64 (BKz t.Inodes k:Nat)),[]⟩:=by
 obtain⟨m,rfl⟩:=AEz hn
 have hB:=ASz
 have hbd:Bd=1048576:=rfl
 have hl:=ht.Inodes.2
 have ho:=ht.Inodes.1
 refine ANz (ADz (fn:=Tryz.f118) rfl rfl rfl (Nat.le_of_ble_eq_true rfl) ?_)
 unfold Tryz.f118
 simp only[go_sem,seval]
 refine AFz (fun r σ=>∃j c:Nat,j≤t.Inodes.length∧r=t.Inodes.length - j∧c=BKz (t.Inodes.take j) k∧c≤j*1048576∧σ=slots 36 [(1,.c .one [.sh false (.i .i64 k)]),(2,.c .box [.sh true (.s 6 (t.Inodes.map TInode.pv)),.sh false (.i .i64 t.Next)]),(5,.c .one [.sh false (.i .i64 (c:Nat))]),(11,.c .one [.sh true (.s 6 (t.Inodes.map TInode.pv))]),(12,.c .one [.sh false (.i .i64 (t.Inodes.length:Nat))]),(13,.c .one [.sh false (.i .i64 (j:Nat))])]) t.Inodes.length (by omega) ?_ ?_
 ·simp only[go_sem,seval]
  exact⟨0,0,Nat.zero_le _,rfl,rfl,Nat.zero_le _,rfl⟩
 ·rintro r σ ⟨j,c,hj,rfl,hc,hcb,rfl⟩
  by_cases hlt:j<t.Inodes.length
  ·have h1:((j:Int)<(t.Inodes.length:Int)):=by omega
   have hx:t.Inodes[j]? =some t.Inodes[j]:=List.getElem?_eq_getElem hlt
   have hok:=ho _ (List.getElem_mem hlt)
   generalize t.Inodes[j]=a at hx hok
   have hs:=JRz (k:=k) hx
   rw[←hc]at hs
   cases hk:(a.Kind==2)with
   |false=>
    rw[Naz hk]at hs
    have hk':(a.Kind !=2)=true:=by unfold bne;rw[hk];rfl
    simp only[go_sem,seval,h1,hx,hk',ACz hlt (by omega)]
    exact⟨_,by omega,j+1,c,hlt,rfl,by omega,Nat.le_trans hcb (Nat.mul_le_mul_right _ (Nat.le_succ j)),rfl⟩
   |true=>
    rw[Joz hk]at hs
    have hel:=hok.Ents.2
    have hk':(a.Kind !=2)=false:=by unfold bne;rw[hk];rfl
    simp only[go_sem,seval,h1,hx,hk']
    refine AFz (fun r σ=>∃i d:Nat,i≤a.Ents.length∧r=a.Ents.length - i∧d=c+D9z (a.Ents.take i) k∧σ=slots 36 [(1,.c .one [.sh false (.i .i64 k)]),(2,.c .box [.sh true (.s 6 (t.Inodes.map TInode.pv)),.sh false (.i .i64 t.Next)]),(5,.c .one [.sh false (.i .i64 (d:Nat))]),(7,.c .box [.sh false (.i .i64 a.Ino),.sh false (.i .i64 a.Kind),.sh false (.i .i64 a.Links),.sh true (.s 1 (a.Data.map bpv)),.sh true (.s 2 (a.Ents.map TEnt.pv)),.sh true (.s 2 (a.Attrs.map TAttr.pv))]),(11,.c .one [.sh true (.s 6 (t.Inodes.map TInode.pv))]),(12,.c .one [.sh false (.i .i64 (t.Inodes.length:Nat))]),(13,.c .one [.sh false (.i .i64 (j:Nat))]),(21,.c .one [.sh true (.s 2 (a.Ents.map TEnt.pv))]),(22,.c .one [.sh false (.i .i64 (a.Ents.length:Nat))]),(23,.c .one [.sh false (.i .i64 (i:Nat))])]) a.Ents.length (by omega) ?_ ?_
    ·simp only[go_sem,seval]
     exact⟨0,c,Nat.zero_le _,rfl,rfl,rfl⟩
    ·rintro r σ ⟨i,d,hi,rfl,hd,rfl⟩
     have hdb:=Gdz (a.Ents.take i) k
     rw[List.length_take]at hdb
     by_cases hlt2:i<a.Ents.length
     ·have h2:((i:Int)<(a.Ents.length:Int)):=by omega
      have hy:a.Ents[i]? =some a.Ents[i]:=List.getElem?_eq_getElem hlt2
      generalize a.Ents[i]=e at hy
      have he:=JSz (k:=k) hy
      cases hq:(e.Ino==k)with
      |true=>
       rw[hq,if_pos rfl]at he
       have wd:IntKind.i64.wrap ((d:Int)+1)=((d+1:Nat):Int):=by rw[ARz (by omega) (by omega)];omega
       simp only[go_sem,seval,h2,hy,hq,wd,ACz hlt2 (by omega)]
       exact⟨_,by omega,i+1,d+1,hlt2,rfl,by omega,rfl⟩
      |false=>
       rw[hq,if_neg (by decide)]at he
       simp only[go_sem,seval,h2,hy,hq,ACz hlt2 (by omega)]
       exact⟨_,by omega,i+1,d,hlt2,rfl,by omega,rfl⟩
     ·have h2:¬((i:Int)<(a.Ents.length:Int)):=by omega
      obtain rfl:i=a.Ents.length:=by omega
      rw[List.take_length]at hd
      have hle:=Gdz a.Ents k
      simp only[go_sem,seval,h2,ACz hlt (by omega)]
      exact⟨_,by omega,j+1,d,hlt,rfl,by rw[hs];exact hd,by omega,rfl⟩
  ·have h1:¬((j:Int)<(t.Inodes.length:Int)):=by omega
   obtain rfl:j=t.Inodes.length:=by omega
   rw[List.take_length]at hc
   rw[←hc]
   simp only[go_sem,seval,h1]
set_option maxHeartbeats 4000000 in
theorem Nbz (n:Nat) (hn:Big+2≤n) (t:TTab) (ht:t.ok) (k:Int):pcall env n 107 [.c .agg (t.pv.map AMz),pvSV (.i .i64 k)] []=some ⟨pvSV (.i .i64 (BKz t.Inodes k:Nat)),[]⟩:=by
 obtain⟨m,rfl⟩:=AEz hn
 have hB:=ASz
 have hbd:Bd=1048576:=rfl
 have hl:=ht.Inodes.2
 have ho:=ht.Inodes.1
 refine ANz (ADz (fn:=Tryz.f107) rfl rfl rfl (Nat.le_of_ble_eq_true rfl) ?_)
 unfold Tryz.f107
 simp only[go_sem,seval]
 refine AFz (fun r σ=>∃j c:Nat,j≤t.Inodes.length∧r=t.Inodes.length - j∧c=BKz (t.Inodes.take j) k∧c≤j*1048576∧σ=slots 50 [(1,.c .one [.sh false (.i .i64 k)]),(2,.c .box [.sh true (.s 6 (t.Inodes.map TInode.pv)),.sh false (.i .i64 t.Next)]),(5,.c .one [.sh false (.i .i64 (c:Nat))]),(6,.c .one [.sh false (.i .i64 (j:Nat))])]) t.Inodes.length (by omega) ?_ ?_
 ·simp only[go_sem,seval]
  exact⟨0,0,Nat.zero_le _,rfl,rfl,Nat.zero_le _,rfl⟩
 ·rintro r σ ⟨j,c,hj,rfl,hc,hcb,rfl⟩
  by_cases hlt:j<t.Inodes.length
  ·have h1:((j:Int)<(t.Inodes.length:Int)):=by omega
   have hx:t.Inodes[j]? =some t.Inodes[j]:=List.getElem?_eq_getElem hlt
   have hok:=ho _ (List.getElem_mem hlt)
   generalize t.Inodes[j]=a at hx hok
   have hs:=JRz (k:=k) hx
   rw[←hc]at hs
   have hel:=hok.Ents.2
   simp only[go_sem,seval,h1]
   refine AFz (fun r σ=>∃i d:Nat,i≤a.Ents.length∧((a.Kind==2)=false→i=0)∧r=a.Ents.length - i∧d=c+D9z (a.Ents.take i) k∧σ=slots 50 [(1,.c .one [.sh false (.i .i64 k)]),(2,.c .box [.sh true (.s 6 (t.Inodes.map TInode.pv)),.sh false (.i .i64 t.Next)]),(5,.c .one [.sh false (.i .i64 (d:Nat))]),(6,.c .one [.sh false (.i .i64 (j:Nat))]),(7,.c .one [.sh false (.i .i64 (i:Nat))])]) a.Ents.length (by omega) ?_ ?_
   ·simp only[go_sem,seval]
    exact⟨0,c,Nat.zero_le _,fun _=>rfl,rfl,rfl,rfl⟩
   ·rintro r σ ⟨i,d,hi,hi0,rfl,hd,rfl⟩
    have hdb:=Gdz (a.Ents.take i) k
    rw[List.length_take]at hdb
    cases hk:(a.Kind==2)with
    |false=>
     have:=hi0 hk
     subst this
     rw[Naz hk]at hs
     have hd':d=c:=hd
     subst hd'
     by_cases h2:(0:Int)<(a.Ents.length:Int)
     ·simp only[go_sem,seval,h2,hx,hk,ACz hlt (by omega)]
      exact⟨_,by omega,j+1,d,hlt,rfl,by omega,Nat.le_trans hcb (Nat.mul_le_mul_right _ (Nat.le_succ j)),rfl⟩
     ·simp only[go_sem,seval,h2,hx,hk,ACz hlt (by omega)]
      exact⟨_,by omega,j+1,d,hlt,rfl,by omega,Nat.le_trans hcb (Nat.mul_le_mul_right _ (Nat.le_succ j)),rfl⟩
    |true=>
     rw[Joz hk]at hs
     by_cases hlt2:i<a.Ents.length
     ·have h2:((i:Int)<(a.Ents.length:Int)):=by omega
      have hy:a.Ents[i]? =some a.Ents[i]:=List.getElem?_eq_getElem hlt2
      generalize a.Ents[i]=e at hy
      have he:=JSz (k:=k) hy
      cases hq:(e.Ino==k)with
      |true=>
       rw[hq,if_pos rfl]at he
       have wd:IntKind.i64.wrap ((d:Int)+1)=((d+1:Nat):Int):=by rw[ARz (by omega) (by omega)];omega
       simp only[go_sem,seval,h2,hx,hk,hy,hq,wd,ACz hlt2 (by omega)]
       exact⟨_,by omega,i+1,d+1,hlt2,fun h=>by simp[hk]at h,rfl,by omega,rfl⟩
      |false=>
       rw[hq,if_neg (by decide)]at he
       simp only[go_sem,seval,h2,hx,hk,hy,hq,ACz hlt2 (by omega)]
       exact⟨_,by omega,i+1,d,hlt2,fun h=>by simp[hk]at h,rfl,by omega,rfl⟩
     ·have h2:¬((i:Int)<(a.Ents.length:Int)):=by omega
      obtain rfl:i=a.Ents.length:=by omega
      rw[List.take_length]at hd
      have hle:=Gdz a.Ents k
      simp only[go_sem,seval,h2,hx,hk,ACz hlt (by omega)]
      exact⟨_,by omega,j+1,d,hlt,rfl,by rw[hs];exact hd,by omega,rfl⟩
  ·have h1:¬((j:Int)<(t.Inodes.length:Int)):=by omega
   obtain rfl:j=t.Inodes.length:=by omega
   rw[List.take_length]at hc
   rw[←hc]
   simp only[go_sem,seval,h1]
end Go.Proofs.YtblelojdboefjaaGreatDoor.R
namespace Go.Proofs.YtblelojdboefjaaGreatDoor.R
open Go
def hasB (l:List Int) (k:Int):Bool:=l.any fun x=>x==k
theorem Nvz {l:List Int} {k a:Int} {j:Nat} (hx:l[j]? =some a) (h:(a==k)=true):hasB l k=true:=List.any_eq_true.2 ⟨a,List.mem_of_getElem? hx,h⟩
theorem MLz {l:List Int} {k:Int} (h:∀(i:Nat) (y:Int),i<l.length→l[i]? =some y→(y==k)=false):hasB l k=false:=by
 unfold hasB
 rw[List.any_eq_false]
 intro y hy
 obtain⟨i,hi⟩:=List.getElem?_of_mem hy
 rw[h i y (List.getElem?_eq_some_iff.1 hi).1 hi]
 decide
set_option maxHeartbeats 1000000 in
theorem UFz (n:Nat) (hn:Big+2≤n) (l:List Int) (hl:l.length≤4398046511104) (k:Int):pcall env n 264 [.c .one [.sh true (.s 1 (l.map ipv))],pvSV (.i .i64 k)] []=some ⟨pvSV (.b (hasB l k)),[]⟩:=by
 obtain⟨m,rfl⟩:=AEz hn
 have hB:=ASz
 have hB2:4398046511104<Big:=by decide
 have hbd:Bd=1048576:=rfl
 refine ANz (ADz (fn:=Tryz.f264) rfl rfl rfl (Nat.le_of_ble_eq_true rfl) ?_)
 unfold Tryz.f264
 simp only[go_sem,seval]
 refine AFz (fun r σ=>∃j:Nat,j≤l.length∧r=l.length - j∧(∀(i:Nat) (y:Int),i<j→l[i]? =some y→(y==k)=false)∧σ=slots 18 [(0,.c .one [.sh true (.s 1 (l.map ipv))]),(1,.c .one [.sh false (.i .i64 k)]),(5,.c .one [.sh false (.i .i64 (j:Nat))])]) l.length (by omega) ?_ ?_
 ·simp only[go_sem,seval]
  exact⟨0,Nat.zero_le _,rfl,fun i y hi=>absurd hi (Nat.not_lt_zero _),rfl⟩
 ·rintro r σ ⟨j,hj,rfl,hp,rfl⟩
  by_cases hlt:j<l.length
  ·have h1:((j:Int)<(l.length:Int)):=by omega
   have hx:l[j]? =some l[j]:=List.getElem?_eq_getElem hlt
   generalize l[j]=a at hx
   cases ha:(a==k)with
   |true=>
    rw[Nvz hx ha]
    simp only[go_sem,seval,h1,hx,ha,ipv]
   |false=>
    simp only[go_sem,seval,h1,hx,ha,ipv,ACz hlt (by omega)]
    refine⟨_,by omega,j+1,hlt,rfl,fun i y hi hy=> ?_,rfl⟩
    rcases Nat.lt_succ_iff_lt_or_eq.1 hi with h|h
    ·exact hp i y h hy
    ·subst h;rw[hx]at hy;injection hy with hy;subst hy;exact ha
  ·have h1:¬((j:Int)<(l.length:Int)):=by omega
   obtain rfl:j=l.length:=by omega
   rw[MLz hp]
   simp only[go_sem,seval,h1]
set_option maxHeartbeats 1000000 in
theorem O7z (n:Nat) (hn:Big+2≤n) (l:List Int) (hl:l.length≤4398046511104) (k:Int):∃v:Int,decide (v≥0)=hasB l k∧pcall env n 243 [.c .one [.sh true (.s 1 (l.map ipv))],pvSV (.i .i64 k)] []=some ⟨pvSV (.i .i64 v),[]⟩:=by
 obtain⟨m,rfl⟩:=AEz hn
 have hB:=ASz
 have hB2:4398046511104<Big:=by decide
 have hbd:Bd=1048576:=rfl
 suffices h: @Wq _ (pcall env (m+1) 243 [.c .one [.sh true (.s 1 (l.map ipv))],pvSV (.i .i64 k)] []) ⟨fun r=>∃v:Int,decide (v≥0)=hasB l k∧r=⟨pvSV (.i .i64 v),[]⟩⟩by
  obtain⟨r,h1,v,h2,h3⟩:=h;exact⟨v,h2,by rw[h1,h3]⟩
 refine ADz (fn:=Tryz.f243) rfl rfl rfl (Nat.le_of_ble_eq_true rfl) ?_
 unfold Tryz.f243
 simp only[go_sem,seval]
 refine AFz (fun r σ=>∃j:Nat,j≤l.length∧r=l.length - j∧(∀(i:Nat) (y:Int),i<j→l[i]? =some y→(y==k)=false)∧σ=slots 19 [(0,.c .one [.sh true (.s 1 (l.map ipv))]),(1,.c .one [.sh false (.i .i64 k)]),(7,.c .one [.sh false (.i .i64 (l.length:Nat))]),(8,.c .one [.sh false (.i .i64 (j:Nat))])]) l.length (by omega) ?_ ?_
 ·simp only[go_sem,seval]
  exact⟨0,Nat.zero_le _,rfl,fun i y hi=>absurd hi (Nat.not_lt_zero _),rfl⟩
 ·rintro r σ ⟨j,hj,rfl,hp,rfl⟩
  by_cases hlt:j<l.length
  ·have h1:((j:Int)<(l.length:Int)):=by omega
   have hx:l[j]? =some l[j]:=List.getElem?_eq_getElem hlt
   generalize l[j]=a at hx
   cases ha:(a==k)with
   |true=>
    have ha':(k==a)=true:=by rw[BEq.comm];exact ha
    rw[Nvz hx ha]
    simp only[go_sem,seval,h1,hx,ha',ipv]
    exact⟨_,by simp,rfl⟩
   |false=>
    have ha':(k==a)=false:=by rw[BEq.comm];exact ha
    simp only[go_sem,seval,h1,hx,ha',ipv,ACz hlt (by omega)]
    refine⟨_,by omega,j+1,hlt,rfl,fun i y hi hy=> ?_,rfl⟩
    rcases Nat.lt_succ_iff_lt_or_eq.1 hi with h|h
    ·exact hp i y h hy
    ·subst h;rw[hx]at hy;injection hy with hy;subst hy;exact ha
  ·have h1:¬((j:Int)<(l.length:Int)):=by omega
   obtain rfl:j=l.length:=by omega
   rw[MLz hp]
   simp only[go_sem,seval,h1]
   exact⟨_,by simp,rfl⟩
theorem Lgz (n:Nat) (hn:Big+3≤n) (l:List Int) (hl:l.length≤4398046511104) (k:Int):pcall env n 196 [.c .one [.sh true (.s 1 (l.map ipv))],pvSV (.i .i64 k)] []=some ⟨pvSV (.b (hasB l k)),[]⟩:=by
 obtain⟨m,rfl⟩:=AEz hn
 obtain⟨v,hv,hc⟩:=O7z m (deep hn (by decide)) l hl k
 simp only[go_sem]at hc
 rw[←hv]
 refine ANz (ADz (fn:=Tryz.f196) rfl rfl rfl (Nat.le_of_ble_eq_true rfl) ?_)
 unfold Tryz.f196
 simp only[go_sem,seval,hc]
end Go.Proofs.YtblelojdboefjaaGreatDoor.R
namespace Go.Proofs.YtblelojdboefjaaGreatDoor.R
open Go
def AIz (l:List TInode) (k:Int):Option TInode:=l.find? fun x=>x.Ino==k
def CHz (x:TInode):List Int:=match x.Kind==2 with
 |true=>x.Ents.map (·.Ino)
 |false=>[]
inductive Rch (l:List TInode):Int→Prop
 |root:(AIz l 1).isSome=true→Rch l 1
 |step (a k:Int) (x:TInode):Rch l a→AIz l a=some x→k∈CHz x→(AIz l k).isSome=true→Rch l k
theorem Rch.placed {l:List TInode} {k:Int} (h:Rch l k):(AIz l k).isSome=true:=by
 cases h<;>assumption
structure Full (l:List TInode) (L:List Int):Prop where
 nd:L.Nodup
 mem:∀k,k∈L↔Rch l k
theorem C8z {α:Type} [BEq α] [LawfulBEq α]:∀{L M:List α},L.Nodup→(∀a∈L,a∈M)→L.length≤M.length
 |[],_,_,_=>Nat.zero_le _
 |a::L,M,hn,hm=>by
  have ha:=hm a (by simp)
  have h2:L.length≤(M.erase a).length:=C8z (List.nodup_cons.1 hn).2 fun b hb=>by
   refine(List.mem_erase_of_ne ?_).2 (hm b (by simp[hb]))
   rintro rfl
   exact(List.nodup_cons.1 hn).1 hb
  have h3:=List.length_erase_of_mem ha
  have h4:0<M.length:=List.length_pos_of_mem ha
  simp only[List.length_cons]
  omega
theorem Full.len {l:List TInode} {L M:List Int} (h:Full l L) (h':Full l M):L.length=M.length:=
 Nat.le_antisymm (C8z h.nd fun a ha=>(h'.mem a).2 ((h.mem a).1 ha)) (C8z h'.nd fun a ha=>(h.mem a).2 ((h'.mem a).1 ha))
theorem Full.perm {l:List TInode} {L M:List Int} (h:Full l L) (p:M.Perm L):Full l M:=
 ⟨p.nodup_iff.2 h.nd,fun k=>p.mem_iff.trans (h.mem k)⟩
theorem G8z {l:List Int} {k:Int}:hasB l k=true↔k∈l:=by
 unfold hasB
 simp
theorem Axz {l:List TInode} {k:Int} {x:TInode} (h:AIz l k=some x):x∈l∧x.Ino=k:=by
 unfold AIz at h
 exact⟨List.mem_of_find?_eq_some h,by simpa using List.find?_some h⟩
def remL (l:List TInode) (out:List Int):Nat:=(l.map fun x=>match hasB out x.Ino with
 |true=>0
 |false=>x.Ents.length).sum
theorem Hjz {out:List Int} {k j:Int}:hasB (out++[k]) j=(hasB out j||k==j):=by
 unfold hasB;simp
theorem W0z (l:List TInode) (out:List Int) (k:Int):remL l (out++[k])≤remL l out:=by
 unfold remL
 induction l with
 |nil=>exact Nat.le_refl _
 |cons x l ih=>
  simp only[List.map_cons,List.sum_cons,Hjz]at ih ⊢
  cases hasB out x.Ino<;>cases k==x.Ino<;>simp<;>omega
theorem Wzz {l:List TInode} {out:List Int} {x:TInode} (hx:x∈l) (h:hasB out x.Ino=false):remL l (out++[x.Ino])+x.Ents.length≤remL l out:=by
 induction l with
 |nil=>simp at hx
 |cons y l ih=>
  have hle:=W0z l out x.Ino
  unfold remL at hle ih ⊢
  simp only[List.map_cons,List.sum_cons,Hjz]
  rcases List.mem_cons.1 hx with rfl|hx
  ·simp[h];simp only[Hjz]at hle;omega
  ·have:=ih hx
   simp only[Hjz]at this
   cases hasB out y.Ino<;>cases x.Ino==y.Ino<;>simp<;>omega
theorem W1z {l:List TInode} {m:Nat} (h:∀x∈l,x.Ents.length≤m) (out:List Int):remL l out≤l.length*m:=by
 induction l with
 |nil=>simp[remL]
 |cons x l ih=>
  have h1:=ih fun y hy=>h y (by simp[hy])
  have h2:=h x (by simp)
  unfold remL at h1 ⊢
  simp only[List.map_cons,List.sum_cons,List.length_cons,Nat.succ_mul]
  cases hasB out x.Ino<;>simp<;>omega
structure Bfs (l:List TInode) (out next:List Int):Prop where
 nd:out.Nodup
 got:∀k∈out,Rch l k
 todo:∀k∈next,(AIz l k).isSome=true→Rch l k
 shut:∀a∈out,∀x,AIz l a=some x→∀k∈CHz x,(AIz l k).isSome=true→k∈out∨k∈next
 root:(AIz l 1).isSome=true→1∈out∨1∈next
theorem Bfs.start (l:List TInode):Bfs l [] [1]where
 nd:=List.nodup_nil
 got:=fun k h=>by simp at h
 todo:=fun k h hk=>by
  have:k=1:=by simpa using h
  subst this
  exact .root hk
 shut:=fun a h=>by simp at h
 root:=fun _=> .inr (by simp)
theorem Bfs.skip {l:List TInode} {out next:List Int} {k:Int} (h:Bfs l out (k::next)) (hk:(AIz l k).isSome=true→hasB out k=true):Bfs l out next where
 nd:=h.nd
 got:=h.got
 todo:=fun j hj hp=>h.todo j (by simp[hj]) hp
 shut:=fun a ha x hx j hj hp=>by
  rcases h.shut a ha x hx j hj hp with h1|h1
  ·exact .inl h1
  ·rcases List.mem_cons.1 h1 with rfl|h1
   ·exact .inl (G8z.1 (hk hp))
   ·exact .inr h1
 root:=fun hp=>by
  rcases h.root hp with h1|h1
  ·exact .inl h1
  ·rcases List.mem_cons.1 h1 with h2|h1
   ·rw[←h2]at hk;exact .inl (G8z.1 (hk hp))
   ·exact .inr h1
theorem Bfs.take {l:List TInode} {out next:List Int} {k:Int} {x:TInode} (h:Bfs l out (k::next)) (hx:AIz l k=some x) (hk:hasB out k=false):Bfs l (out++[k]) (next++CHz x):=by
 have hr:Rch l k:=h.todo k (by simp) (by rw[hx];rfl)
 have hnot:¬k∈out:=fun e=>by rw[G8z.2 e]at hk;simp at hk
 refine⟨?_,?_,?_,?_,?_⟩
 ·rw[List.nodup_append]
  refine⟨h.nd,by simp,fun a ha b hb=> ?_⟩
  have:b=k:=by simpa using hb
  subst this
  rintro rfl
  exact hnot ha
 ·intro j hj
  rcases List.mem_append.1 hj with h1|h1
  ·exact h.got j h1
  ·have:j=k:=by simpa using h1
   subst this;exact hr
 ·intro j hj hp
  rcases List.mem_append.1 hj with h1|h1
  ·exact h.todo j (by simp[h1]) hp
  ·exact .step k j x hr hx h1 hp
 ·intro a ha y hy j hj hp
  rcases List.mem_append.1 ha with h1|h1
  ·rcases h.shut a h1 y hy j hj hp with h2|h2
   ·exact .inl (List.mem_append.2 (.inl h2))
   ·rcases List.mem_cons.1 h2 with rfl|h2
    ·exact .inl (List.mem_append.2 (.inr (by simp)))
    ·exact .inr (List.mem_append.2 (.inl h2))
  ·have:a=k:=by simpa using h1
   subst this
   rw[hx]at hy
   injection hy with hy;subst hy
   exact .inr (List.mem_append.2 (.inr hj))
 ·intro hp
  rcases h.root hp with h1|h1
  ·exact .inl (List.mem_append.2 (.inl h1))
  ·rcases List.mem_cons.1 h1 with h2|h1
   ·exact .inl (List.mem_append.2 (.inr (by simp[h2])))
   ·exact .inr (List.mem_append.2 (.inl h1))
theorem Bfs.full {l:List TInode} {out:List Int} (h:Bfs l out []):Full l out:=by
 refine⟨h.nd,fun k=>⟨h.got k,fun hr=> ?_⟩⟩
 induction hr with
 |root hp=>exact(h.root hp).resolve_right (by simp)
 |step a k x _ hx hk hp ih=>exact(h.shut a ih x hx k hk hp).resolve_right (by simp)
end Go.Proofs.YtblelojdboefjaaGreatDoor.R
namespace Go.Proofs.YtblelojdboefjaaGreatDoor.R
open Go
theorem IFz (l:List Int):(Dbz l).Perm l:=DSz _ l
theorem JCz (l:List Int):(Dbz l).length=l.length:=(IFz l).length_eq
theorem Jqz:∀l:List Int,ints? (l.map ipv)=some l
 |[]=>rfl
 |n::l=>by simp[ints?,ipv,Jqz l]
theorem Eez {α β:Type} {l:List α} {f:α→β}:(l.map f).take l.length=l.map f:=by
 rw[←List.length_map (f:=f),List.take_length]
structure Small (t:TTab):Prop where
 n:t.Inodes.length≤30
 e:∀x∈t.Inodes,x.Ents.length≤10
set_option maxHeartbeats 4000000 in
theorem LNz (n:Nat) (hn:Big+8≤n) (t:TTab) (ht:t.ok) (hs:Small t):∃L:List Int,Full t.Inodes L∧L.length≤1000∧pcall env n 117 [.c .agg (t.pv.map AMz)] []=some ⟨.c .one [.ow false 1 (L.map ipv)],[]⟩:=by
 obtain⟨m,rfl⟩:=AEz hn
 have hB:=ASz
 have hbd:Bd=1048576:=rfl
 have hl:=hs.n
 have hlim:LIM=70368744177664:=rfl
 suffices h: @Wq _ (pcall env (m+1) 117 [.c .agg (t.pv.map AMz)] []) ⟨fun r=>∃L:List Int,Full t.Inodes L∧L.length≤1000∧r=⟨.c .one [.ow false 1 (L.map ipv)],[]⟩⟩by
  obtain⟨r,h1,L,h2,h3,h4⟩:=h;exact⟨L,h2,h3,by rw[h1,h4]⟩
 refine ADz (fn:=Tryz.f117) rfl rfl rfl (Nat.le_of_ble_eq_true rfl) ?_
 unfold Tryz.f117
 simp only[go_sem,seval]
 refine AFz (fun r σ=>∃out next:List Int,Bfs t.Inodes out next∧next.length+remL t.Inodes out≤r∧out.length+next.length+remL t.Inodes out≤301∧σ=slots 56 [(1,.c .box [.sh true (.s 6 (t.Inodes.map TInode.pv)),.sh false (.i .i64 t.Next)]),(3,.c .one [.ow false 1 (out.map ipv)]),(4,.c .one [.ow false 1 (next.map ipv)])]) (301) (by omega) ?_ ?_
 ·simp only[go_sem,seval]
  refine⟨[],[1],.start _,?_,?_,rfl⟩<;>(have:=W1z hs.e [];simp only[List.length_cons,List.length_nil]at this ⊢;omega)
 ·rintro r σ ⟨out,next,hb,hr,hsum,rfl⟩
  cases next with
  |nil=>
   simp only[List.length_nil]at hsum
   have hf:=hb.full
   by_cases hz:out.length=0
   ·simp only[go_sem,seval,sortIntOrc,Jqz]
    refine BNz (by omega) ?_
    simp only[go_sem,seval,hz]
    exact⟨out,hf,by omega,rfl⟩
   ·simp only[go_sem,seval,sortIntOrc,Jqz]
    refine BNz (by omega) ?_
    simp only[go_sem,seval,hz,JCz]
    exact⟨Dbz out,hf.perm (IFz out),by rw[JCz];omega,rfl⟩
  |cons k next=>
   have h1:((next.length+1:Nat):Int)>0:=by omega
   have hat:=B9z m (deep hn (by decide)) t ht k
   have hct:=Lgz m (deep hn (by decide)) out (by simp only[List.length_cons]at hsum;omega) k
   simp only[go_sem]at hat hct
   unfold atC at hat
   have h2:(1:Int)≤((next.length+1:Nat):Int):=by omega
   simp only[List.length_cons]at hr hsum
   cases hf:AIz t.Inodes k with
   |none=>
    have hf':=hf
    unfold AIz at hf
    rw[hf]at hat
    simp only[go_sem,B1z]at hat
    simp only[go_sem,seval,h1,h2,hat,Eez,ipv]
    exact⟨r - 1,by omega,out,next,hb.skip (fun e=>by rw[hf']at e;simp at e),by omega,by omega,rfl⟩
   |some x=>
    have hf':=hf
    obtain⟨hmem,hino⟩:=Axz hf
    have hel:=hs.e x hmem
    unfold AIz at hf
    rw[hf]at hat
    simp only[go_sem,BUz]at hat
    cases hh:hasB out k with
    |true=>
     simp only[go_sem,seval,h1,h2,hat,Eez,ipv,hct,hh]
     exact⟨r - 1,by omega,out,next,hb.skip (fun _=>hh),by omega,by omega,rfl⟩
    |false=>
     have hrem:=Wzz hmem (by rw[hino];exact hh)
     rw[hino]at hrem
     have hlm:(out.length+1)*8≤LIM:=by omega
     cases hk:(x.Kind==2)with
     |false=>
      have hkid:CHz x=[]:=by unfold CHz;rw[hk]
      have htk:=hb.take hf' hh
      rw[hkid,List.append_nil]at htk
      simp only[go_sem,seval,h1,h2,hat,Eez,ipv,hct,hh,hlm,hk]
      refine⟨r - 1,by omega,out++[k],next,htk,by omega,by simp only[List.length_append,List.length_cons,List.length_nil];omega,?_⟩
      rw[List.map_append];rfl
     |true=>
      have hkid:CHz x=x.Ents.map (·.Ino):=by unfold CHz;rw[hk]
      have htk:=hb.take hf' hh
      rw[hkid]at htk
      simp only[go_sem,seval,h1,h2,hat,Eez,ipv,hct,hh,hlm,hk]
      refine AFz (fun r' σ=>∃i:Nat,i≤x.Ents.length∧r'=x.Ents.length - i∧σ=slots 56 [(1,.c .box [.sh true (.s 6 (t.Inodes.map TInode.pv)),.sh false (.i .i64 t.Next)]),(3,.c .one [.ow false 1 (out.map ipv++[[.i .i64 k]])]),(4,.c .one [.ow false 1 ((next++(x.Ents.take i).map (·.Ino)).map ipv)]),(6,.c .box [.sh false (.i .i64 x.Ino),.sh false (.i .i64 x.Kind),.sh false (.i .i64 x.Links),.ow false 1 (x.Data.map bpv),.ow false 2 (x.Ents.map TEnt.pv),.ow false 2 (x.Attrs.map TAttr.pv)]),(41,.c .one [.br 6 4 [] 0 0 false 2 (x.Ents.map TEnt.pv)]),(42,.c .one [.sh false (.i .i64 (x.Ents.length:Nat))]),(43,.c .one [.sh false (.i .i64 (i:Nat))])]) x.Ents.length (by omega) ?_ ?_
      ·simp only[go_sem,seval]
       exact⟨0,Nat.zero_le _,rfl,by simp only[List.take_zero,List.map_nil,List.append_nil];rfl⟩
      ·rintro r' σ ⟨i,hi,rfl,rfl⟩
       by_cases hlt:i<x.Ents.length
       ·have h3:((i:Int)<(x.Ents.length:Int)):=by omega
        have hy:x.Ents[i]? =some x.Ents[i]:=List.getElem?_eq_getElem hlt
        generalize x.Ents[i]=e at hy
        have hlm2:(next.length+(x.Ents.take i).length+1)*8≤LIM:=by
         rw[List.length_take];omega
        simp only[go_sem,seval,h3,hy,hlm2,ACz hlt (by omega)]
        refine⟨_,by omega,i+1,hlt,rfl,?_⟩
        rw[List.take_add_one,hy]
        simp only[Option.toList_some,List.map_append,List.map_cons,List.map_nil,List.append_assoc,ipv]
       ·have h3:¬((i:Int)<(x.Ents.length:Int)):=by omega
        obtain rfl:i=x.Ents.length:=by omega
        rw[List.take_length]
        simp only[go_sem,seval,h3]
        refine⟨r - 1,by omega,out++[k],next++x.Ents.map (·.Ino),htk,?_,?_,?_⟩
        ·simp only[List.length_append,List.length_map];omega
        ·simp only[List.length_append,List.length_map,List.length_cons,List.length_nil];omega
        ·rw[List.map_append (l₁:=out)];rfl
end Go.Proofs.YtblelojdboefjaaGreatDoor.R
namespace Go.Proofs.YtblelojdboefjaaGreatDoor.R
open Go
def A3z {α:Type} (l:List α) (j:Nat) (z:α):List α:=l.take j++z::l.drop j
theorem Hiz {α:Type} {l:List α} {j:Nat} {z:α} (h:j≤l.length):(A3z l j z).length=l.length+1:=by
 unfold A3z;simp;omega
theorem Ntz {α:Type} (l:List α) (z:α):A3z l l.length z=l++[z]:=by
 unfold A3z;simp
theorem Nsz {α:Type} {l:List α} {j:Nat} {z:α} (h:j<l.length):(A3z l (j+1) z)[j]? =l[j]? :=by
 unfold A3z
 rw[List.getElem?_append_left (by rw[List.length_take];omega),List.getElem?_take_of_lt (Nat.lt_succ_self j)]
theorem Ppz {α:Type} {l:List α} {j:Nat} {z:α} (h:j≤l.length):(A3z l j z)[j]? =some z:=by
 unfold A3z
 rw[List.getElem?_append_right (by rw[List.length_take];omega),List.length_take,Nat.min_eq_left h,Nat.sub_self]
 rfl
theorem Hhz {α:Type} {l:List α} {j:Nat} {z y:α} (h:j≤l.length):(A3z l j z).set j y=A3z l j y:=by
 unfold A3z
 rw[List.set_append_right _ _ (by rw[List.length_take];omega),List.length_take,Nat.min_eq_left h,Nat.sub_self]
 rfl
theorem MKz {α:Type} {l:List α} {j:Nat} {a:α} (h:l[j]? =some a):A3z l (j+1) a=A3z l j a:=by
 obtain⟨hj,ha⟩:=List.getElem?_eq_some_iff.1 h
 unfold A3z
 rw[List.take_add_one,h]
 have:l.drop j=a::l.drop (j+1):=by rw[List.drop_eq_getElem_cons hj,ha]
 rw[this]
 simp
theorem MJz {α:Type} (l:List α) (j:Nat) (z:α):(A3z l j z).Perm (l++[z]):=by
 unfold A3z
 have h1:(l.take j++z::l.drop j).Perm (z::(l.take j++l.drop j)):=List.perm_middle
 rw[List.take_append_drop]at h1
 exact h1.trans (List.perm_append_singleton z l).symm
theorem Pbz {l:List Int} {j:Nat} {a:Int}:(l.map ipv).set j [.i .i64 a]=(l.set j a).map ipv:=by
 rw[List.map_set];rfl
set_option maxHeartbeats 4000000 in
theorem UEz (n:Nat) (hn:Big+3≤n) (l:List Int) (hl:l.length≤4398046511104) (k:Int):∃c:CV,(c= .sh true (.s 1 (l.map ipv))∧hasB l k=true∨hasB l k=false∧∃p,c= .ow false 1 ((A3z l p k).map ipv)∧p≤l.length)∧pcall env n 240 [.c .one [.sh true (.s 1 (l.map ipv))],pvSV (.i .i64 k)] []=some ⟨.c .one [c],[]⟩:=by
 obtain⟨m,rfl⟩:=AEz hn
 have hB:=ASz
 have hB2:4398046511104<Big:=by decide
 have hlim:LIM=70368744177664:=rfl
 have hh:=UFz m (deep hn (by decide)) l hl k
 simp only[go_sem]at hh
 suffices h: @Wq _ (pcall env (m+1) 240 [.c .one [.sh true (.s 1 (l.map ipv))],pvSV (.i .i64 k)] []) ⟨fun r=>∃c:CV,(c= .sh true (.s 1 (l.map ipv))∧hasB l k=true∨hasB l k=false∧∃p,c= .ow false 1 ((A3z l p k).map ipv)∧p≤l.length)∧r=⟨.c .one [c],[]⟩⟩by
  obtain⟨r,h1,c,h2,h3⟩:=h;exact⟨c,h2,by rw[h1,h3]⟩
 refine ADz (fn:=Tryz.f240) rfl rfl rfl (Nat.le_of_ble_eq_true rfl) ?_
 unfold Tryz.f240
 cases hb:hasB l k with
 |true=>
  simp only[go_sem,seval,hh,hb]
  exact⟨_,rfl,rfl⟩
 |false=>
  have hlm:l.length*8≤LIM:=by omega
  have hlm2:(l.length+1)*8≤LIM:=by omega
  have w1:IntKind.i64.wrap (((l.length+1:Nat):Int) - 1)=(l.length:Nat):=by rw[ARz (by omega) (by omega)];omega
  simp only[go_sem,seval,hh,hb,hlm,hlm2,w1]
  refine AFz (fun r σ=>∃(j:Nat) (z:Int),j≤l.length∧r=j+1∧σ=slots 46 [(1,.c .one [.sh false (.i .i64 k)]),(5,.c .one [.ow false 1 ((A3z l j z).map ipv)]),(6,.c .one [.sh false (.i .i64 (j:Nat))])]) (l.length+1) (by omega) ?_ ?_
  ·simp only[go_sem,seval]
   refine⟨l.length,k,Nat.le_refl _,rfl,?_⟩
   rw[Ntz,List.map_append]
   rfl
  ·rintro r σ ⟨j,z,hj,rfl,rfl⟩
   have hat:(A3z l j z)[j]? =some z:=Ppz hj
   have hst:((A3z l j z).map ipv).set j [.i .i64 k]=(A3z l j k).map ipv:=by rw[Pbz,Hhz hj]
   cases j with
   |zero=>
    simp only[go_sem,seval,hat,hst]
    exact⟨_,⟨0,rfl,Nat.zero_le _⟩,rfl⟩
   |succ j=>
    have hx:l[j]? =some l[j]:=List.getElem?_eq_getElem (by omega)
    generalize l[j]=a at hx
    have h1:((j+1:Nat):Int)>0:=by omega
    have w2:IntKind.i64.wrap (((j+1:Nat):Int) - 1)=(j:Nat):=by rw[ARz (by omega) (by omega)];omega
    have hg:(A3z l (j+1) z)[j]? =some a:=by rw[Nsz (by omega),hx]
    have hst2:((A3z l (j+1) z).map ipv).set (j+1) [.i .i64 a]=(A3z l j a).map ipv:=by rw[Pbz,Hhz hj,MKz hx]
    by_cases hgt:a>k
    ·simp only[go_sem,seval,h1,w2,hg,hgt,hat,hst2,ipv]
     exact⟨_,Nat.lt_succ_self _,j,a,by omega,rfl,rfl⟩
    ·simp only[go_sem,seval,h1,w2,hg,hgt,hat,hst,ipv]
     exact⟨_,⟨j+1,rfl,hj⟩,rfl⟩
end Go.Proofs.YtblelojdboefjaaGreatDoor.R
namespace Go.Proofs.YtblelojdboefjaaGreatDoor.R
open Go
theorem CEz {E:Env} {call:CallF} {N n:Nat} {b:Code} {σ:St} {K:Kont (Ex×St)} (hn:0<n) (h: @Wq _ (some (tidy N (E.D (BVz b)) σ)) ⟨fun σ=> @Wq _ (AGz E call N n b σ) ⟨cont (fun _=>False) K.run⟩⟩): @Wq _ (AGz E call N n (.loop b) σ) K:=by
 refine AFz (fun _ τ=>τ=tidy N (E.D (BVz b)) σ) 0 hn (by rw[Evz];rfl) ?_
 rintro k τ rfl
 rw[Evz]at h
 refine h.mono fun r hr=> ?_
 obtain⟨e,τ⟩:=r
 cases e with
 |normal=>exact hr.elim
 |_=>exact hr
theorem OGz {T G:Prop} (main:T→G) (pf:T):G:=main pf
theorem Jhz {l:List TInode} {k:Int}:decide (Bjz l k≥0)=(AIz l k).isSome:=by
 unfold AIz
 rcases FCz l k with⟨h1,h2⟩|⟨j,x,h1,_,h2⟩
 ·rw[h1,h2];rfl
 ·rw[h1,h2];simp
theorem Gzz {t:TTab} (hs:Small t) {L:List Int} (h1:L.Nodup) (h2:∀k∈L,Rch t.Inodes k):L.length≤t.Inodes.length:=by
 have:=C8z (M:=t.Inodes.map (·.Ino)) h1 fun k hk=>by
  have:=(h2 k hk).placed
  obtain⟨x,hx⟩:=Option.isSome_iff_exists.1 this
  obtain⟨h3,h4⟩:=Axz hx
  exact List.mem_map.2 ⟨x,h3,h4⟩
 simpa using this
def Shp (c:CV) (L:List Int):Prop:=c= .sh true (.s 1 (L.map ipv))∨c= .sh false (.s 1 (L.map ipv))∨c= .ow false 1 (L.map ipv)
structure RndK (t:TTab) (l out:List Int) (i:Nat) (now:List Int):Prop where
 nd:out.Nodup
 r:∀k∈out,Rch t.Inodes k
 sub:∀k∈l,k∈out
 kid:∀a∈l.take i,∀x,AIz t.Inodes a=some x→∀k∈CHz x,(AIz t.Inodes k).isSome=true→k∈out
 now:∀k∈now,(AIz t.Inodes k).isSome=true→k∈out
theorem RndK.has {t:TTab} {l out:List Int} {i:Nat} {now:List Int} {k:Int} (h:RndK t l out i now) (hk:k∈out):RndK t l out i (now++[k]):=
 ⟨h.nd,h.r,h.sub,h.kid,fun j hj hp=>by
  rcases List.mem_append.1 hj with h1|h1
  ·exact h.now j h1 hp
  ·have:j=k:=by simpa using h1
   subst this;exact hk⟩
theorem RndK.none {t:TTab} {l out:List Int} {i:Nat} {now:List Int} {k:Int} (h:RndK t l out i now) (hk:(AIz t.Inodes k).isSome=false):RndK t l out i (now++[k]):=
 ⟨h.nd,h.r,h.sub,h.kid,fun j hj hp=>by
  rcases List.mem_append.1 hj with h1|h1
  ·exact h.now j h1 hp
  ·have:j=k:=by simpa using h1
   subst this;rw[hk]at hp;simp at hp⟩
theorem RndK.add {t:TTab} {l out out':List Int} {i:Nat} {now:List Int} {k:Int} (h:RndK t l out i now) (hr:Rch t.Inodes k) (hk:hasB out k=false) (hp:out'.Perm (out++[k])):RndK t l out' i (now++[k]):=by
 have hnot:¬k∈out:=fun e=>by rw[G8z.2 e]at hk;simp at hk
 have hm:∀j,j∈out'↔j∈out∨j=k:=fun j=>by rw[hp.mem_iff];simp
 refine⟨?_,?_,?_,?_,?_⟩
 ·rw[hp.nodup_iff,List.nodup_append]
  refine⟨h.nd,by simp,fun a ha b hb=> ?_⟩
  have:b=k:=by simpa using hb
  subst this
  rintro rfl
  exact hnot ha
 ·intro j hj
  rcases(hm j).1 hj with h1|rfl
  ·exact h.r j h1
  ·exact hr
 ·intro j hj;exact(hm j).2 (.inl (h.sub j hj))
 ·intro a ha x hx j hj hq;exact(hm j).2 (.inl (h.kid a ha x hx j hj hq))
 ·intro j hj hq
  rcases List.mem_append.1 hj with h1|h1
  ·exact(hm j).2 (.inl (h.now j h1 hq))
  ·have:j=k:=by simpa using h1
   exact(hm j).2 (.inr this)
theorem RndK.next {t:TTab} {l out:List Int} {i:Nat} {a:Int} {now:List Int} (h:RndK t l out i now) (ha:l[i]? =some a) (hx:∀x,AIz t.Inodes a=some x→CHz x=now):RndK t l out (i+1) []:=
 ⟨h.nd,h.r,h.sub,fun b hb x hx' k hk hp=>by
  rw[List.take_add_one,ha]at hb
  rcases List.mem_append.1 hb with h1|h1
  ·exact h.kid b h1 x hx' k hk hp
  ·have:b=a:=by simpa using h1
   subst this
   rw[hx x hx']at hk
   exact h.now k hk hp,fun k hk=>by simp at hk⟩
set_option maxHeartbeats 4000000 in
theorem SNz (n:Nat) (hn:Big+8≤n) (t:TTab) (ht:t.ok) (hs:Small t) (l:List Int) (hnd:l.Nodup) (hr:∀k∈l,Rch t.Inodes k):∃(c:CV) (L:List Int),Shp c L∧RndK t l L l.length []∧pcall env n 190 [.c .agg (t.pv.map AMz),.c .one [.sh true (.s 1 (l.map ipv))]] []=some ⟨.c .one [c],[]⟩:=by
 obtain⟨m,rfl⟩:=AEz hn
 have hB:=ASz
 have hbd:Bd=1048576:=rfl
 have hll:=Gzz hs hnd hr
 have hn30:=hs.n
 suffices h: @Wq _ (pcall env (m+1) 190 [.c .agg (t.pv.map AMz),.c .one [.sh true (.s 1 (l.map ipv))]] []) ⟨fun r=>∃(c:CV) (L:List Int),Shp c L∧RndK t l L l.length []∧r=⟨.c .one [c],[]⟩⟩by
  obtain⟨r,h1,c,L,h2,h3,h4⟩:=h;exact⟨c,L,h2,h3,by rw[h1,h4]⟩
 refine ADz (fn:=Tryz.f190) rfl rfl rfl (Nat.le_of_ble_eq_true rfl) ?_
 unfold Tryz.f190
 simp only[go_sem,seval]
 refine AFz (fun r σ=>∃(i:Nat) (c:CV) (out:List Int),i≤l.length∧r=l.length - i∧Shp c out∧RndK t l out i []∧σ=slots 59 [(1,.c .one [.sh true (.s 1 (l.map ipv))]),(2,.c .box [.sh true (.s 6 (t.Inodes.map TInode.pv)),.sh false (.i .i64 t.Next)]),(5,.c .one [c]),(6,.c .one [.sh false (.i .i64 (i:Nat))])]) l.length (by omega) ?_ ?_
 ·simp only[go_sem,seval]
  exact⟨0,_,l,Nat.zero_le _,rfl,.inl rfl,⟨hnd,hr,fun k hk=>hk,fun a ha=>by simp at ha,fun k hk=>by simp at hk⟩,rfl⟩
 ·rintro r σ ⟨i,c,out,hi,rfl,hc,hrnd,rfl⟩
  by_cases hlt:i<l.length
  ·have h1:((i:Int)<(l.length:Int)):=by omega
   have hx:l[i]? =some l[i]:=List.getElem?_eq_getElem hlt
   generalize l[i]=a at hx
   have hat:=C5z m (deep hn (by decide)) t ht a
   simp only[go_sem]at hat
   unfold atC at hat
   have hpr:∀(x:TInode) (k:Int),AIz t.Inodes a=some x→k∈CHz x→(AIz t.Inodes k).isSome=true→Rch t.Inodes k:=fun x k hx' hk hp=> .step a k x (hr a (List.mem_of_getElem? hx)) hx' hk hp
   cases hf:AIz t.Inodes a with
   |none=>
    have hf':=hf
    unfold AIz at hf
    rw[hf]at hat
    simp only[go_sem,B1z]at hat
    have hnext:=hrnd.next hx (fun x hx'=>by rw[hf']at hx';simp at hx')
    rcases hc with rfl|rfl|rfl
    all_goals
     simp only[go_sem,seval,h1,hx,hat,ipv]
     refine chk (by kernel_rfl) ?_
     refine CEz (by omega) ?_
     simp only[go_sem,seval,ACz hlt (by omega)]
     exact⟨_,by omega,i+1,_,out,hlt,rfl,by first|exact .inl rfl|exact .inr (.inl rfl)|exact .inr (.inr rfl),hnext,rfl⟩
   |some x=>
    have hf':=hf
    obtain⟨hmem,hino⟩:=Axz hf
    have hel:=hs.e x hmem
    unfold AIz at hf
    rw[hf]at hat
    simp only[go_sem,BUz]at hat
    cases hk:(x.Kind==2)with
    |false=>
     have hkid:CHz x=[]:=by unfold CHz;rw[hk]
     have hnext:=hrnd.next hx (fun y hy=>by rw[hf']at hy;injection hy with hy;subst hy;exact hkid)
     have he0:(0:Int)<(x.Ents.length:Int)∨¬(0:Int)<(x.Ents.length:Int):=Classical.em _
     rcases hc with rfl|rfl|rfl
     all_goals
      simp only[go_sem,seval,h1,hx,hat,ipv]
      refine chk (by kernel_rfl) ?_
      refine CEz (by omega) ?_
      rcases he0 with h0|h0
      all_goals
       simp only[go_sem,seval,h0,hk,ACz hlt (by omega)]
       exact⟨_,by omega,i+1,_,out,hlt,rfl,by first|exact .inl rfl|exact .inr (.inl rfl)|exact .inr (.inr rfl),hnext,rfl⟩
    |true=>
     have hkid:CHz x=x.Ents.map (·.Ino):=by unfold CHz;rw[hk]
     have hbx:x.Ents.length<m:=by omega
     apply OGz
     case main=>
      intro key
      rcases id hc with h9|h9|h9
      all_goals
       simp only[go_sem,seval,h9,h1,hx,hat,ipv]
       refine chk (by kernel_rfl) ?_
       refine AFz (fun r' σ=>∃(j:Nat) (c:CV) (out:List Int),j≤x.Ents.length∧r'=x.Ents.length - j∧Shp c out∧RndK t l out i ((x.Ents.take j).map (·.Ino))∧σ=slots 59 [(1,.c .one [.sh true (.s 1 (l.map ipv))]),(2,.c .box [.sh true (.s 6 (t.Inodes.map TInode.pv)),.sh false (.i .i64 t.Next)]),(5,.c .one [c]),(6,.c .one [.sh false (.i .i64 (i:Nat))]),(7,.c .box [.sh false (.i .i64 x.Ino),.sh false (.i .i64 x.Kind),.sh false (.i .i64 x.Links),.ow false 1 (x.Data.map bpv),.ow false 2 (x.Ents.map TEnt.pv),.ow false 2 (x.Attrs.map TAttr.pv)]),(8,.c .one [.sh false (.b true)]),(9,.c .one [.sh false (.i .i64 (j:Nat))])]) x.Ents.length hbx ?_ key
       simp only[go_sem,seval]
       exact⟨0,_,out,Nat.zero_le _,rfl,by first|exact .inl rfl|exact .inr (.inl rfl)|exact .inr (.inr rfl),hrnd,rfl⟩
     case pf=>
      rintro r' σ ⟨j,c,out,hj,rfl,hc,hrd,rfl⟩
      by_cases hlt2:j<x.Ents.length
      ·have h2:((j:Int)<(x.Ents.length:Int)):=by omega
       have hy:x.Ents[j]? =some x.Ents[j]:=List.getElem?_eq_getElem hlt2
       generalize x.Ents[j]=e at hy
       have hl4:=G6z m (deep hn (by decide)) t ht e.Ino
       have hpg:=Jhz (l:=t.Inodes) (k:=e.Ino)
       simp only[go_sem]at hl4
       have htk:(x.Ents.take (j+1)).map (·.Ino)=(x.Ents.take j).map (·.Ino)++[e.Ino]:=by rw[List.take_add_one,hy];simp
       have hin:e.Ino∈CHz x:=by rw[hkid];exact List.mem_map.2 ⟨e,List.mem_of_getElem? hy,rfl⟩
       cases hpl:(AIz t.Inodes e.Ino).isSome with
       |false=>
        have hnone:=hrd.none hpl
        rw[←htk]at hnone
        rw[hpl]at hpg
        rcases hc with rfl|rfl|rfl<;>
        ·simp only[go_sem,seval,h2,hk,hy,hl4,hpg,ACz hlt2 (by omega)]
         exact chk (by kernel_rfl) ⟨_,by omega,j+1,_,out,hlt2,rfl,by first|exact .inl rfl|exact .inr (.inl rfl)|exact .inr (.inr rfl),hnone,rfl⟩
       |true=>
        rw[hpl]at hpg
        obtain⟨c',hc',hput⟩:=UEz m (deep hn (by decide)) out (by have:=Gzz hs hrd.nd hrd.r;omega) e.Ino
        simp only[go_sem]at hput
        rcases hc' with⟨rfl,hb⟩|⟨hb,p,rfl,hp⟩
        ·have hhas:=hrd.has (G8z.1 hb)
         rw[←htk]at hhas
         rcases hc with rfl|rfl|rfl<;>
         ·simp only[go_sem,seval,h2,hk,hy,hl4,hpg,hput,ACz hlt2 (by omega)]
          first
          |exact chk (by kernel_rfl) ⟨_,by omega,j+1,.sh true (.s 1 (out.map ipv)),out,hlt2,rfl,.inl rfl,hhas,rfl⟩
          |exact chk (by kernel_rfl) ⟨_,by omega,j+1,.sh false (.s 1 (out.map ipv)),out,hlt2,rfl,.inr (.inl rfl),hhas,rfl⟩
        ·have hadd:=hrd.add (hpr x _ hf' hin hpl) hb (MJz out p e.Ino)
         rw[←htk]at hadd
         rcases hc with rfl|rfl|rfl<;>
         ·simp only[go_sem,seval,h2,hk,hy,hl4,hpg,hput,ACz hlt2 (by omega)]
          exact chk (by kernel_rfl) ⟨_,by omega,j+1,.ow false 1 ((A3z out p e.Ino).map ipv),A3z out p e.Ino,hlt2,rfl,.inr (.inr rfl),hadd,rfl⟩
      ·have h2:¬((j:Int)<(x.Ents.length:Int)):=by omega
       obtain rfl:j=x.Ents.length:=by omega
       rw[List.take_length]at hrd
       have hnext:=hrd.next hx (fun y hy=>by rw[hf']at hy;injection hy with hy;subst hy;exact hkid)
       rcases hc with rfl|rfl|rfl<;>
       ·simp only[go_sem,seval,h2,hk,ACz hlt (by omega)]
        exact⟨_,by omega,i+1,_,out,hlt,rfl,by first|exact .inl rfl|exact .inr (.inl rfl)|exact .inr (.inr rfl),hnext,rfl⟩
  ·have h1:¬((i:Int)<(l.length:Int)):=by omega
   obtain rfl:i=l.length:=by omega
   rcases hc with rfl|rfl|rfl<;>
   ·simp only[go_sem,seval,h1]
    exact⟨_,out,by first|exact .inl rfl|exact .inr (.inl rfl)|exact .inr (.inr rfl),hrnd,rfl⟩
end Go.Proofs.YtblelojdboefjaaGreatDoor.R
namespace Go.Proofs.YtblelojdboefjaaGreatDoor.R
open Go
def Shut (l:List TInode) (L:List Int):Prop:=∀a∈L,∀x,AIz l a=some x→∀k∈CHz x,(AIz l k).isSome=true→k∈L
theorem Toz {t:TTab} {l L:List Int} (h:RndK t l L l.length []):∀a∈l,∀x,AIz t.Inodes a=some x→∀k∈CHz x,(AIz t.Inodes k).isSome=true→k∈L:=by
 have:=h.kid
 rw[List.take_length]at this
 exact this
theorem Mzz {l:List TInode} {L:List Int} (hs:Shut l L) (h1:(AIz l 1).isSome=true→1∈L) {k:Int} (h:Rch l k):k∈L:=by
 induction h with
 |root hp=>exact h1 hp
 |step a k x _ hx hk hp ih=>exact hs a ih x hx k hk hp
theorem Tpz {t:TTab} {l L:List Int} {i:Nat} (hnd:l.Nodup) (h1:(AIz t.Inodes 1).isSome=true→1∈l) (h:RndK t l L l.length []) (hl:Shut t.Inodes l∨i+1≤l.length):Shut t.Inodes L∨i+1+1≤L.length:=by
 by_cases hs:Shut t.Inodes l
 ·left
  intro a ha x hx k hk hp
  exact h.sub k (hs a (Mzz hs h1 (h.r a ha)) x hx k hk hp)
 ·right
  have hl:=hl.resolve_left hs
  have:∃k,k∈L∧¬k∈l:=by
   refine Classical.byContradiction fun hno=>hs fun a ha x hx k hk hp=> ?_
   refine Classical.byContradiction fun hk2=>hno ⟨k,Toz h a ha x hx k hk hp,hk2⟩
  obtain⟨k,hk,hk2⟩:=this
  have h1:(k::l).length≤L.length:=C8z (List.nodup_cons.2 ⟨hk2,hnd⟩) fun j hj=>by
   rcases List.mem_cons.1 hj with rfl|hj
   ·exact hk
   ·exact h.sub j hj
  simp only[List.length_cons]at h1
  omega
theorem Pqz {t:TTab} {L:List Int} (hnd:L.Nodup) (hr:∀k∈L,Rch t.Inodes k) (h1:(AIz t.Inodes 1).isSome=true→1∈L) (hs:Shut t.Inodes L):Full t.Inodes L:=
 ⟨hnd,fun k=>⟨hr k,Mzz hs h1⟩⟩
set_option maxHeartbeats 4000000 in
theorem LMz (n:Nat) (hn:Big+9≤n) (t:TTab) (ht:t.ok) (hs:Small t):∃(c:CV) (L:List Int),(∃fl,c= .sh fl (.s 1 (L.map ipv))∨c= .ow fl 1 (L.map ipv))∧Full t.Inodes L∧pcall env n 106 [.c .agg (t.pv.map AMz)] []=some ⟨.c .one [c],[]⟩:=by
 obtain⟨m,rfl⟩:=AEz hn
 have hB:=ASz
 have hbd:Bd=1048576:=rfl
 have hl:=hs.n
 have h8:8≤LIM:=by decide
 suffices h: @Wq _ (pcall env (m+1) 106 [.c .agg (t.pv.map AMz)] []) ⟨fun r=>∃(c:CV) (L:List Int),(∃fl,c= .sh fl (.s 1 (L.map ipv))∨c= .ow fl 1 (L.map ipv))∧Full t.Inodes L∧r=⟨.c .one [c],[]⟩⟩by
  obtain⟨r,h1,c,L,h2,h3,h4⟩:=h;exact⟨c,L,h2,h3,by rw[h1,h4]⟩
 have hl4:=G6z m (deep hn (by decide)) t ht 1
 have hpg:=Jhz (l:=t.Inodes) (k:=1)
 simp only[go_sem]at hl4
 refine ADz (fn:=Tryz.f106) rfl rfl rfl (Nat.le_of_ble_eq_true rfl) ?_
 unfold Tryz.f106
 cases hpl:(AIz t.Inodes 1).isSome with
 |false=>
  rw[hpl]at hpg
  have hlt:Bjz t.Inodes 1<0:=by simpa using hpg
  simp only[go_sem,seval,hl4,hlt]
  refine⟨_,[],⟨_,.inr rfl⟩,Pqz List.nodup_nil (fun k hk=>by simp at hk) (fun h=>by rw[hpl]at h;simp at h) (fun a ha=>by simp at ha),rfl⟩
 |true=>
  rw[hpl]at hpg
  have hlt:¬Bjz t.Inodes 1<0:=by simpa using hpg
  simp only[go_sem,seval,hl4,hlt,h8]
  refine AFz (fun r σ=>∃(i:Nat) (c:CV) (L:List Int),i≤t.Inodes.length∧r=t.Inodes.length - i∧(∃fl,c= .sh fl (.s 1 (L.map ipv))∨c= .ow fl 1 (L.map ipv))∧L.Nodup∧(∀k∈L,Rch t.Inodes k)∧1∈L∧(Shut t.Inodes L∨i+1≤L.length)∧σ=slots 24 [(1,.c .box [.sh true (.s 6 (t.Inodes.map TInode.pv)),.sh false (.i .i64 t.Next)]),(3,.c .one [c]),(4,.c .one [.sh false (.i .i64 (i:Nat))])]) t.Inodes.length (by omega) ?_ ?_
  ·simp only[go_sem,seval]
   refine⟨0,_,[1],Nat.zero_le _,rfl,⟨_,.inr rfl⟩,by simp,fun k hk=> ?_,by simp,.inr (by simp),rfl⟩
   have:k=1:=by simpa using hk
   subst this;exact .root hpl
  ·rintro r σ ⟨i,c,L,hi,rfl,hc,hnd,hr,h1,hsh,rfl⟩
   by_cases hlt2:i<t.Inodes.length
   ·have h2:((i:Int)<(t.Inodes.length:Int)):=by omega
    obtain⟨c',L',hc',hrnd,hnx⟩:=SNz m (deep hn (by decide)) t ht hs L hnd hr
    simp only[go_sem]at hnx
    have hgr:=Tpz hnd (fun _=>h1) hrnd hsh
    have h1':=hrnd.sub 1 h1
    rcases hc with⟨fl,rfl|rfl⟩<;>rcases hc' with rfl|rfl|rfl<;>
    ·simp only[go_sem,seval,h2,hnx,ACz hlt2 (by omega)]
     first
     |exact⟨_,by omega,i+1,.sh true (.s 1 (L'.map ipv)),L',hlt2,rfl,⟨_,.inl rfl⟩,hrnd.nd,hrnd.r,h1',hgr,by with_reducible rfl⟩
     |exact⟨_,by omega,i+1,.sh fl (.s 1 (L'.map ipv)),L',hlt2,rfl,⟨_,.inl rfl⟩,hrnd.nd,hrnd.r,h1',hgr,by with_reducible rfl⟩
     |exact⟨_,by omega,i+1,.sh false (.s 1 (L'.map ipv)),L',hlt2,rfl,⟨_,.inl rfl⟩,hrnd.nd,hrnd.r,h1',hgr,by with_reducible rfl⟩
     |exact⟨_,by omega,i+1,.ow false 1 (L'.map ipv),L',hlt2,rfl,⟨_,.inr rfl⟩,hrnd.nd,hrnd.r,h1',hgr,by with_reducible rfl⟩
   ·have h2:¬((i:Int)<(t.Inodes.length:Int)):=by omega
    obtain rfl:i=t.Inodes.length:=by omega
    have hfull:=Pqz hnd hr (fun _=>h1) (hsh.resolve_right (by have:=Gzz hs hnd hr;omega))
    rcases hc with⟨fl,rfl|rfl⟩
    ·simp only[go_sem,seval,h2]
     exact⟨_,L,⟨_,.inl rfl⟩,hfull,rfl⟩
    ·simp only[go_sem,seval,h2]
     exact⟨_,L,⟨_,.inr rfl⟩,hfull,rfl⟩
end Go.Proofs.YtblelojdboefjaaGreatDoor.R
namespace Go.Proofs.YtblelojdboefjaaGreatDoor.R
open Go
open Classical in
noncomputable def rchN (l:List TInode):Nat:=if h:∃L,Full l L then h.choose.length else 0
theorem Pdz {l:List TInode} {L:List Int} (h:Full l L):L.length=rchN l:=by
 have hx:∃L,Full l L:=⟨L,h⟩
 unfold rchN
 rw[dif_pos hx]
 exact h.len hx.choose_spec
def FTz (l:List TInode) (x:TInode):Bool:=allB x.Ents.length fun i=>match x.Ents[i]? with
 |some e=>(AIz l e.Ino).isSome
 |none=>true
def Iuz (l:List TInode) (x:TInode):Bool:=((BKz l x.Ino:Nat):Int)==x.Links&&FTz l x
def Boz (l:List TInode) (i:Nat):Bool:=match l[i]? with
 |some x=>Iuz l x
 |none=>true
noncomputable def AXz (t:TTab):Bool:=tabI t&&decide (rchN t.Inodes=t.Inodes.length)&&allB t.Inodes.length (Boz t.Inodes)
theorem Jcz {t:TTab} (h:tabI t=true):Small t:=by
 unfold tabI at h
 simp only[Bool.and_eq_true,Bool.not_eq_true',decide_eq_false_iff_not]at h
 have hn:=h.1.2
 refine⟨by omega,fun x hx=> ?_⟩
 obtain⟨i,hi⟩:=List.getElem?_of_mem hx
 unfold Clz at hn
 have h1:=DLz hn (List.getElem?_eq_some_iff.1 hi).1
 have h2:Auz x=true:=by
  unfold BWz E0z at h1
  rw[hi]at h1
  simp only[Bool.and_eq_true]at h1
  exact h1.1.1
 unfold Auz at h2
 simp only[Bool.and_eq_true]at h2
 have h3:=h2.1.1.2
 unfold CLz at h3
 simp only[Bool.and_eq_true,decide_eq_true_eq]at h3
 omega
theorem Muz {l:List TInode} {j:Nat} {x:TInode} (h:l[j]? =some x) (hb:(((BKz l x.Ino:Nat):Int)==x.Links)=false):Boz l j=false:=by
 simp only[Boz,h,Iuz,hb,Bool.false_and]
theorem Mtz {l:List TInode} {j:Nat} {x:TInode} (h:l[j]? =some x) (hb:(((BKz l x.Ino:Nat):Int)==x.Links)=true):Boz l j=FTz l x:=by
 simp only[Boz,h,Iuz,hb,Bool.true_and]
theorem Kuz {l:List TInode} {x:TInode} {i:Nat} {e:TEnt} (h:x.Ents[i]? =some e) (hb:(AIz l e.Ino).isSome=false):FTz l x=false:=by
 unfold FTz
 exact A8z (List.getElem?_eq_some_iff.1 h).1 (by rw[h];exact hb)
theorem NEz {l:List TInode} {k:Int}:decide (Bjz l k<0)= !(AIz l k).isSome:=by
 rw[←Jhz]
 by_cases h:Bjz l k<0
 ·rw[decide_eq_true h,decide_eq_false (by omega)];rfl
 ·rw[decide_eq_false h,decide_eq_true (by omega)];rfl
set_option maxHeartbeats 8000000 in
theorem E9z (n:Nat) (hn:Big+10≤n) (t:TTab) (ht:t.ok):pcall env n 38 [.c .agg (t.pv.map AMz)] []=some ⟨pvSV (.b (AXz t)),[]⟩:=by
 obtain⟨m,rfl⟩:=AEz hn
 have hB:=ASz
 have hbd:Bd=1048576:=rfl
 have hl:=ht.Inodes.2
 have ho:=ht.Inodes.1
 have htab:=QGz m (deep hn (by decide)) t ht
 rw[←Wsz]at htab
 simp only[go_sem]at htab
 refine ANz (ADz (fn:=Tryz.f38) rfl rfl rfl (Nat.le_of_ble_eq_true rfl) ?_)
 unfold Tryz.f38
 cases htb:tabI t with
 |false=>
  have e:AXz t=false:=by unfold AXz;rw[htb];rfl
  rw[e]
  simp only[go_sem,seval,htab,htb]
  exact chk1 (by kernel_rfl)
 |true=>
 have hs:=Jcz htb
 obtain⟨c,L,hc,hfull,hre⟩:=LMz m (deep hn (by decide)) t ht hs
 simp only[go_sem]at hre
 have hrl:=Pdz hfull
 have hLb:=Gzz hs hfull.nd (fun k hk=>(hfull.mem k).1 hk)
 by_cases hlen:L.length=t.Inodes.length
 case neg=>
  have e:AXz t=false:=by
   unfold AXz
   rw[decide_eq_false (by rw[←hrl];exact hlen)]
   simp
  have hbne:(((L.length:Nat):Int) !=(t.Inodes.length:Nat))=true:=by simp;omega
  rw[e]
  rcases hc with⟨fl,rfl|rfl⟩<;>
  ·simp only[go_sem,seval,htab,htb,hre,hbne]
   exact chk1 (by kernel_rfl)
 case pos=>
 have hbne:(((L.length:Nat):Int) !=(t.Inodes.length:Nat))=false:=by simp;omega
 have hdec:decide (rchN t.Inodes=t.Inodes.length)=true:=decide_eq_true (by rw[←hrl];exact hlen)
 have bad:∀j,j<t.Inodes.length→Boz t.Inodes j=false→AXz t=false:=fun j hj e=>by
  unfold AXz;rw[A8z hj e];simp
 have good:(∀i,i<t.Inodes.length→Boz t.Inodes i=true)→AXz t=true:=fun h=>by
  unfold AXz;rw[htb,hdec,BRz h];rfl
 have hbt:t.Inodes.length<m:=by omega
 apply OGz
 case main=>
  intro key
  rcases id hc with⟨fl,h9|h9⟩
  ·simp only[go_sem,seval,htab,htb,hre,h9,hbne]
   refine chk (by kernel_rfl) ?_
   refine AFz (fun r σ=>∃j:Nat,j≤t.Inodes.length∧r=t.Inodes.length - j∧(∀i,i<j→Boz t.Inodes i=true)∧σ=slots 53 [(1,.c .box [.sh true (.s 6 (t.Inodes.map TInode.pv)),.sh false (.i .i64 t.Next)]),(3,.c .one [.sh false (.i .i64 (j:Nat))])]) t.Inodes.length hbt ?_ key
   simp only[go_sem,seval]
   exact⟨0,Nat.zero_le _,rfl,fun i hi=>absurd hi (Nat.not_lt_zero _),rfl⟩
  ·simp only[go_sem,seval,htab,htb,hre,h9,hbne]
   refine chk (by kernel_rfl) ?_
   refine AFz (fun r σ=>∃j:Nat,j≤t.Inodes.length∧r=t.Inodes.length - j∧(∀i,i<j→Boz t.Inodes i=true)∧σ=slots 53 [(1,.c .box [.sh true (.s 6 (t.Inodes.map TInode.pv)),.sh false (.i .i64 t.Next)]),(3,.c .one [.sh false (.i .i64 (j:Nat))])]) t.Inodes.length hbt ?_ key
   simp only[go_sem,seval]
   exact⟨0,Nat.zero_le _,rfl,fun i hi=>absurd hi (Nat.not_lt_zero _),rfl⟩
 case pf=>
  rintro r σ ⟨j,hj,rfl,hp,rfl⟩
  by_cases hlt:j<t.Inodes.length
  ·have h1:((j:Int)<(t.Inodes.length:Int)):=by omega
   have hx:t.Inodes[j]? =some t.Inodes[j]:=List.getElem?_eq_getElem hlt
   have hok:=ho _ (List.getElem_mem hlt)
   generalize t.Inodes[j]=a at hx hok
   have step:Boz t.Inodes j=true→∀i,i<j+1→Boz t.Inodes i=true:=fun e i hi=>by
    rcases Nat.lt_succ_iff_lt_or_eq.1 hi with h|h
    ·exact hp i h
    ·subst h;exact e
   have hln:=Nbz m (deep hn (by decide)) t ht a.Ino
   simp only[go_sem]at hln
   cases hk:(((BKz t.Inodes a.Ino:Nat):Int)==a.Links)with
   |false=>
    rw[bad j hlt (Muz hx hk)]
    have hk':(((BKz t.Inodes a.Ino:Nat):Int) !=a.Links)=true:=by unfold bne;rw[hk];rfl
    simp only[go_sem,seval,h1,hx,hln,hk']
    exact chk1 (by kernel_rfl)
   |true=>
    have hk':(((BKz t.Inodes a.Ino:Nat):Int) !=a.Links)=false:=by unfold bne;rw[hk];rfl
    have e2:=Mtz hx hk
    simp only[go_sem,seval,h1,hx,hln,hk']
    refine chk (by kernel_rfl) ?_
    have hel:=hok.Ents.2
    refine AFz (fun r σ=>∃i:Nat,i≤a.Ents.length∧r=a.Ents.length - i∧(∀q,q<i→∀e,a.Ents[q]? =some e→(AIz t.Inodes e.Ino).isSome=true)∧σ=slots 53 [(1,.c .box [.sh true (.s 6 (t.Inodes.map TInode.pv)),.sh false (.i .i64 t.Next)]),(3,.c .one [.sh false (.i .i64 (j:Nat))]),(4,.c .box [.sh false (.i .i64 a.Ino),.sh false (.i .i64 a.Kind),.sh false (.i .i64 a.Links),.sh true (.s 1 (a.Data.map bpv)),.sh true (.s 2 (a.Ents.map TEnt.pv)),.sh true (.s 2 (a.Attrs.map TAttr.pv))]),(5,.c .one [.sh false (.i .i64 (i:Nat))])]) a.Ents.length (by omega) ?_ ?_
    ·simp only[go_sem,seval]
     exact⟨0,Nat.zero_le _,rfl,fun q hq=>absurd hq (Nat.not_lt_zero _),rfl⟩
    ·rintro r σ ⟨i,hi,rfl,hpe,rfl⟩
     by_cases hlt2:i<a.Ents.length
     ·have h2:((i:Int)<(a.Ents.length:Int)):=by omega
      have hy:a.Ents[i]? =some a.Ents[i]:=List.getElem?_eq_getElem hlt2
      generalize a.Ents[i]=e at hy
      have hpl:=G6z m (deep hn (by decide)) t ht e.Ino
      have hpg:=NEz (l:=t.Inodes) (k:=e.Ino)
      simp only[go_sem]at hpl
      cases hps:(AIz t.Inodes e.Ino).isSome with
      |false=>
       rw[hps]at hpg
       have hpg':Bjz t.Inodes e.Ino<0:=by simpa using hpg
       rw[bad j hlt (by rw[e2];exact Kuz hy hps)]
       simp only[go_sem,seval,h2,hy,hpl,hpg']
       exact chk1 (by kernel_rfl)
      |true=>
       rw[hps]at hpg
       have hpg':¬Bjz t.Inodes e.Ino<0:=by simpa using hpg
       simp only[go_sem,seval,h2,hy,hpl,hpg',ACz hlt2 (by omega)]
       refine chk (by kernel_rfl) ⟨_,by omega,i+1,hlt2,rfl,fun q hq e' he'=> ?_,rfl⟩
       rcases Nat.lt_succ_iff_lt_or_eq.1 hq with h|h
       ·exact hpe q h e' he'
       ·subst h;rw[hy]at he';injection he' with he';subst he';exact hps
     ·have h2:¬((i:Int)<(a.Ents.length:Int)):=by omega
      obtain rfl:i=a.Ents.length:=by omega
      have e3:Boz t.Inodes j=true:=by
       rw[e2]
       unfold FTz
       refine BRz fun q hq=> ?_
       rw[List.getElem?_eq_getElem hq]
       exact hpe q hq _ (List.getElem?_eq_getElem hq)
      simp only[go_sem,seval,h2,ACz hlt (by omega)]
      exact⟨_,by omega,j+1,hlt,rfl,step e3,rfl⟩
  ·have h1:¬((j:Int)<(t.Inodes.length:Int)):=by omega
   obtain rfl:j=t.Inodes.length:=by omega
   rw[good hp]
   simp only[go_sem,seval,h1]
set_option maxHeartbeats 8000000 in
theorem FAz (n:Nat) (hn:Big+10≤n) (t:TTab) (ht:t.ok):pcall env n 44 [.c .agg (t.pv.map AMz)] []=some ⟨pvSV (.b (AXz t)),[]⟩:=by
 obtain⟨m,rfl⟩:=AEz hn
 have hB:=ASz
 have hbd:Bd=1048576:=rfl
 have hl:=ht.Inodes.2
 have ho:=ht.Inodes.1
 have htab:=QJz m (deep hn (by decide)) t ht
 simp only[go_sem]at htab
 refine ANz (ADz (fn:=Tryz.f44) rfl rfl rfl (Nat.le_of_ble_eq_true rfl) ?_)
 unfold Tryz.f44
 cases htb:tabI t with
 |false=>
  have e:AXz t=false:=by unfold AXz;rw[htb];rfl
  rw[e]
  simp only[go_sem,seval,htab,htb]
  exact chk1 (by kernel_rfl)
 |true=>
 have hs:=Jcz htb
 obtain⟨L,hfull,hL1000,hre⟩:=LNz m (deep hn (by decide)) t ht hs
 simp only[go_sem]at hre
 have hrl:=Pdz hfull
 have hLb:=Gzz hs hfull.nd (fun k hk=>(hfull.mem k).1 hk)
 by_cases hlen:L.length=t.Inodes.length
 case neg=>
  have e:AXz t=false:=by
   unfold AXz
   rw[decide_eq_false (by rw[←hrl];exact hlen)]
   simp
  have hbne:(((L.length:Nat):Int) !=(t.Inodes.length:Nat))=true:=by simp;omega
  rw[e]
  simp only[go_sem,seval,htab,htb,hre,hbne]
  exact chk1 (by kernel_rfl)
 case pos=>
 have hbne:(((L.length:Nat):Int) !=(t.Inodes.length:Nat))=false:=by simp;omega
 have hdec:decide (rchN t.Inodes=t.Inodes.length)=true:=decide_eq_true (by rw[←hrl];exact hlen)
 have bad:∀j,j<t.Inodes.length→Boz t.Inodes j=false→AXz t=false:=fun j hj e=>by
  unfold AXz;rw[A8z hj e];simp
 have good:(∀i,i<t.Inodes.length→Boz t.Inodes i=true)→AXz t=true:=fun h=>by
  unfold AXz;rw[htb,hdec,BRz h];rfl
 have hbt:t.Inodes.length<m:=by omega
 simp only[go_sem,seval,htab,htb,hre,hbne]
 refine chk (by kernel_rfl) ?_
 refine AFz (fun r σ=>∃j:Nat,j≤t.Inodes.length∧r=t.Inodes.length - j∧(∀i,i<j→Boz t.Inodes i=true)∧σ=slots 47 [(1,.c .box [.sh true (.s 6 (t.Inodes.map TInode.pv)),.sh false (.i .i64 t.Next)]),(20,.c .one [.sh true (.s 6 (t.Inodes.map TInode.pv))]),(21,.c .one [.sh false (.i .i64 (t.Inodes.length:Nat))]),(22,.c .one [.sh false (.i .i64 (j:Nat))])]) t.Inodes.length hbt ?_ ?_
 ·simp only[go_sem,seval]
  exact⟨0,Nat.zero_le _,rfl,fun i hi=>absurd hi (Nat.not_lt_zero _),rfl⟩
 ·rintro r σ ⟨j,hj,rfl,hp,rfl⟩
  by_cases hlt:j<t.Inodes.length
  ·have h1:((j:Int)<(t.Inodes.length:Int)):=by omega
   have hx:t.Inodes[j]? =some t.Inodes[j]:=List.getElem?_eq_getElem hlt
   have hok:=ho _ (List.getElem_mem hlt)
   generalize t.Inodes[j]=a at hx hok
   have step:Boz t.Inodes j=true→∀i,i<j+1→Boz t.Inodes i=true:=fun e i hi=>by
    rcases Nat.lt_succ_iff_lt_or_eq.1 hi with h|h
    ·exact hp i h
    ·subst h;exact e
   have hln:=Ncz m (deep hn (by decide)) t ht a.Ino
   simp only[go_sem]at hln
   cases hk:(((BKz t.Inodes a.Ino:Nat):Int)==a.Links)with
   |false=>
    rw[bad j hlt (Muz hx hk)]
    have hk':(a.Links !=((BKz t.Inodes a.Ino:Nat):Int))=true:=by unfold bne;rw[BEq.comm,hk];rfl
    simp only[go_sem,seval,h1,hx,hln,hk']
    exact chk1 (by kernel_rfl)
   |true=>
    have hk':(a.Links !=((BKz t.Inodes a.Ino:Nat):Int))=false:=by unfold bne;rw[BEq.comm,hk];rfl
    have e2:=Mtz hx hk
    simp only[go_sem,seval,h1,hx,hln,hk']
    refine chk (by kernel_rfl) ?_
    have hel:=hok.Ents.2
    refine AFz (fun r σ=>∃i:Nat,i≤a.Ents.length∧r=a.Ents.length - i∧(∀q,q<i→∀e,a.Ents[q]? =some e→(AIz t.Inodes e.Ino).isSome=true)∧σ=slots 47 [(1,.c .box [.sh true (.s 6 (t.Inodes.map TInode.pv)),.sh false (.i .i64 t.Next)]),(4,.c .box [.sh false (.i .i64 a.Ino),.sh false (.i .i64 a.Kind),.sh false (.i .i64 a.Links),.sh true (.s 1 (a.Data.map bpv)),.sh true (.s 2 (a.Ents.map TEnt.pv)),.sh true (.s 2 (a.Attrs.map TAttr.pv))]),(20,.c .one [.sh true (.s 6 (t.Inodes.map TInode.pv))]),(21,.c .one [.sh false (.i .i64 (t.Inodes.length:Nat))]),(22,.c .one [.sh false (.i .i64 (j:Nat))]),(34,.c .one [.sh true (.s 2 (a.Ents.map TEnt.pv))]),(35,.c .one [.sh false (.i .i64 (a.Ents.length:Nat))]),(36,.c .one [.sh false (.i .i64 (i:Nat))])]) a.Ents.length (by omega) ?_ ?_
    ·simp only[go_sem,seval]
     exact⟨0,Nat.zero_le _,rfl,fun q hq=>absurd hq (Nat.not_lt_zero _),rfl⟩
    ·rintro r σ ⟨i,hi,rfl,hpe,rfl⟩
     by_cases hlt2:i<a.Ents.length
     ·have h2:((i:Int)<(a.Ents.length:Int)):=by omega
      have hy:a.Ents[i]? =some a.Ents[i]:=List.getElem?_eq_getElem hlt2
      generalize a.Ents[i]=e at hy
      have hpl:=KPz m (deep hn (by decide)) t ht e.Ino
      have hpg:=NEz (l:=t.Inodes) (k:=e.Ino)
      simp only[go_sem]at hpl
      cases hps:(AIz t.Inodes e.Ino).isSome with
      |false=>
       rw[hps]at hpg
       have hpg':Bjz t.Inodes e.Ino<0:=by simpa using hpg
       rw[bad j hlt (by rw[e2];exact Kuz hy hps)]
       simp only[go_sem,seval,h2,hy,hpl,hpg']
      |true=>
       rw[hps]at hpg
       have hpg':¬Bjz t.Inodes e.Ino<0:=by simpa using hpg
       simp only[go_sem,seval,h2,hy,hpl,hpg',ACz hlt2 (by omega)]
       refine⟨_,by omega,i+1,hlt2,rfl,fun q hq e' he'=> ?_,rfl⟩
       rcases Nat.lt_succ_iff_lt_or_eq.1 hq with h|h
       ·exact hpe q h e' he'
       ·subst h;rw[hy]at he';injection he' with he';subst he';exact hps
     ·have h2:¬((i:Int)<(a.Ents.length:Int)):=by omega
      obtain rfl:i=a.Ents.length:=by omega
      have e3:Boz t.Inodes j=true:=by
       rw[e2]
       unfold FTz
       refine BRz fun q hq=> ?_
       rw[List.getElem?_eq_getElem hq]
       exact hpe q hq _ (List.getElem?_eq_getElem hq)
      simp only[go_sem,seval,h2,ACz hlt (by omega)]
      exact⟨_,by omega,j+1,hlt,rfl,step e3,rfl⟩
  ·have h1:¬((j:Int)<(t.Inodes.length:Int)):=by omega
   obtain rfl:j=t.Inodes.length:=by omega
   rw[good hp]
   simp only[go_sem,seval,h1]
end Go.Proofs.YtblelojdboefjaaGreatDoor.R
namespace Go.Proofs.YtblelojdboefjaaGreatDoor.R
open Go
def entI (es:List TEnt) (nm:List UInt8):Int:=match es.find? (fun e=>e.Name.toList==nm)with
 |some e=>e.Ino
 |none=>0
theorem Juz {es:List TEnt} {nm:List UInt8} {j:Nat} {a:TEnt} (hx:es[j]? =some a) (ha:(a.Name.toList==nm)=true) (hp:∀(i:Nat) (y:TEnt),i<j→es[i]? =some y→(y.Name.toList==nm)=false):entI es nm=a.Ino:=by
 have:es.find? (fun e=>e.Name.toList==nm)=some a:=by
  rw[List.find?_eq_some_iff_getElem]
  obtain⟨hj,hja⟩:=List.getElem?_eq_some_iff.1 hx
  exact⟨ha,j,hj,hja,fun i hi=>by simpa using hp i _ hi (List.getElem?_eq_getElem (by omega))⟩
 unfold entI;rw[this]
theorem N7z {es:List TEnt} {nm:List UInt8} (hp:∀(i:Nat) (y:TEnt),i<es.length→es[i]? =some y→(y.Name.toList==nm)=false):entI es nm=0:=by
 have:es.find? (fun e=>e.Name.toList==nm)=none:=by
  rw[List.find?_eq_none]
  intro y hy
  obtain⟨i,hi⟩:=List.getElem?_of_mem hy
  simpa using hp i y (List.getElem?_eq_some_iff.1 hi).1 hi
 unfold entI;rw[this]
set_option maxHeartbeats 1000000 in
theorem Q2z (n:Nat) (hn:Big+2≤n) (x:TInode) (hxo:x.ok) (s:ByteArray):pcall env n 206 [.c .agg (x.pv.map AMz),pvSV (.t s)] []=some ⟨pvSV (.i .i64 (entI x.Ents s.toList)),[]⟩:=by
 obtain⟨m,rfl⟩:=AEz hn
 have hB:=ASz
 have hbd:Bd=1048576:=rfl
 have hl:=hxo.Ents.2
 refine ANz (ADz (fn:=Tryz.f206) rfl rfl rfl (Nat.le_of_ble_eq_true rfl) ?_)
 unfold Tryz.f206
 simp only[go_sem,seval]
 refine AFz (fun r σ=>∃j:Nat,j≤x.Ents.length∧r=x.Ents.length - j∧(∀(i:Nat) (y:TEnt),i<j→x.Ents[i]? =some y→(y.Name.toList==s.toList)=false)∧σ=slots 21 [(1,.c .one [.sh false (.t s)]),(2,.c .box [.sh false (.i .i64 x.Ino),.sh false (.i .i64 x.Kind),.sh false (.i .i64 x.Links),.sh true (.s 1 (x.Data.map bpv)),.sh true (.s 2 (x.Ents.map TEnt.pv)),.sh true (.s 2 (x.Attrs.map TAttr.pv))]),(8,.c .one [.sh true (.s 2 (x.Ents.map TEnt.pv))]),(9,.c .one [.sh false (.i .i64 (x.Ents.length:Nat))]),(10,.c .one [.sh false (.i .i64 (j:Nat))])]) x.Ents.length (by omega) ?_ ?_
 ·simp only[go_sem,seval]
  exact⟨0,Nat.zero_le _,rfl,fun i y hi=>absurd hi (Nat.not_lt_zero _),rfl⟩
 ·rintro r σ ⟨j,hj,rfl,hp,rfl⟩
  by_cases hlt:j<x.Ents.length
  ·have h1:((j:Int)<(x.Ents.length:Int)):=by omega
   have hx:x.Ents[j]? =some x.Ents[j]:=List.getElem?_eq_getElem hlt
   generalize x.Ents[j]=a at hx
   cases ha:(a.Name.toList==s.toList)with
   |true=>
    rw[Juz hx ha hp]
    simp only[go_sem,seval,h1,hx,ha]
   |false=>
    simp only[go_sem,seval,h1,hx,ha,ACz hlt (by omega)]
    refine⟨_,by omega,j+1,hlt,rfl,fun i y hi hy=> ?_,by with_reducible rfl⟩
    rcases Nat.lt_succ_iff_lt_or_eq.1 hi with h|h
    ·exact hp i y h hy
    ·subst h;rw[hx]at hy;injection hy with hy;subst hy;exact ha
  ·have h1:¬((j:Int)<(x.Ents.length:Int)):=by omega
   obtain rfl:j=x.Ents.length:=by omega
   rw[N7z hp]
   simp only[go_sem,seval,h1]
set_option maxHeartbeats 1000000 in
theorem Q1z (n:Nat) (hn:Big+2≤n) (x:TInode) (hxo:x.ok) (s:ByteArray):pcall env n 251 [.c .agg (x.pv.map AMz),pvSV (.t s)] []=some ⟨pvSV (.i .i64 (entI x.Ents s.toList)),[]⟩:=by
 obtain⟨m,rfl⟩:=AEz hn
 have hB:=ASz
 have hbd:Bd=1048576:=rfl
 have hl:=hxo.Ents.2
 refine ANz (ADz (fn:=Tryz.f251) rfl rfl rfl (Nat.le_of_ble_eq_true rfl) ?_)
 unfold Tryz.f251
 simp only[go_sem,seval]
 refine AFz (fun r σ=>∃j:Nat,j≤x.Ents.length∧r=x.Ents.length - j∧(∀(i:Nat) (y:TEnt),i<j→x.Ents[i]? =some y→(y.Name.toList==s.toList)=false)∧σ=slots 27 [(1,.c .one [.sh false (.t s)]),(2,.c .box [.sh false (.i .i64 x.Ino),.sh false (.i .i64 x.Kind),.sh false (.i .i64 x.Links),.sh true (.s 1 (x.Data.map bpv)),.sh true (.s 2 (x.Ents.map TEnt.pv)),.sh true (.s 2 (x.Attrs.map TAttr.pv))]),(5,.c .one [.sh false (.i .i64 (j:Nat))])]) x.Ents.length (by omega) ?_ ?_
 ·simp only[go_sem,seval]
  exact⟨0,Nat.zero_le _,rfl,fun i y hi=>absurd hi (Nat.not_lt_zero _),rfl⟩
 ·rintro r σ ⟨j,hj,rfl,hp,rfl⟩
  by_cases hlt:j<x.Ents.length
  ·have h1:((j:Int)<(x.Ents.length:Int)):=by omega
   have hx:x.Ents[j]? =some x.Ents[j]:=List.getElem?_eq_getElem hlt
   generalize x.Ents[j]=a at hx
   cases ha:(a.Name.toList==s.toList)with
   |true=>
    rw[Juz hx ha hp]
    simp only[go_sem,seval,h1,hx,ha]
   |false=>
    simp only[go_sem,seval,h1,hx,ha,ACz hlt (by omega)]
    refine⟨_,by omega,j+1,hlt,rfl,fun i y hi hy=> ?_,by with_reducible rfl⟩
    rcases Nat.lt_succ_iff_lt_or_eq.1 hi with h|h
    ·exact hp i y h hy
    ·subst h;rw[hx]at hy;injection hy with hy;subst hy;exact ha
  ·have h1:¬((j:Int)<(x.Ents.length:Int)):=by omega
   obtain rfl:j=x.Ents.length:=by omega
   rw[N7z hp]
   simp only[go_sem,seval,h1]
end Go.Proofs.YtblelojdboefjaaGreatDoor.R
