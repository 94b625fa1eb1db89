/- What the plain values of the evaluator say of the machine's memory: a cell reads as a value; a slot as what the evaluator holds of it. -/
import Derived.Laws.IdiomCopy
import Derived.ChangeKeysEq
import Derived.Laws.IdiomStrings
import Derived.Laws.BytesArg
import Derived.Test.YtblelojdboefjaaGreatDoorQ0
set_option linter.all false
namespace Go.Proofs.YtblelojdboefjaaGreatDoor.R
open Go
mutual
inductive Rd (h:Array Obj) (V:Nat→Prop):Value→PV→Prop
 |i (k:IntKind) (n:Int):Rd h V (.int k n) (.i k n)
 |b (x:Bool):Rd h V (.bool x) (.b x)
 |t (s:ByteArray):Rd h V (.string s) (.t s)
 |s0 (a:Option Addr) (cap es:Nat):Rd h V (.slice a 0 cap) (.s es [])
 |s (blk off n cap es:Nat) (c:Array Value) (elem:TypeId) (fr:Nat×Nat) (rows:List (List PV)):V blk→h[blk]? =some (.cells c elem fr)→
   n=rows.length→n≤cap→RdRows h V c off es rows→Rd h V (.slice (some ⟨blk,off,none⟩) n cap) (.s es rows)
 |x (v:Value):v.oneCell'=true→(∀cs,v≠ .agg cs)→Rd h V v .un
inductive RdRows (h:Array Obj) (V:Nat→Prop):Array Value→Nat→Nat→List (List PV)→Prop
 |nil (c:Array Value) (off es:Nat):RdRows h V c off es []
 |cons (c:Array Value) (off es:Nat) (row:List PV) (rows:List (List PV)):row.length=es→RdRow h V c off row→RdRows h V c (off+es) es rows→RdRows h V c off es (row::rows)
inductive RdRow (h:Array Obj) (V:Nat→Prop):Array Value→Nat→List PV→Prop
 |nil (c:Array Value) (off:Nat):RdRow h V c off []
 |cons (c:Array Value) (off:Nat) (x:Value) (p:PV) (ps:List PV):c[off]? =some x→Rd h V x p→RdRow h V c (off+1) ps→RdRow h V c off (p::ps)
end
mutual
theorem Rd.mono {h h':Array Obj} {V V':Nat→Prop} {v:Value} {p:PV} (x:Rd h V v p) (H:∀b,V b→V' b∧h'[b]? =h[b]?):Rd h' V' v p:=
 match x with
 | .i k n=> .i k n
 | .b x=> .b x
 | .t s=> .t s
 | .s0 a cap es=> .s0 a cap es
 | .s blk off n cap es c elem fr rows hv hb hn hc hr=> .s blk off n cap es c elem fr rows (H _ hv).1 ((H _ hv).2.trans hb) hn hc (hr.mono H)
 | .x v h1 h2=> .x v h1 h2
theorem RdRows.mono {h h':Array Obj} {V V':Nat→Prop} {c:Array Value} {off es:Nat} {rows:List (List PV)} (x:RdRows h V c off es rows) (H:∀b,V b→V' b∧h'[b]? =h[b]?):RdRows h' V' c off es rows:=
 match x with
 | .nil c off es=> .nil c off es
 | .cons c off es row rows hl hr hs=> .cons c off es row rows hl (hr.mono H) (hs.mono H)
theorem RdRow.mono {h h':Array Obj} {V V':Nat→Prop} {c:Array Value} {off:Nat} {row:List PV} (x:RdRow h V c off row) (H:∀b,V b→V' b∧h'[b]? =h[b]?):RdRow h' V' c off row:=
 match x with
 | .nil c off=> .nil c off
 | .cons c off x p ps hc hp hs=> .cons c off x p ps hc (hp.mono H) (hs.mono H)
end
theorem RdRow.get {h:Array Obj} {V:Nat→Prop} {c:Array Value}:∀{off:Nat} {row:List PV},RdRow h V c off row→∀j p,row[j]? =some p→∃x,c[off+j]? =some x∧Rd h V x p
 |_,_,.nil _ _,j,p,e=>by simp at e
 |_,_,.cons c off x q ps hc hp hs,j,p,e=>by
  cases j with
  |zero=>simp at e;subst e;exact⟨x,by simpa using hc,hp⟩
  |succ j=>
   simp at e
   obtain⟨y,hy,hr⟩:=hs.get j p e
   exact⟨y,by rw[←hy];congr 1;omega,hr⟩
theorem RdRows.get {h:Array Obj} {V:Nat→Prop} {c:Array Value}:∀{off es:Nat} {rows:List (List PV)},RdRows h V c off es rows→∀i row,rows[i]? =some row→row.length=es∧RdRow h V c (off+i*es) row
 |_,_,_,.nil _ _ _,i,row,e=>by simp at e
 |_,_,_,.cons c off es r rows hl hr hs,i,row,e=>by
  cases i with
  |zero=>simp at e;subst e;exact⟨hl,by simpa using hr⟩
  |succ i=>
   simp at e
   obtain⟨h1,h2⟩:=hs.get i row e
   refine⟨h1,?_⟩
   have:off+(i+1)*es=off+es+i*es:=by rw[Nat.succ_mul];omega
   rw[this];exact h2
theorem RdRow.mk {h:Array Obj} {V:Nat→Prop} {c:Array Value}:∀{row:List PV} {off:Nat},(∀j p,row[j]? =some p→∃x,c[off+j]? =some x∧Rd h V x p)→RdRow h V c off row
 |[],off,_=> .nil c off
 |p::ps,off,H=>by
  obtain⟨x,hx,hr⟩:=H 0 p rfl
  refine .cons c off x p ps (by simpa using hx) hr (RdRow.mk fun j q e=> ?_)
  obtain⟨y,hy,hs⟩:=H (j+1) q (by simpa using e)
  exact⟨y,by rw[←hy];congr 1;omega,hs⟩
theorem RdRows.mk {h:Array Obj} {V:Nat→Prop} {c:Array Value} {es:Nat}:∀{rows:List (List PV)} {off:Nat},(∀i row,rows[i]? =some row→row.length=es∧RdRow h V c (off+i*es) row)→RdRows h V c off es rows
 |[],off,_=> .nil c off es
 |r::rs,off,H=>by
  obtain⟨h1,h2⟩:=H 0 r rfl
  refine .cons c off es r rs h1 (by simpa using h2) (RdRows.mk fun i row e=> ?_)
  obtain⟨h3,h4⟩:=H (i+1) row (by simpa using e)
  refine⟨h3,?_⟩
  have:off+(i+1)*es=off+es+i*es:=by rw[Nat.succ_mul];omega
  rw[←this];exact h4
abbrev Own:=Nat×Nat×Path×Nat×Nat
def free (fr:Nat×Nat) (n:Nat):Prop:=∀o,o<n→¬(fr.1≤o∧o<fr.2)
mutual
inductive ORd (h:Array Obj) (V:Nat→Prop) (own:Nat→Option Own) (s p:Nat):Path→Value→PV→Prop
 |rd (q:Path) (v:Value) (x:PV):Rd h V v x→ORd h V own s p q v x
 |o0 (q:Path) (a:Option Addr) (es:Nat):ORd h V own s p q (.slice a 0 0) (.o es [])
 |o (q:Path) (blk off n cap es:Nat) (c:Array Value) (elem:TypeId) (fr:Nat×Nat) (rows:List (List PV)):own blk=some (s,p,q,off,n)→h[blk]? =some (.cells c elem fr)→
   n=rows.length→n≤cap→off+cap*es≤c.size→free fr c.size→ORows h V own s p q 0 c off es rows→ORd h V own s p q (.slice (some ⟨blk,off,none⟩) n cap) (.o es rows)
inductive ORows (h:Array Obj) (V:Nat→Prop) (own:Nat→Option Own) (s p:Nat):Path→Nat→Array Value→Nat→Nat→List (List PV)→Prop
 |nil (q:Path) (i:Nat) (c:Array Value) (off es:Nat):ORows h V own s p q i c off es []
 |cons (q:Path) (i:Nat) (c:Array Value) (off es:Nat) (row:List PV) (rows:List (List PV)):row.length=es→ORow h V own s p q i 0 c off row→ORows h V own s p q (i+1) c (off+es) es rows→ORows h V own s p q i c off es (row::rows)
inductive ORow (h:Array Obj) (V:Nat→Prop) (own:Nat→Option Own) (s p:Nat):Path→Nat→Nat→Array Value→Nat→List PV→Prop
 |nil (q:Path) (i j:Nat) (c:Array Value) (off:Nat):ORow h V own s p q i j c off []
 |cons (q:Path) (i j:Nat) (c:Array Value) (off:Nat) (v:Value) (x:PV) (ps:List PV):c[off]? =some v→ORd h V own s p (q++[(i,j)]) v x→ORow h V own s p q i (j+1) c (off+1) ps→ORow h V own s p q i j c off (x::ps)
end
structure Turns (h:Array Obj) (V:Nat→Prop) (own:Nat→Option Own) (s p:Nat) (h':Array Obj) (V':Nat→Prop) (own':Nat→Option Own) (s' p':Nat) (φ:Path→Path) (Ext:Path→Prop):Prop where
 ext:∀q x,Ext q→Ext (q++[x])
 phi:∀q x,Ext q→φ (q++[x])=φ q++[x]
 V:∀b,V b→V' b∧h'[b]? =h[b]?
 own:∀b q base tip,Ext q→own b=some (s,p,q,base,tip)→own' b=some (s',p',φ q,base,tip)∧h'[b]? =h[b]?
section
variable {h h':Array Obj} {V V':Nat→Prop} {own own':Nat→Option Own} {s p s' p':Nat}
mutual
theorem ORd.turns {φ:Path→Path} {Ext:Path→Prop} (H:Turns h V own s p h' V' own' s' p' φ Ext) {q:Path} {v:Value} {x:PV} (r:ORd h V own s p q v x) (hq:Ext q):ORd h' V' own' s' p' (φ q) v x:=
 match r with
 | .rd q v x r=> .rd _ v x (r.mono H.V)
 | .o0 q a es=> .o0 _ a es
 | .o q blk off n cap es c elem fr rows ho hb hn hc hf hl hr=> .o _ blk off n cap es c elem fr rows (H.own _ _ _ _ hq ho).1 ((H.own _ _ _ _ hq ho).2.trans hb) hn hc hf hl (hr.turns H hq)
theorem ORows.turns {φ:Path→Path} {Ext:Path→Prop} (H:Turns h V own s p h' V' own' s' p' φ Ext) {q:Path} {i:Nat} {c:Array Value} {off es:Nat} {rows:List (List PV)} (r:ORows h V own s p q i c off es rows) (hq:Ext q):ORows h' V' own' s' p' (φ q) i c off es rows:=
 match r with
 | .nil q i c off es=> .nil _ i c off es
 | .cons q i c off es row rows hl hr hs=> .cons _ i c off es row rows hl (hr.turns H hq) (hs.turns H hq)
theorem ORow.turns {φ:Path→Path} {Ext:Path→Prop} (H:Turns h V own s p h' V' own' s' p' φ Ext) {q:Path} {i j:Nat} {c:Array Value} {off:Nat} {row:List PV} (r:ORow h V own s p q i j c off row) (hq:Ext q):ORow h' V' own' s' p' (φ q) i j c off row:=
 match r with
 | .nil q i j c off=> .nil _ i j c off
 | .cons q i j c off v x ps hc hp hs=> .cons _ i j c off v x ps hc (by have:=hp.turns H (H.ext _ _ hq);rwa[H.phi _ _ hq]at this) (hs.turns H hq)
end
theorem Jaz (HV:∀b,V b→V' b∧h'[b]? =h[b]?) (HO:∀b q base tip,own b=some (s,p,q,base,tip)→own' b=some (s',p',q,base,tip)∧h'[b]? =h[b]?):Turns h V own s p h' V' own' s' p' id (fun _=>True):=
 ⟨fun _ _ _=>trivial,fun _ _ _=>rfl,HV,fun b q base tip _ h=>HO b q base tip h⟩
theorem ORd.mono {q:Path} {v:Value} {x:PV} (r:ORd h V own s p q v x) (HV:∀b,V b→V' b∧h'[b]? =h[b]?) (HO:∀b q base tip,own b=some (s,p,q,base,tip)→own' b=some (s',p',q,base,tip)∧h'[b]? =h[b]?):ORd h' V' own' s' p' q v x:=r.turns (Jaz HV HO) trivial
theorem ORows.mono {q:Path} {i:Nat} {c:Array Value} {off es:Nat} {rows:List (List PV)} (r:ORows h V own s p q i c off es rows) (HV:∀b,V b→V' b∧h'[b]? =h[b]?) (HO:∀b q base tip,own b=some (s,p,q,base,tip)→own' b=some (s',p',q,base,tip)∧h'[b]? =h[b]?):ORows h' V' own' s' p' q i c off es rows:=r.turns (Jaz HV HO) trivial
theorem ORow.mono {q:Path} {i j:Nat} {c:Array Value} {off:Nat} {row:List PV} (r:ORow h V own s p q i j c off row) (HV:∀b,V b→V' b∧h'[b]? =h[b]?) (HO:∀b q base tip,own b=some (s,p,q,base,tip)→own' b=some (s',p',q,base,tip)∧h'[b]? =h[b]?):ORow h' V' own' s' p' q i j c off row:=r.turns (Jaz HV HO) trivial
theorem Rd.er_eq {v:Value} {x:PV} (r:Rd h V v x):x.er=x:=by cases r<;>rfl
mutual
theorem ORd.erd (HV:∀b,V b→V' b∧h'[b]? =h[b]?) (HO:∀b q base tip,own b=some (s,p,q,base,tip)→V' b∧h'[b]? =h[b]?) {q:Path} {v:Value} {x:PV} (r:ORd h V own s p q v x):Rd h' V' v x.er:=
 match r with
 | .rd q v x r=>by rw[r.er_eq];exact r.mono HV
 | .o0 q a es=> .s0 a 0 es
 | .o q blk off n cap es c elem fr rows ho hb hn hc hf hl hr=> .s blk off n cap es c elem fr _ (HO _ _ _ _ ho).1 ((HO _ _ _ _ ho).2.trans hb) (by rw[hn];clear hn hr;induction rows with|nil=>rfl|cons a l ih=>simp[Adz,←ih]) hc (hr.erd HV HO)
theorem ORows.erd (HV:∀b,V b→V' b∧h'[b]? =h[b]?) (HO:∀b q base tip,own b=some (s,p,q,base,tip)→V' b∧h'[b]? =h[b]?) {q:Path} {i:Nat} {c:Array Value} {off es:Nat} {rows:List (List PV)} (r:ORows h V own s p q i c off es rows):RdRows h' V' c off es (Adz rows):=
 match r with
 | .nil q i c off es=> .nil c off es
 | .cons q i c off es row rows hl hr hs=> .cons c off es _ _ (by rw[←hl];clear hr hl;induction row with|nil=>rfl|cons a l ih=>simp[Cxz,ih]) (hr.erd HV HO) (hs.erd HV HO)
theorem ORow.erd (HV:∀b,V b→V' b∧h'[b]? =h[b]?) (HO:∀b q base tip,own b=some (s,p,q,base,tip)→V' b∧h'[b]? =h[b]?) {q:Path} {i j:Nat} {c:Array Value} {off:Nat} {row:List PV} (r:ORow h V own s p q i j c off row):RdRow h' V' c off (Cxz row):=
 match r with
 | .nil q i j c off=> .nil c off
 | .cons q i j c off v x ps hc hp hs=> .cons c off v _ _ hc (hp.erd HV HO) (hs.erd HV HO)
end
theorem A6z:∀rows:List (List PV),(Adz rows).length=rows.length
 |[]=>rfl
 |_::l=>by simp[Adz,A6z l]
theorem Vuz {x:PV} (hx:x.flat=true):x.er=x:=by cases x<;>first|rfl|simp[PV.flat]at hx
theorem Ksz:∀{row:List PV},CYz row=true→Cxz row=row
 |[],_=>rfl
 |x::l,h=>by simp only[CYz,List.all_cons,Bool.and_eq_true]at h;simp[Cxz,Vuz h.1,Ksz (row:=l) h.2]
theorem ORd.flat {q:Path} {v:Value} {x:PV} (r:ORd h V own s p q v x) (hx:x.flat=true):Rd h V v x:=by
 cases r with
 |rd _ _ _ r=>exact r
 |o0=>simp[PV.flat]at hx
 |o=>simp[PV.flat]at hx
theorem ORow.flat:∀{row:List PV} {q:Path} {i j:Nat} {c:Array Value} {off:Nat},ORow h V own s p q i j c off row→CYz row=true→RdRow h V c off row
 |_,_,_,_,_,_,.nil q i j c off,_=> .nil c off
 |_,_,_,_,_,_,.cons q i j c off v x ps hc hp hs,h=>by
  simp only[CYz,List.all_cons,Bool.and_eq_true]at h
  exact .cons c off v x ps hc (hp.flat h.1) (hs.flat h.2)
theorem ORows.flat:∀{rows:List (List PV)} {q:Path} {i:Nat} {c:Array Value} {off es:Nat},ORows h V own s p q i c off es rows→A4z rows=true→RdRows h V c off es rows
 |_,_,_,_,_,_,.nil q i c off es,_=> .nil c off es
 |_,_,_,_,_,_,.cons q i c off es row rows hl hr hs,h=>by
  simp only[A4z,List.all_cons,Bool.and_eq_true]at h
  exact .cons c off es row rows hl (hr.flat h.1) (hs.flat h.2)
theorem RdRow.asO:∀{row:List PV} {c:Array Value} {off:Nat},RdRow h V c off row→∀(q:Path) (i j:Nat),ORow h V own s p q i j c off row
 |_,_,_,.nil c off,q,i,j=> .nil q i j c off
 |_,_,_,.cons c off x y ps hc hp hs,q,i,j=> .cons q i j c off x y ps hc (.rd _ _ _ hp) (hs.asO q i (j+1))
theorem RdRows.asO:∀{rows:List (List PV)} {c:Array Value} {off es:Nat},RdRows h V c off es rows→∀(q:Path) (i:Nat),ORows h V own s p q i c off es rows
 |_,_,_,_,.nil c off es,q,i=> .nil q i c off es
 |_,_,_,_,.cons c off es row rows hl hr hs,q,i=> .cons q i c off es row rows hl (hr.asO q i 0) (hs.asO q (i+1))
theorem ORow.get:∀{row:List PV} {q:Path} {i j0:Nat} {c:Array Value} {off:Nat},ORow h V own s p q i j0 c off row→∀j x,row[j]? =some x→∃v,c[off+j]? =some v∧ORd h V own s p (q++[(i,j0+j)]) v x
 |_,_,_,_,_,_,.nil _ _ _ _ _,j,x,e=>by simp at e
 |_,_,_,_,_,_,.cons q i j0 c off v y ps hc hp hs,j,x,e=>by
  cases j with
  |zero=>simp at e;subst e;exact⟨v,by simpa using hc,by simpa using hp⟩
  |succ j=>
   simp at e
   obtain⟨u,hu,hr⟩:=hs.get j x e
   refine⟨u,by rw[←hu];congr 1;omega,?_⟩
   rw[show j0+(j+1)=j0+1+j from by omega];exact hr
theorem ORow.mk:∀{row:List PV} {q:Path} {i j0:Nat} {c:Array Value} {off:Nat},(∀j x,row[j]? =some x→∃v,c[off+j]? =some v∧ORd h V own s p (q++[(i,j0+j)]) v x)→ORow h V own s p q i j0 c off row
 |[],q,i,j0,c,off,_=> .nil q i j0 c off
 |y::ps,q,i,j0,c,off,H=>by
  obtain⟨v,hv,hr⟩:=H 0 y rfl
  refine .cons q i j0 c off v y ps (by simpa using hv) (by simpa using hr) (ORow.mk fun j x e=> ?_)
  obtain⟨u,hu,hs⟩:=H (j+1) x (by simpa using e)
  refine⟨u,by rw[←hu];congr 1;omega,?_⟩
  rw[show j0+1+j=j0+(j+1)from by omega];exact hs
theorem ORows.get:∀{rows:List (List PV)} {q:Path} {i0:Nat} {c:Array Value} {off es:Nat},ORows h V own s p q i0 c off es rows→∀i row,rows[i]? =some row→row.length=es∧ORow h V own s p q (i0+i) 0 c (off+i*es) row
 |_,_,_,_,_,_,.nil _ _ _ _ _,i,row,e=>by simp at e
 |_,_,_,_,_,_,.cons q i0 c off es r rows hl hr hs,i,row,e=>by
  cases i with
  |zero=>simp at e;subst e;exact⟨hl,by simpa using hr⟩
  |succ i=>
   simp at e
   obtain⟨h1,h2⟩:=hs.get i row e
   refine⟨h1,?_⟩
   rw[show off+(i+1)*es=off+es+i*es from by rw[Nat.succ_mul];omega,show i0+(i+1)=i0+1+i from by omega]
   exact h2
theorem ORows.mk:∀{rows:List (List PV)} {q:Path} {i0:Nat} {c:Array Value} {off es:Nat},(∀i row,rows[i]? =some row→row.length=es∧ORow h V own s p q (i0+i) 0 c (off+i*es) row)→ORows h V own s p q i0 c off es rows
 |[],q,i0,c,off,es,_=> .nil q i0 c off es
 |r::rs,q,i0,c,off,es,H=>by
  obtain⟨h1,h2⟩:=H 0 r rfl
  refine .cons q i0 c off es r rs h1 (by simpa using h2) (ORows.mk fun i row e=> ?_)
  obtain⟨h3,h4⟩:=H (i+1) row (by simpa using e)
  refine⟨h3,?_⟩
  rw[show off+es+i*es=off+(i+1)*es from by rw[Nat.succ_mul];omega,show i0+1+i=i0+(i+1)from by omega]
  exact h4
theorem ORows.cut {rows:List (List PV)} {q:Path} {i0:Nat} {c:Array Value} {off es:Nat} (r:ORows h V own s p q i0 c off es rows) (a b:Nat):ORows h V own s p q (i0+a) c (off+a*es) es ((rows.take b).drop a):=by
 refine ORows.mk fun i row hi=> ?_
 rw[List.getElem?_drop,List.getElem?_take]at hi
 split at hi
 ·obtain⟨h1,h2⟩:=r.get _ _ hi
  refine⟨h1,?_⟩
  rw[show off+a*es+i*es=off+(a+i)*es from by rw[Nat.add_mul];omega,Nat.add_assoc]
  exact h2
 ·simp at hi
end
structure Ctx where
 w:World
 own:Nat→Option Own
 va:Nat→Prop
 vs:Nat→Prop
def Ctx.V (X:Ctx) (f:Bool) (b:Nat):Prop:=X.vs b∨(f=true∧X.va b)
abbrev Ctx.ORows (X:Ctx) (f:Bool) (s o:Nat):=R.ORows X.w.heap (X.V f) X.own s (o+1)
abbrev Ctx.ORow (X:Ctx) (f:Bool) (s o:Nat):=R.ORow X.w.heap (X.V f) X.own s (o+1)
abbrev Ctx.ORd (X:Ctx) (f:Bool) (s o:Nat):=R.ORd X.w.heap (X.V f) X.own s (o+1)
structure OwRel (X:Ctx) (k j:Nat) (v:Value) (f:Bool) (es:Nat) (rows:List (List PV)) (blk off cap:Nat) (c:Array Value) (elem:TypeId) (fr:Nat×Nat):Prop where
 val:v= .slice (some ⟨blk,off,none⟩) rows.length cap
 le:rows.length≤cap
 own:X.own blk=some (k,j+1,[],off,rows.length)
 cells:X.w.heap[blk]? =some (.cells c elem fr)
 fits:off+cap*es≤c.size
 loose:free fr c.size
 reads:X.ORows f k j [] 0 c off es rows
structure BrRel (X:Ctx) (s o:Nat) (q:Path) (kd lo:Nat) (v:Value) (f:Bool) (es:Nat) (rows:List (List PV)) (blk base tip cap:Nat) (c:Array Value) (elem:TypeId) (fr:Nat×Nat):Prop where
 val:v= .slice (some ⟨blk,base+lo*es,none⟩) rows.length cap
 le:rows.length≤cap
 own:X.own blk=some (s,o+1,q,base,tip)
 cells:X.w.heap[blk]? =some (.cells c elem fr)
 fits:base+lo*es+cap*es≤c.size
 loose:free fr c.size
 tipLe:lo+rows.length≤tip
 tip1:kd≤1→lo+rows.length=tip
 lo0:kd=0→lo=0
 reads:X.ORows f s o q lo c (base+lo*es) es rows
inductive VRd (X:Ctx) (f:Bool) (s o:Nat) (q:Path) (lo es:Nat):Value→List (List PV)→Prop
 |s0 (a:Option Addr) (cap:Nat):VRd X f s o q lo es (.slice a 0 cap) []
 |s (blk off n cap:Nat) (c:Array Value) (elem:TypeId) (fr:Nat×Nat) (rows:List (List PV)):X.V f blk→X.w.heap[blk]? =some (.cells c elem fr)→
   n=rows.length→n≤cap→X.ORows f s o q lo c off es rows→VRd X f s o q lo es (.slice (some ⟨blk,off,none⟩) n cap) rows
inductive CVRel (X:Ctx) (k j:Nat):Value→CV→Prop
 |sh (f:Bool) (p:PV) (v:Value):Rd X.w.heap (X.V f) v p→CVRel X k j v (.sh f p)
 |ow0 (f:Bool) (es:Nat) (a:Option Addr):CVRel X k j (.slice a 0 0) (.ow f es [])
 |ow (f:Bool) (es:Nat) (rows:List (List PV)) (v:Value) (blk off cap:Nat) (c:Array Value) (elem:TypeId) (fr:Nat×Nat):OwRel X k j v f es rows blk off cap c elem fr→CVRel X k j v (.ow f es rows)
 |br0 (s o:Nat) (q:Path) (kd lo:Nat) (f:Bool) (es:Nat) (a:Option Addr):CVRel X k j (.slice a 0 0) (.br s o q kd lo f es [])
 |br (s o:Nat) (q:Path) (kd lo:Nat) (f:Bool) (es:Nat) (rows:List (List PV)) (v:Value) (blk base tip cap:Nat) (c:Array Value) (elem:TypeId) (fr:Nat×Nat):BrRel X s o q kd lo v f es rows blk base tip cap c elem fr→CVRel X k j v (.br s o q kd lo f es rows)
 |brv (s o:Nat) (q:Path) (lo:Nat) (f:Bool) (es:Nat) (rows:List (List PV)) (v:Value):VRd X f s o q lo es v rows→CVRel X k j v (.br s o q 2 lo f es rows)
 |dead (v:Value):CVRel X k j v .dead
inductive CellsRel (X:Ctx) (k:Nat):Nat→List Value→List CV→Prop
 |nil (j:Nat):CellsRel X k j [] []
 |cons (j:Nat) (v:Value) (cv:CV) (vs:List Value) (l:List CV):CVRel X k j v cv→CellsRel X k (j+1) vs l→CellsRel X k j (v::vs) (cv::l)
inductive Flat:Shape→Value→List Value→Prop
 |one (v:Value):(∀cs,v≠ .agg cs)→Flat .one v [v]
 |agg (cs:Array Value):Flat .agg (.agg cs) cs.toList
 |tup (l:List (Bool×Nat)) (vs:Array Value) (fs:List (List Value)):fs.length=l.length→vs.size=l.length→
   (∀(i:Nat) (v:Value) (a:Bool) (n:Nat) (f:List Value),vs[i]? =some v→l[i]? =some (a,n)→fs[i]? =some f→f.length=n∧((a=true∧∃cs:Array Value,v= .agg cs∧f=cs.toList)∨(a=false∧f=[v]∧∀cs,v≠ .agg cs)))→
   Flat (.tup l) (.tuple vs) fs.flatten
inductive SVRel (X:Ctx) (k:Nat):Value→SV→Prop
 |undef (v:Value):SVRel X k v .undef
 |c (sh:Shape) (v:Value) (vs:List Value) (l:List CV):Flat sh v vs→CellsRel X k 0 vs l→SVRel X k v (.c sh l)
 |box (blk base tip:Nat) (c:Array Value) (elem:TypeId) (fr:Nat×Nat) (l:List CV):X.own blk=some (k,0,[],base,tip)→X.w.heap[blk]? =some (.cells c elem fr)→free fr c.size→
   CellsRel X k 0 c.toList l→SVRel X k (.pointer (some ⟨blk,0,none⟩)) (.c .box l)
 |bp (s o blk base tip:Nat):X.own blk=some (s,0,[],base,tip)→SVRel X k (.pointer (some ⟨blk,o,none⟩)) (.bp s o)
 |ep (s o:Nat) (q:Path) (kd:Nat) (fl:Bool) (es i f:Nat) (row:List PV) (blk off base tip:Nat) (c:Array Value) (elem:TypeId) (fr:Nat×Nat):X.own blk=some (s,o+1,q,base,tip)→off=base+i*es→row.length=es→
   X.w.heap[blk]? =some (.cells c elem fr)→free fr c.size→X.ORow fl s o q i 0 c off row→SVRel X k (.pointer (some ⟨blk,off+f,none⟩)) (.ep s o q kd fl es i f row)
 |epv (s o:Nat) (q:Path) (fl:Bool) (es i f:Nat) (row:List PV) (blk off:Nat) (c:Array Value) (elem:TypeId) (fr:Nat×Nat):X.V fl blk→
   X.w.heap[blk]? =some (.cells c elem fr)→X.ORow fl s o q i 0 c off row→SVRel X k (.pointer (some ⟨blk,off+f,none⟩)) (.ep s o q 2 fl es i f row)
 |sp (fl:Bool) (row:List PV) (f blk off:Nat) (c:Array Value) (elem:TypeId) (fr:Nat×Nat):X.V fl blk→X.w.heap[blk]? =some (.cells c elem fr)→RdRow X.w.heap (X.V fl) c off row→
   SVRel X k (.pointer (some ⟨blk,off+f,none⟩)) (.sp fl row f)
 |fn (g:FuncId) (caps:List Nat) (cs:Array Value):cs.size=caps.length→(∀(i:Nat) (v:Value) (s:Nat),cs[i]? =some v→caps[i]? =some s→∃(blk base tip:Nat),v=Value.pointer (some ⟨blk,0,none⟩)∧X.own blk=some (s,0,[],base,tip))→
   SVRel X k (.func (.func g) #[] cs) (.fn g caps)
structure Inv (X:Ctx):Prop where
 own:∀b t,X.own b=some t→b<X.w.heap.size∧¬X.vs b∧¬X.va b
 one:∀b b' s o q base tip base' tip',X.own b=some (s,o,q,base,tip)→X.own b'=some (s,o,q,base',tip')→b=b'
 vs:∀b,X.vs b→b<X.w.heap.size
 va:∀b,X.va b→b<X.w.heap.size
def Frame (X:Ctx) (vs:List Value) (σ:St):Prop:=vs.length=σ.length∧∀k v sv,vs[k]? =some v→σ[k]? =some sv→SVRel X k v sv
structure Goes (X X':Ctx):Prop where
 os:X'.w.os=X.w.os
 tape:X'.w.tape=X.w.tape
 output:X'.w.output=X.w.output
 size:X.w.heap.size≤X'.w.heap.size
 keep:∀b,b<X.w.heap.size→X.own b=none→X'.w.heap[b]? =X.w.heap[b]?
 va:X'.va=X.va
 vs:∀b,X.vs b→X'.vs b
 vs':∀b,X'.vs b→X.vs b∨X.own b≠none∨X.w.heap.size≤b
 own':∀b,X'.own b≠none→X.own b≠none∨X.w.heap.size≤b
theorem Goes.refl (X:Ctx):Goes X X:=⟨rfl,rfl,rfl,Nat.le_refl _,fun _ _ _=>rfl,rfl,fun _ h=>h,fun _ h=> .inl h,fun _ h=> .inl h⟩
theorem Goes.trans {X Y Z:Ctx} (a:Goes X Y) (b:Goes Y Z):Goes X Z where
  os:=b.os.trans a.os
  tape:=b.tape.trans a.tape
  output:=b.output.trans a.output
  size:=Nat.le_trans a.size b.size
  keep:=fun k hk ho=>by
    have:Y.own k=none:=by
      cases e:Y.own k with
      |none=>rfl
      | some t => rcases a.own' k (by simp [e]) with h | h
                  · exact absurd ho h
                  · omega
    exact(b.keep k (Nat.lt_of_lt_of_le hk a.size) this).trans (a.keep k hk ho)
  va:=b.va.trans a.va
  vs:=fun k h=>b.vs k (a.vs k h)
  vs':=fun k h=>by
    rcases b.vs' k h with h|h|h
    · exact a.vs' k h
    · rcases a.own' k h with h|h
      · exact .inr (.inl h)
      · exact .inr (.inr h)
    · exact .inr (.inr (Nat.le_trans a.size h))
  own':=fun k h=>by
    rcases b.own' k h with h|h
    · exact a.own' k h
    · exact .inr (Nat.le_trans a.size h)
end Go.Proofs.YtblelojdboefjaaGreatDoor.R
namespace Go.Proofs.YtblelojdboefjaaGreatDoor.R
open Go
structure Mono (X X':Ctx):Prop where
 V:∀f b,X.V f b→X'.V f b∧X'.w.heap[b]? =X.w.heap[b]?
 own:∀b t,X.own b=some t→X'.own b=some t∧X'.w.heap[b]? =X.w.heap[b]?
theorem Mono.refl (X:Ctx):Mono X X:=⟨fun _ _ h=>⟨h,rfl⟩,fun _ _ h=>⟨h,rfl⟩⟩
theorem Mono.trans {X Y Z:Ctx} (a:Mono X Y) (b:Mono Y Z):Mono X Z:=
  ⟨fun f k h=>⟨(b.V f k (a.V f k h).1).1,(b.V f k (a.V f k h).1).2.trans (a.V f k h).2⟩,
   fun k t h=>⟨(b.own k t (a.own k t h).1).1,(b.own k t (a.own k t h).1).2.trans (a.own k t h).2⟩⟩
theorem Mono.ownP {X X':Ctx} (H:Mono X X') (s p:Nat):∀b q base tip,X.own b=some (s,p,q,base,tip)→X'.own b=some (s,p,q,base,tip)∧X'.w.heap[b]? =X.w.heap[b]? :=fun b q base tip h=>H.own b _ h
theorem OwRel.mono {X X':Ctx} (H:Mono X X') {k j:Nat} {v:Value} {f:Bool} {es:Nat} {rows:List (List PV)} {blk off cap:Nat} {c:Array Value} {elem:TypeId} {fr:Nat×Nat}
  (h:OwRel X k j v f es rows blk off cap c elem fr):OwRel X' k j v f es rows blk off cap c elem fr:=
 ⟨h.val,h.le,(H.own _ _ h.own).1,(H.own _ _ h.own).2.trans h.cells,h.fits,h.loose,h.reads.mono (H.V f) (H.ownP _ _)⟩
theorem BrRel.mono {X X':Ctx} (H:Mono X X') {s o:Nat} {q:Path} {kd lo:Nat} {v:Value} {f:Bool} {es:Nat} {rows:List (List PV)} {blk base tip cap:Nat} {c:Array Value} {elem:TypeId} {fr:Nat×Nat}
  (h:BrRel X s o q kd lo v f es rows blk base tip cap c elem fr):BrRel X' s o q kd lo v f es rows blk base tip cap c elem fr:=
 ⟨h.val,h.le,(H.own _ _ h.own).1,(H.own _ _ h.own).2.trans h.cells,h.fits,h.loose,h.tipLe,h.tip1,h.lo0,h.reads.mono (H.V f) (H.ownP _ _)⟩
theorem VRd.mono {X X':Ctx} {f:Bool} {s o s' o':Nat} {q:Path} {lo es:Nat} {v:Value} {rows:List (List PV)} (h:VRd X f s o q lo es v rows) (HV:∀b,X.V f b→X'.V f b∧X'.w.heap[b]? =X.w.heap[b]?)
  (HO:∀b q base tip,X.own b=some (s,o+1,q,base,tip)→X'.own b=some (s',o'+1,q,base,tip)∧X'.w.heap[b]? =X.w.heap[b]?):VRd X' f s' o' q lo es v rows:=by
 cases h with
 |s0 a cap=>exact .s0 a cap
 |s blk off n cap c elem fr _ hv hb hn hc hr=>exact .s blk off n cap c elem fr _ (HV _ hv).1 ((HV _ hv).2.trans hb) hn hc (hr.mono HV HO)
theorem CVRel.mono {X X':Ctx} (H:Mono X X') {k j:Nat} {v:Value} {c:CV} (h:CVRel X k j v c):CVRel X' k j v c:=by
 cases h with
 |sh f p v h=>exact .sh f p v (h.mono (H.V f))
 |ow0 f es a=>exact .ow0 f es a
 |ow f es rows v blk off cap c elem fr h=>exact .ow f es rows v blk off cap c elem fr (h.mono H)
 |br0 s o q kd lo f es a=>exact .br0 s o q kd lo f es a
 |br s o q kd lo f es rows v blk base tip cap c elem fr h=>exact .br s o q kd lo f es rows v blk base tip cap c elem fr (h.mono H)
 |brv s o q lo f es rows v h=>exact .brv s o q lo f es rows v (h.mono (H.V f) (H.ownP _ _))
 |dead v=>exact .dead v
theorem CellsRel.mono {X X':Ctx} (H:Mono X X') {k:Nat}:∀{j:Nat} {vs:List Value} {l:List CV},CellsRel X k j vs l→CellsRel X' k j vs l
 |_,_,_,.nil j=> .nil j
 |_,_,_,.cons j v cv vs l h t=> .cons j v cv vs l (h.mono H) (CellsRel.mono H t)
theorem SVRel.mono {X X':Ctx} (H:Mono X X') {k:Nat} {v:Value} {sv:SV} (h:SVRel X k v sv):SVRel X' k v sv:=by
 cases h with
 |undef v=>exact .undef v
 |c sh v vs l hf hc=>exact .c sh v vs l hf (hc.mono H)
 |box blk base tip c elem fr l ho hb hfr hc=>exact .box blk base tip c elem fr l (H.own _ _ ho).1 ((H.own _ _ ho).2.trans hb) hfr (hc.mono H)
 |bp s o blk base tip ho=>exact .bp s o blk base tip (H.own _ _ ho).1
 |ep s o q kd fl es i f row blk off base tip c elem fr ho he hl hb hfr hr=>exact .ep s o q kd fl es i f row blk off base tip c elem fr (H.own _ _ ho).1 he hl ((H.own _ _ ho).2.trans hb) hfr (hr.mono (H.V fl) (H.ownP _ _))
 |epv s o q fl es i f row blk off c elem fr hv hb hr=>exact .epv s o q fl es i f row blk off c elem fr (H.V _ _ hv).1 ((H.V _ _ hv).2.trans hb) (hr.mono (H.V fl) (H.ownP _ _))
 |sp fl row f blk off c elem fr hv hb hr=>exact .sp fl row f blk off c elem fr (H.V _ _ hv).1 ((H.V _ _ hv).2.trans hb) (hr.mono (H.V fl))
 |fn g caps cs hs hc=>exact .fn g caps cs hs fun i v s h1 h2=>let ⟨blk,base,tip,e,ho⟩:=hc i v s h1 h2;⟨blk,base,tip,e,(H.own _ _ ho).1⟩
theorem Frame.mono {X X':Ctx} (H:Mono X X') {vs:List Value} {σ:St} (h:Frame X vs σ):Frame X' vs σ:=
 ⟨h.1,fun k v sv hv hs=>(h.2 k v sv hv hs).mono H⟩
theorem Goes.mono {X X':Ctx} (g:Goes X X') (hi:Inv X) (ho:∀b t,X.own b=some t→X'.own b=some t∧X'.w.heap[b]? =X.w.heap[b]?):Mono X X' where
  V:=fun f b h=>by
    have hn:X.own b=none:=by
      cases e:X.own b with
      |none=>rfl
      | some t => rcases h with h | ⟨_, h⟩
                  · exact absurd h (hi.own b t e).2.1
                  · exact absurd h (hi.own b t e).2.2
    have hlt:b<X.w.heap.size:=by
      rcases h with h|⟨_,h⟩
      · exact hi.vs b h
      · exact hi.va b h
    refine⟨?_,g.keep b hlt hn⟩
    rcases h with h|⟨e,h⟩
    · exact .inl (g.vs b h)
    · exact .inr ⟨e,by rw[g.va];exact h⟩
  own:=ho
theorem CellsRel.map {X X':Ctx} {k:Nat} {g:Nat→CV→CV} (H:∀j v c,CVRel X k j v c→CVRel X' k j v (g j c)):
  ∀{j:Nat} {vs:List Value} {l:List CV},CellsRel X k j vs l→CellsRel X' k j vs (Acz g j l)
 |_,_,_,.nil j=> .nil j
 |_,_,_,.cons j v cv vs l h t=> .cons j v _ vs _ (H j v cv h) (CellsRel.map H t)
structure Maps (X X':Ctx) (g:Nat→Nat→CV→CV) (e:EpMap):Prop where
 cv:∀k j v c,CVRel X k j v c→CVRel X' k j v (g k j c)
 ep:∀k v s o q kd fl es i f row,SVRel X k v (.ep s o q kd fl es i f row)→∀s' o' q',e s o q=some (s',o',q')→SVRel X' k v (.ep s' o' q' kd fl es i f row)
 V:∀f b,X.V f b→X'.V f b∧X'.w.heap[b]? =X.w.heap[b]?
 box:∀b s q base tip,X.own b=some (s,0,q,base,tip)→X'.own b=some (s,0,q,base,tip)∧X'.w.heap[b]? =X.w.heap[b]?
theorem SVRel.map {X X':Ctx} {g:Nat→Nat→CV→CV} {e:EpMap} (H:Maps X X' g e) {k:Nat} {v:Value} {sv:SV} (h:SVRel X k v sv):SVRel X' k v (sv.mapC (g k) e):=by
 cases h with
 |undef v=>exact .undef v
 |c sh v vs l hf hc=>exact .c sh v vs _ hf (hc.map (H.cv k))
 |box blk base tip c elem fr l ho hb hfr hc=>exact .box blk base tip c elem fr _ (H.box _ _ _ _ _ ho).1 ((H.box _ _ _ _ _ ho).2.trans hb) hfr (hc.map (H.cv k))
 |bp s o blk base tip ho=>exact .bp s o blk base tip (H.box _ _ _ _ _ ho).1
 |ep s o q kd fl es i f row blk off base tip c elem fr ho he hl hb hfr hr=>
  simp only[SV.mapC]
  split
  ·rename_i s' o' q' he';exact H.ep k _ s o q kd fl es i f row (.ep s o q kd fl es i f row blk off base tip c elem fr ho he hl hb hfr hr) _ _ _ he'
  ·exact .undef _
 |epv s o q fl es i f row blk off c elem fr hv hb hr=>
  simp only[SV.mapC]
  split
  ·rename_i s' o' q' he';exact H.ep k _ s o q 2 fl es i f row (.epv s o q fl es i f row blk off c elem fr hv hb hr) _ _ _ he'
  ·exact .undef _
 |sp fl row f blk off c elem fr hv hb hr=>exact .sp fl row f blk off c elem fr (H.V _ _ hv).1 ((H.V _ _ hv).2.trans hb) (hr.mono (H.V fl))
 |fn g caps cs hs hc=>exact .fn g caps cs hs fun i v s h1 h2=>let ⟨blk,base,tip,e,ho⟩:=hc i v s h1 h2;⟨blk,base,tip,e,(H.box _ _ _ _ _ ho).1⟩
theorem Arz (g:Nat→Nat→CV→CV) (e:EpMap):∀(k:Nat) (σ:St),(Afz g e k σ).length=σ.length
 |_,[]=>rfl
 |k,x::l=>by simp[Afz,Arz g e (k+1) l]
theorem BQz (g:Nat→Nat→CV→CV) (e:EpMap):∀(k:Nat) (σ:St) (i:Nat),(Afz g e k σ)[i]? =(σ[i]?).map fun x=>x.mapC (g (k+i)) e
 |_,[],i=>by simp[Afz]
 |k,x::l,0=>by simp[Afz]
 |k,x::l,i+1=>by
  simp only[Afz,List.getElem?_cons_succ,BQz g e (k+1) l i]
  congr 2
  funext y
  rw[show k+1+i=k+(i+1)from by omega]
theorem Frame.map {X X':Ctx} {g:Nat→Nat→CV→CV} {e:EpMap} (H:Maps X X' g e) {vs:List Value} {σ:St} (h:Frame X vs σ):Frame X' vs (Afz g e 0 σ):=by
 refine⟨by rw[Arz];exact h.1,fun k v sv hv hs=> ?_⟩
 rw[BQz]at hs
 cases e1:σ[k]? with
 |none=>simp[e1]at hs
 |some x=>
  simp[e1]at hs
  subst hs
  exact(h.2 k v x hv e1).map H
theorem KYz (g:Nat→CV→CV):∀(j:Nat) (l:List CV) (i:Nat),(Acz g j l)[i]? =(l[i]?).map (g (j+i))
 |_,[],i=>by simp[Acz]
 |j,c::l,0=>by simp[Acz]
 |j,c::l,i+1=>by
  simp only[Acz,List.getElem?_cons_succ,KYz g (j+1) l i]
  rw[show j+1+i=j+(i+1)from by omega]
structure Tags (X:Ctx) (σ:St):Prop where
 cell:∀b s p q base tip,X.own b=some (s,p+1,q,base,tip)→(ABz σ s p).isOw=true
 box:∀b s q base tip,X.own b=some (s,0,q,base,tip)→∃l,σ[s]? =some (.c .box l)
end Go.Proofs.YtblelojdboefjaaGreatDoor.R
namespace Go.Proofs.YtblelojdboefjaaGreatDoor.R
open Go
theorem V_or {X:Ctx} {f:Bool} (g:Bool) {b:Nat} (h:X.V f b):X.V (f||g) b:=h.elim .inl fun h=> .inr ⟨by simp[h.1],h.2⟩
theorem Etz {X:Ctx} {f:Bool} (g:Bool) {b:Nat} (h:X.V f b):X.V (g||f) b:=h.elim .inl fun h=> .inr ⟨by simp[h.1],h.2⟩
theorem CBz:∀{p q r:Path},strip p q=some r→q=p++r
 |[],q,r,h=>by simp[strip]at h;simp[h]
 |a::p,[],r,h=>by simp[strip]at h
 |a::p,b::q,r,h=>by
  simp only[strip]at h
  split at h
  ·rename_i e;subst e;rw[CBz h];rfl
  ·simp at h
theorem Caz:∀(p r:Path),strip p (p++r)=some r
 |[],r=>rfl
 |a::p,r=>by simp[strip,Caz p r]
theorem Fcz (p:Path):strip p p=some []:=by simpa using Caz p []
theorem KCz {p q r:Path} (h:strip p q=none):q≠p++r:=fun e=>by rw[e,Caz]at h;simp at h
structure Near (s o:Nat) (X X':Ctx):Prop where
 V:∀f b,X.V f b→X'.V f b∧X'.w.heap[b]? =X.w.heap[b]?
 own:∀b s' p q base tip,X.own b=some (s',p,q,base,tip)→¬(s'=s∧p=o+1)→X'.own b=some (s',p,q,base,tip)∧X'.w.heap[b]? =X.w.heap[b]?
theorem Near.ownP {s o:Nat} {X X':Ctx} (H:Near s o X X') {k j:Nat} (hne:¬(k=s∧j=o)):∀b q base tip,X.own b=some (k,j+1,q,base,tip)→X'.own b=some (k,j+1,q,base,tip)∧X'.w.heap[b]? =X.w.heap[b]? :=fun b q base tip h=>H.own b k (j+1) q base tip h (by omega)
theorem Near.ow {s o:Nat} {X X':Ctx} (H:Near s o X X') {k j:Nat} (hne:¬(k=s∧j=o)) {v:Value} {f:Bool} {es:Nat} {rows:List (List PV)} {blk off cap:Nat} {c:Array Value} {elem:TypeId} {fr:Nat×Nat}
  (h:OwRel X k j v f es rows blk off cap c elem fr):OwRel X' k j v f es rows blk off cap c elem fr:=by
 have hh:=H.ownP hne _ _ _ _ h.own
 exact⟨h.val,h.le,hh.1,hh.2.trans h.cells,h.fits,h.loose,h.reads.mono (H.V f) (H.ownP hne)⟩
theorem Near.br {s o:Nat} {X X':Ctx} (H:Near s o X X') {a b:Nat} {q:Path} {kd lo:Nat} (hne:¬(a=s∧b=o)) {v:Value} {f:Bool} {es:Nat} {rows:List (List PV)} {blk base tip cap:Nat} {c:Array Value} {elem:TypeId} {fr:Nat×Nat}
  (h:BrRel X a b q kd lo v f es rows blk base tip cap c elem fr):BrRel X' a b q kd lo v f es rows blk base tip cap c elem fr:=by
 have hh:=H.ownP hne _ _ _ _ h.own
 exact⟨h.val,h.le,hh.1,hh.2.trans h.cells,h.fits,h.loose,h.tipLe,h.tip1,h.lo0,h.reads.mono (H.V f) (H.ownP hne)⟩
theorem Near.sh {s o:Nat} {X X':Ctx} (H:Near s o X X') {f:Bool} {v:Value} {p:PV} (h:Rd X.w.heap (X.V f) v p):Rd X'.w.heap (X'.V f) v p:=h.mono (H.V f)
theorem Near.ep {s o:Nat} {X X':Ctx} (H:Near s o X X') {k a b:Nat} {q:Path} {kd:Nat} {fl:Bool} {es i f:Nat} {row:List PV} {v:Value} (hne:¬(a=s∧b=o))
  (h:SVRel X k v (.ep a b q kd fl es i f row)):SVRel X' k v (.ep a b q kd fl es i f row):=by
 cases h with
 |ep _ _ _ _ _ _ _ _ _ blk off base tip c elem fr ho he hl hb hfr hr=>
  have hh:=H.ownP hne _ _ _ _ ho
  exact .ep a b q kd fl es i f row blk off base tip c elem fr hh.1 he hl (hh.2.trans hb) hfr (hr.mono (H.V fl) (H.ownP hne))
 |epv _ _ _ _ _ _ _ _ blk off c elem fr hv hb hr=>exact .epv a b q fl es i f row blk off c elem fr (H.V _ _ hv).1 ((H.V _ _ hv).2.trans hb) (hr.mono (H.V fl) (H.ownP hne))
theorem Near.maps {s o:Nat} {X X':Ctx} (H:Near s o X X') {g:Nat→Nat→CV→CV} {e:EpMap}
  (hg:∀k j c,(∀f es rows,c= .ow f es rows→¬(k=s∧j=o))→(∀a b q kd lo f es rows,c= .br a b q kd lo f es rows→¬(a=s∧b=o))→g k j c=c)
  (he:∀a b q,¬(a=s∧b=o)→e a b q=some (a,b,q))
  (h1:∀v f es rows,CVRel X s o v (.ow f es rows)→CVRel X' s o v (g s o (.ow f es rows)))
  (h2:∀k j v q kd lo f es rows,CVRel X k j v (.br s o q kd lo f es rows)→CVRel X' k j v (g k j (.br s o q kd lo f es rows)))
  (h3:∀k v q kd fl es i f row,SVRel X k v (.ep s o q kd fl es i f row)→∀s' o' q',e s o q=some (s',o',q')→SVRel X' k v (.ep s' o' q' kd fl es i f row)):Maps X X' g e where
 cv:=fun k j v c h=>by
  cases h with
  |sh f p v h=>rw[hg _ _ _ (by intros;contradiction) (by intros;contradiction)];exact .sh f p v (H.sh h)
  |ow0 f es a=>
   by_cases hk:k=s∧j=o
   ·obtain⟨rfl,rfl⟩:=hk;exact h1 _ _ _ _ (.ow0 f es a)
   ·rw[hg _ _ _ (fun _ _ _ _=>hk) (by intros;contradiction)];exact .ow0 f es a
  |ow f es rows v blk off cap c elem fr h=>
   by_cases hk:k=s∧j=o
   ·obtain⟨rfl,rfl⟩:=hk;exact h1 _ _ _ _ (.ow f es rows v blk off cap c elem fr h)
   ·rw[hg _ _ _ (fun _ _ _ _=>hk) (by intros;contradiction)];exact .ow f es rows v blk off cap c elem fr (H.ow hk h)
  |br0 a b q kd lo f es ad=>
   by_cases hk:a=s∧b=o
   ·obtain⟨rfl,rfl⟩:=hk;exact h2 _ _ _ _ _ _ _ _ _ (.br0 a b q kd lo f es ad)
   ·rw[hg _ _ _ (by intros;contradiction) (fun _ _ _ _ _ _ _ _ e=>by cases e;exact hk)];exact .br0 a b q kd lo f es ad
  |br a b q kd lo f es rows v blk base tip cap c elem fr h=>
   by_cases hk:a=s∧b=o
   ·obtain⟨rfl,rfl⟩:=hk;exact h2 _ _ _ _ _ _ _ _ _ (.br a b q kd lo f es rows v blk base tip cap c elem fr h)
   ·rw[hg _ _ _ (by intros;contradiction) (fun _ _ _ _ _ _ _ _ e=>by cases e;exact hk)];exact .br a b q kd lo f es rows v blk base tip cap c elem fr (H.br hk h)
  |brv a b q lo f es rows v h=>
   by_cases hk:a=s∧b=o
   ·obtain⟨rfl,rfl⟩:=hk;exact h2 _ _ _ _ _ _ _ _ _ (.brv a b q lo f es rows v h)
   ·rw[hg _ _ _ (by intros;contradiction) (fun _ _ _ _ _ _ _ _ e=>by cases e;exact hk)];exact .brv a b q lo f es rows v (h.mono (H.V f) (H.ownP hk))
  |dead v=>rw[hg _ _ _ (by intros;contradiction) (by intros;contradiction)];exact .dead v
 ep:=fun k v a b q kd fl es i f row h s' o' q' e1=>by
  by_cases hk:a=s∧b=o
  ·obtain⟨rfl,rfl⟩:=hk;exact h3 _ _ _ _ _ _ _ _ _ h _ _ _ e1
  ·rw[he _ _ _ hk]at e1;injection e1 with e1;injection e1 with e1 e2;injection e2 with e2 e3;subst e1;subst e2;subst e3;exact H.ep hk h
 V:=H.V
 box:=fun b s' q base tip h=>H.own b s' 0 q base tip h (by omega)
theorem Svz {s o k j:Nat} {c:CV} (h1:∀f es rows,c= .ow f es rows→¬(k=s∧j=o)) (h2:∀a b q kd lo f es rows,c= .br a b q kd lo f es rows→¬(a=s∧b=o)):demC s o k j c=c:=by
 cases c with
 |ow f es rows=>simp[demC,h1 f es rows rfl]
 |br a b q kd lo f es rows=>simp[demC,h2 a b q kd lo f es rows rfl]
 |_=>rfl
theorem L4z {s o k j:Nat} {c:CV} (h1:∀f es rows,c= .ow f es rows→¬(k=s∧j=o)) (h2:∀a b q kd lo f es rows,c= .br a b q kd lo f es rows→¬(a=s∧b=o)):offC s o k j c=c:=by
 cases c with
 |ow f es rows=>simp[offC,h1 f es rows rfl]
 |br a b q kd lo f es rows=>simp[offC,h2 a b q kd lo f es rows rfl]
 |_=>rfl
theorem L9z {s o k j:Nat} {q:Path} {g:PV→PV} {f':Bool} {c:CV} (h1:∀f es rows,c= .ow f es rows→¬(k=s∧j=o)) (h2:∀a b q kd lo f es rows,c= .br a b q kd lo f es rows→¬(a=s∧b=o)):modC s o q g f' k j c=c:=by
 cases c with
 |ow f es rows=>simp only[modC];rw[if_neg (h1 f es rows rfl)]
 |br a b q kd lo f es rows=>simp only[modC,modL];rw[if_neg (h2 a b q kd lo f es rows rfl)]
 |_=>rfl
theorem Jkz {s o s' o' k j:Nat} {m:Option Nat} {c:CV} (h1:∀f es rows,c= .ow f es rows→¬(k=s∧j=o)) (h2:∀a b q kd lo f es rows,c= .br a b q kd lo f es rows→¬(a=s∧b=o)):mvC s o s' o' m k j c=c:=by
 cases c with
 |ow f es rows=>simp[mvC,h1 f es rows rfl]
 |br a b q kd lo f es rows=>simp only[mvC];rw[if_neg (h2 a b q kd lo f es rows rfl)]
 |_=>rfl
theorem R9z {s o s' o' k j:Nat} {q q':Path} {c:CV} (h1:∀f es rows,c= .ow f es rows→¬(k=s∧j=o)) (h2:∀a b q kd lo f es rows,c= .br a b q kd lo f es rows→¬(a=s∧b=o)):mvpC s o q s' o' q' k j c=c:=by
 cases c with
 |ow f es rows=>simp only[mvpC];rw[if_neg (h1 f es rows rfl)]
 |br a b q kd lo f es rows=>simp only[mvpC,mvpL];rw[if_neg (h2 a b q kd lo f es rows rfl)]
 |_=>rfl
theorem Eqz {s o a b:Nat} {q:Path} (h:¬(a=s∧b=o)):Ayz s o a b q=some (a,b,q):=by simp[Ayz,h]
theorem Ihz {s o s' o' a b:Nat} {m:Option Nat} {q:Path} (h:¬(a=s∧b=o)):epTo s o s' o' m a b q=some (a,b,q):=by simp[epTo,h]
theorem Epz (s o:Nat) (q:Path):Ayz s o s o q=none:=by simp[Ayz]
theorem Spz (s o s' o':Nat) (q:Path):epTo s o s' o' none s o q=some (s',o',q):=by simp[epTo]
def Ctx.retag (X:Ctx) (s o:Nat) (T:Path→Nat→Nat→Option Own) (Q:Prop):Ctx:=
 {X with
  own:=fun b=>match X.own b with
   |some (s',p,q,base,tip)=>if s'=s∧p=o+1 then T q base tip else some (s',p,q,base,tip)
   |none=>none
  vs:=fun b=>X.vs b∨(Q∧∃q base tip,X.own b=some (s,o+1,q,base,tip)∧T q base tip=none)}
theorem BEz {X:Ctx} {s o:Nat} {T:Path→Nat→Nat→Option Own} {Q:Prop} {b s' p:Nat} {q:Path} {base tip:Nat} (h:X.own b=some (s',p,q,base,tip)) (hne:¬(s'=s∧p=o+1)):
  (X.retag s o T Q).own b=some (s',p,q,base,tip):=by simp[Ctx.retag,h,hne]
theorem Apz {X:Ctx} {s o:Nat} {T:Path→Nat→Nat→Option Own} {Q:Prop} {b:Nat} {q:Path} {base tip:Nat} (h:X.own b=some (s,o+1,q,base,tip)):
  (X.retag s o T Q).own b=T q base tip:=by simp[Ctx.retag,h]
theorem AOz {X:Ctx} {s o:Nat} {T:Path→Nat→Nat→Option Own} {Q:Prop}:Near s o X (X.retag s o T Q)where
 V:=fun f b h=>⟨h.elim (fun h=> .inl (.inl h)) .inr,rfl⟩
 own:=fun b s' p q base tip h hne=>⟨BEz h hne,rfl⟩
theorem EQz {X:Ctx} {s o:Nat} {T:Path→Nat→Nat→Option Own} {Q:Prop} (q:Q) {b:Nat} {p:Path} {base tip:Nat} (hT:T p base tip=none) (f:Bool) (h:X.own b=some (s,o+1,p,base,tip)):(X.retag s o T Q).V f b:= .inl (.inr ⟨q,p,base,tip,h,hT⟩)
theorem Okz {X:Ctx} {s o:Nat} {T:Path→Nat→Nat→Option Own} {Q:Prop} (q:Q) (hT:∀p base tip,T p base tip=none) {v:Value} {f:Bool} {es:Nat} {rows:List (List PV)} (h:CVRel X s o v (.ow f es rows)):Rd (X.retag s o T Q).w.heap ((X.retag s o T Q).V f) v (.s es (Adz rows)):=by
 cases h with
 |ow0 _ _ a=>exact .s0 a 0 es
 |ow _ _ _ _ blk off cap c elem fr h=>
  rw[h.val]
  exact .s blk off _ cap es c elem fr _ (EQz q (hT _ _ _) f h.own) h.cells (A6z rows).symm h.le (h.reads.erd (AOz.V f) fun b p base tip ho=>⟨EQz q (hT _ _ _) f ho,rfl⟩)
theorem GIz {X:Ctx} {s o:Nat} {T:Path→Nat→Nat→Option Own} {Q:Prop} (q:Q) (hT:∀p base tip,T p base tip=none) {k j:Nat} {p:Path} {kd lo:Nat} {v:Value} {f:Bool} {es:Nat} {rows:List (List PV)} (h:CVRel X k j v (.br s o p kd lo f es rows)):Rd (X.retag s o T Q).w.heap ((X.retag s o T Q).V f) v (.s es (Adz rows)):=by
 cases h with
 |br0 _ _ _ _ _ _ _ a=>exact .s0 a 0 es
 |br _ _ _ _ _ _ _ _ _ blk base tip cap c elem fr h=>
  rw[h.val]
  exact .s blk _ _ cap es c elem fr _ (EQz q (hT _ _ _) f h.own) h.cells (A6z rows).symm h.le (h.reads.erd (AOz.V f) fun b p base tip ho=>⟨EQz q (hT _ _ _) f ho,rfl⟩)
 |brv _ _ _ _ _ _ _ _ h=>
  cases h with
  |s0 a cap=>exact .s0 a cap es
  |s blk off n cap c elem fr _ hv hb hn hc hr=>exact .s blk off n cap es c elem fr _ (AOz.V f _ hv).1 hb (by rw[A6z];exact hn) hc (hr.erd (AOz.V f) fun b p base tip ho=>⟨EQz q (hT _ _ _) f ho,rfl⟩)
theorem O2z (X:Ctx) (s o:Nat):Maps X (X.retag s o (fun _ _ _=>none) True) (demC s o) (Ayz s o):=
 AOz.maps (fun k j c h1 h2=>Svz h1 h2) (fun _ _ _ h=>Eqz h)
  (fun v f es rows h=>by simp only[demC,and_self,if_true,Bool.false_eq_true,if_false];exact .sh f _ v (Okz trivial (fun _ _ _=>rfl) h))
  (fun k j v q kd lo f es rows h=>by simp only[demC,and_self,if_true,Bool.false_eq_true,if_false];exact .sh f _ v (GIz trivial (fun _ _ _=>rfl) h))
  (fun k v q kd fl es i f row h s' o' q' e1=>by rw[Epz]at e1;simp at e1)
theorem Jnz (X:Ctx) (s o:Nat) (T:Path→Nat→Nat→Option Own) (Q:Prop):Maps X (X.retag s o T Q) (offC s o) (Ayz s o):=
 AOz.maps (fun k j c h1 h2=>L4z h1 h2) (fun _ _ _ h=>Eqz h)
  (fun v f es rows h=>by simp only[offC,and_self,if_true,Bool.false_eq_true,if_false];exact .dead v)
  (fun k j v q kd lo f es rows h=>by simp only[offC,and_self,if_true,Bool.false_eq_true,if_false];exact .dead v)
  (fun k v q kd fl es i f row h s' o' q' e1=>by rw[Epz]at e1;simp at e1)
theorem SEz (X:Ctx) (s o s' o':Nat):Maps X (X.retag s o (fun q base tip=>some (s',o'+1,q,base,tip)) False) (mvC s o s' o' none) (epTo s o s' o' none):=
 AOz.maps (fun k j c h1 h2=>Jkz h1 h2) (fun _ _ _ h=>Ihz h)
  (fun v f es rows h=>by
   simp only[mvC,and_self,if_true,Bool.false_eq_true,if_false]
   cases h with
   |ow0 _ _ a=>exact .br0 s' o' [] _ 0 f es a
   |ow _ _ _ _ blk off cap c elem fr h=>
    exact .br s' o' [] _ 0 f es rows v blk off rows.length cap c elem fr ⟨by rw[h.val];simp,h.le,Apz h.own,h.cells,by simpa using h.fits,h.loose,by simp,fun _=>by simp,fun _=>rfl,by simpa using h.reads.mono (AOz.V f) fun b q base tip ho=>⟨Apz ho,rfl⟩⟩)
  (fun k j v q kd lo f es rows h=>by
   simp only[mvC,and_self,if_true,Bool.false_eq_true,if_false]
   cases h with
   |br0 _ _ _ _ _ _ _ a=>exact .br0 s' o' q _ lo f es a
   |br _ _ _ _ _ _ _ _ _ blk base tip cap c elem fr h=>
    exact .br s' o' q _ lo f es rows v blk base tip cap c elem fr ⟨h.val,h.le,Apz h.own,h.cells,h.fits,h.loose,h.tipLe,h.tip1,h.lo0,h.reads.mono (AOz.V f) fun b q base tip ho=>⟨Apz ho,rfl⟩⟩
   |brv _ _ _ _ _ _ _ _ h=>exact .brv s' o' q lo f es rows v (h.mono (AOz.V f) fun b q base tip ho=>⟨Apz ho,rfl⟩))
  (fun k v q kd fl es i f row h s1 o1 q1 e1=>by
   rw[Spz]at e1;injection e1 with e1;injection e1 with e1 e2;injection e2 with e2 e3;subst e1;subst e2;subst e3
   cases h with
   |ep _ _ _ _ _ _ _ _ _ blk off base tip c elem fr ho he hl hb hfr hr=>exact .ep s' o' q kd fl es i f row blk off base tip c elem fr (Apz ho) he hl hb hfr (hr.mono (AOz.V fl) fun b q base tip ho=>⟨Apz ho,rfl⟩)
   |epv _ _ _ _ _ _ _ _ blk off c elem fr hv hb hr=>exact .epv s' o' q fl es i f row blk off c elem fr (AOz.V _ _ hv).1 hb (hr.mono (AOz.V fl) fun b q base tip ho=>⟨Apz ho,rfl⟩))
theorem KTz {X:Ctx} {k j:Nat} {v:Value} {f:Bool} {es:Nat} {rows:List (List PV)} (h:CVRel X k j v (.ow f es rows)):X.ORd f k j [] v (.o es rows):=by
 cases h with
 |ow0 _ _ a=>exact .o0 [] a es
 |ow _ _ _ _ blk off cap c elem fr h=>rw[h.val];exact .o [] blk off _ cap es c elem fr rows h.own h.cells rfl h.le h.fits h.loose h.reads
theorem NLz {X:Ctx} {k j:Nat} {v:Value} {f:Bool} {x:PV} (h:X.ORd f k j [] v x):CVRel X k j v (owBy f x):=by
 cases h with
 |rd _ _ _ h=>cases h<;>exact .dead _
 |o0 _ a es=>exact .ow0 f es a
 |o _ blk off n cap es c elem fr rows ho hb hn hc hf hl hr=>subst hn;exact .ow f es rows _ blk off cap c elem fr ⟨rfl,hc,ho,hb,hf,hl,hr⟩
theorem OTz {X:Ctx} {k j s o:Nat} {q:Path} {lo:Nat} {v:Value} {f:Bool} {es:Nat} {rows:List (List PV)} (h:CVRel X k j v (.br s o q 0 lo f es rows)):X.ORd f s o q v (.o es rows):=by
 generalize hk:(0:Nat)=kd at h
 cases h with
 |br0 _ _ _ _ _ _ _ a=>exact .o0 q a es
 |br _ _ _ _ _ _ _ _ _ blk base tip cap c elem fr h=>
  have h0:=h.lo0 hk.symm
  have h1:=h.tip1 (by omega)
  subst h0
  rw[h.val]
  have hr:=h.reads
  have hf:=h.fits
  simp only[Nat.zero_mul,Nat.add_zero,Nat.zero_add]at hr hf h1 ⊢
  exact .o q blk base _ cap es c elem fr rows (by rw[h1];exact h.own) h.cells rfl h.le hf h.loose hr
 |brv=>simp at hk
theorem NNz {X:Ctx} {k j s o:Nat} {q:Path} {v:Value} {f:Bool} {x:PV} (h:X.ORd f s o q v x):CVRel X k j v (brBy s o q f x):=by
 cases h with
 |rd _ _ _ h=>cases h<;>exact .dead _
 |o0 _ a es=>exact .br0 s o q 0 0 f es a
 |o _ blk off n cap es c elem fr rows ho hb hn hc hf hl hr=>
  subst hn
  exact .br s o q 0 0 f es rows _ blk off rows.length cap c elem fr ⟨by simp,hc,ho,hb,by simpa using hf,hl,by simp,fun _=>by simp,fun _=>rfl,by simpa using hr⟩
structure Modded (X X':Ctx) (s o:Nat) (q:Path) (g:PV→PV) (f':Bool):Prop where
 near:Near s o X X'
 out:∀b q1 base tip,X.own b=some (s,o+1,q1,base,tip)→(∀r,q1≠q++r)→X'.own b=some (s,o+1,q1,base,tip)∧X'.w.heap[b]? =X.w.heap[b]?
 to:∀f v x,X.ORd f s o q v x→X'.ORd (f||f') s o q v (g x)
theorem Modded.aside {X X':Ctx} {s o:Nat} {q:Path} {g:PV→PV} {f':Bool} (H:Modded X X' s o q g f') (f:Bool) {q1:Path} (h:∀r r',q1++r≠q++r'):Turns X.w.heap (X.V f) X.own s (o+1) X'.w.heap (X'.V (f||f')) X'.own s (o+1) id (fun p=>∃r,p=q1++r)where
 ext:=fun p x ⟨r,hr⟩=>⟨r++[x],by rw[hr,List.append_assoc]⟩
 phi:=fun _ _ _=>rfl
 V:=fun b hb=>⟨V_or f' (H.near.V f b hb).1,(H.near.V f b hb).2⟩
 own:=fun b p base tip ⟨r,hr⟩ ho=>H.out b p base tip ho fun r' e=>h r r' (hr.symm.trans e)
theorem Modded.ord {X X':Ctx} {s o:Nat} {q:Path} {g:PV→PV} {f':Bool} (H:Modded X X' s o q g f') {f:Bool}:∀(r q0:Path) {v:Value} {x:PV},q=q0++r→X.ORd f s o q0 v x→X'.ORd (f||f') s o q0 v (modP g r x)
 |[],q0,v,x,e,h=>by
  simp only[List.append_nil]at e
  subst e
  exact H.to f v x h
 |(i,j)::r,q0,v,x,e,h=>by
  have hV:∀b,X.V f b→X'.V (f||f') b∧X'.w.heap[b]? =X.w.heap[b]? :=fun b hb=>⟨V_or f' (H.near.V f b hb).1,(H.near.V f b hb).2⟩
  cases h with
  |rd _ _ _ h=>
   have:=h.mono hV
   cases h<;>exact .rd _ _ _ this
  |o0 _ a es=>simp only[modP,List.getElem?_nil];exact .o0 q0 a es
  |o _ blk off n cap es c elem fr rows ho hb hn hc hf hl hr=>
   have hout:=H.out _ _ _ _ ho fun r' e'=>by
    have h1:=congrArg List.length e
    have h2:=congrArg List.length e'
    simp at h1 h2
    omega
   have side:∀i' j',(i',j')≠(i,j)→∀r1 r2,(q0++[(i',j')])++r1≠q++r2:=fun i' j' hne r1 r2 h=>by
    rw[e,List.append_assoc,List.append_assoc]at h
    have:=List.append_cancel_left h
    simp at this
    exact hne (by rw[this.1.1,this.1.2])
   have asd:∀{i' j':Nat} {u:Value} {x':PV},¬(i'=i∧j'=j)→X.ORd f s o (q0++[(0+i',0+j')]) u x'→X'.ORd (f||f') s o (q0++[(0+i',0+j')]) u x':=fun{i' j' u x'} hne hx=>
    hx.turns (H.aside f (side _ _ fun e1=>hne (by simpa using e1))) ⟨[],by simp⟩
   simp only[modP]
   cases hrow:rows[i]? with
   |none=>
    refine .o q0 blk off n cap es c elem fr rows hout.1 (hout.2.trans hb) hn hc hf hl (ORows.mk fun i' row' hi'=> ?_)
    obtain⟨g1,g2⟩:=hr.get i' row' hi'
    refine⟨g1,ORow.mk fun j' x' hj'=> ?_⟩
    obtain⟨u,hu,hx⟩:=g2.get j' x' hj'
    refine⟨u,hu,asd (fun e1=> ?_) hx⟩
    rw[e1.1,hrow]at hi';simp at hi'
   |some row=>
    simp only
    cases hcell:row[j]? with
    |none=>
     refine .o q0 blk off n cap es c elem fr rows hout.1 (hout.2.trans hb) hn hc hf hl (ORows.mk fun i' row' hi'=> ?_)
     obtain⟨g1,g2⟩:=hr.get i' row' hi'
     refine⟨g1,ORow.mk fun j' x' hj'=> ?_⟩
     obtain⟨u,hu,hx⟩:=g2.get j' x' hj'
     refine⟨u,hu,asd (fun e1=> ?_) hx⟩
     rw[e1.1,hrow]at hi';injection hi' with hi';subst hi'
     rw[e1.2,hcell]at hj';simp at hj'
    |some y=>
     simp only
     have hlt:=(List.getElem?_eq_some_iff.1 hrow).1
     have hltj:=(List.getElem?_eq_some_iff.1 hcell).1
     refine .o q0 blk off n cap es c elem fr _ hout.1 (hout.2.trans hb) (by simpa using hn) hc hf hl (ORows.mk fun i' row' hi'=> ?_)
     by_cases hii:i'=i
     ·subst hii
      rw[List.getElem?_set_self hlt]at hi'
      injection hi' with hi';subst hi'
      obtain⟨g1,g2⟩:=hr.get i' row hrow
      refine⟨by simpa using g1,ORow.mk fun j' x' hj'=> ?_⟩
      by_cases hjj:j'=j
      ·subst hjj
       rw[List.getElem?_set_self hltj]at hj'
       injection hj' with hj';subst hj'
       obtain⟨u,hu,hx⟩:=g2.get j' y hcell
       refine⟨u,hu,?_⟩
       exact Modded.ord H r (q0++[(0+i',0+j')]) (by rw[e];simp) hx
      ·rw[List.getElem?_set_ne (Ne.symm hjj)]at hj'
       obtain⟨u,hu,hx⟩:=g2.get j' x' hj'
       exact⟨u,hu,asd (fun e1=>by omega) hx⟩
     ·rw[List.getElem?_set_ne (Ne.symm hii)]at hi'
      obtain⟨g1,g2⟩:=hr.get i' row' hi'
      refine⟨g1,ORow.mk fun j' x' hj'=> ?_⟩
      obtain⟨u,hu,hx⟩:=g2.get j' x' hj'
      exact⟨u,hu,asd (fun e1=>by omega) hx⟩
theorem Modded.look {X X':Ctx} {s o:Nat} {q:Path} {g:PV→PV} {f':Bool} (H:Modded X X' s o q g f') {k j:Nat} {v:Value} {q':Path} {kd lo:Nat} {f:Bool} {es:Nat} {rows:List (List PV)} (h:CVRel X k j v (.br s o q' kd lo f es rows)):
  CVRel X' k j v (modL s o q g f' (.br s o q' kd lo f es rows)):=by
 simp only[modL,and_self,if_true]
 by_cases hk:kd=0
 ·rw[if_pos hk]
  subst hk
  split
  ·rename_i r hr
   exact NNz (H.ord r q' (CBz hr) (OTz h))
  ·exact .dead v
 ·rw[if_neg hk];exact .dead v
theorem HVz {X X':Ctx} {s o:Nat} {q:Path} {g:PV→PV} {f':Bool} (H:Modded X X' s o q g f'):Maps X X' (modC s o q g f') (Ayz s o):=
 H.near.maps (fun k j c h1 h2=>L9z h1 h2) (fun _ _ _ h=>Eqz h)
  (fun v f es rows h=>by simp only[modC,and_self,if_true];exact NLz (H.ord q [] rfl (KTz h)))
  (fun k j v q' kd lo f es rows h=>H.look h)
  (fun k v q kd fl es i f row h s' o' q' e1=>by rw[Epz]at e1;simp at e1)
def reroot (s o:Nat) (q:Path) (s' o':Nat) (q':Path):Path→Nat→Nat→Option Own:=fun p base tip=>
 match strip q p with
 |some r=>some (s',o'+1,q'++r,base,tip)
 |none=>some (s,o+1,p,base,tip)
theorem C3z {X:Ctx} {f:Bool} {s o:Nat} {q:Path} {v:Value} {x:PV} (h:X.ORd f s o q v x):v.oneCell'=true∧(∀cs,v≠ .agg cs):=by
 cases h with
 |rd _ _ _ h=>cases h<;>first|exact⟨rfl,fun _ e=>nomatch e⟩|exact⟨by assumption,by assumption⟩
 |o0=>exact⟨rfl,fun _ e=>nomatch e⟩
 |o=>exact⟨rfl,fun _ e=>nomatch e⟩
theorem KVz {X:Ctx} {s o:Nat} {q:Path} {s' o':Nat} {q':Path}:Modded X (X.retag s o (reroot s o q s' o' q') False) s o q toX false where
 near:=AOz
 out:=fun b q1 base tip ho hne=>⟨by
  rw[Apz ho]
  unfold reroot
  cases e:strip q q1 with
  |none=>rfl
  |some r=>exact absurd (CBz e) (hne r),rfl⟩
 to:=fun f v x h=> .rd _ _ _ (.x v (C3z h).1 (C3z h).2)
theorem H9z {X:Ctx} {s o:Nat} {q:Path} {s' o':Nat} {q':Path} (f:Bool):Turns X.w.heap (X.V f) X.own s (o+1) (X.retag s o (reroot s o q s' o' q') False).w.heap ((X.retag s o (reroot s o q s' o' q') False).V f) (X.retag s o (reroot s o q s' o' q') False).own s' (o'+1)
  (fun p=>q'++p.drop q.length) (fun p=>∃r,p=q++r)where
 ext:=fun p x ⟨r,hr⟩=>⟨r++[x],by rw[hr,List.append_assoc]⟩
 phi:=fun p x ⟨r,hr⟩=>by rw[hr];simp
 V:=AOz.V f
 own:=fun b p base tip ⟨r,hr⟩ ho=>⟨by rw[Apz ho,hr];simp[reroot,Caz],rfl⟩
theorem R8z {X:Ctx} {s o:Nat} {q:Path} {s' o':Nat} {q':Path} {k j:Nat} {v:Value} {r:Path} {kd lo:Nat} {f:Bool} {es:Nat} {rows:List (List PV)} (h:CVRel X k j v (.br s o (q++r) kd lo f es rows)):
  CVRel (X.retag s o (reroot s o q s' o' q') False) k j v (.br s' o' (q'++r) kd lo f es rows):=by
 have H:=H9z (X:=X) (s:=s) (o:=o) (q:=q) (s':=s') (o':=o') (q':=q') f
 cases h with
 |br0 _ _ _ _ _ _ _ a=>exact .br0 s' o' _ kd lo f es a
 |br _ _ _ _ _ _ _ _ _ blk base tip cap c elem fr h=>
  have hr:=h.reads.turns H ⟨r,rfl⟩
  have ho:=(H.own _ _ _ _ ⟨r,rfl⟩ h.own).1
  simp only[List.drop_left]at hr ho
  exact .br s' o' _ kd lo f es rows v blk base tip cap c elem fr ⟨h.val,h.le,ho,h.cells,h.fits,h.loose,h.tipLe,h.tip1,h.lo0,hr⟩
 |brv _ _ _ _ _ _ _ _ h=>
  refine .brv s' o' _ lo f es rows v ?_
  cases h with
  |s0 a cap=>exact .s0 a cap
  |s blk off n cap c elem fr _ hv hb hn hc hr=>
   have hr:=hr.turns H ⟨r,rfl⟩
   simp only[List.drop_left]at hr
   exact .s blk off n cap c elem fr _ (AOz.V f _ hv).1 hb hn hc hr
theorem JAz:∀{q p:Path},strip q p=none→strip p q=none→∀t,strip q (p++t)=none
 |[],p,h,_,_=>by simp[strip]at h
 |a::q,[],_,h,_=>by simp[strip]at h
 |a::q,b::p,h1,h2,t=>by
  simp only[strip,List.cons_append]at h1 h2 ⊢
  by_cases e:a=b
  ·subst e
   simp only[if_true]at h1 h2 ⊢
   exact JAz h1 h2 t
  ·rw[if_neg e]
theorem QCz {X:Ctx} {s o:Nat} {q p:Path} {s' o':Nat} {q':Path} (f:Bool) (hs:∀t,strip q (p++t)=none):Turns X.w.heap (X.V f) X.own s (o+1) (X.retag s o (reroot s o q s' o' q') False).w.heap ((X.retag s o (reroot s o q s' o' q') False).V f) (X.retag s o (reroot s o q s' o' q') False).own s (o+1)
  (fun p=>p) (fun r=>∃t,r=p++t)where
 ext:=fun r x ⟨t,hr⟩=>⟨t++[x],by rw[hr,List.append_assoc]⟩
 phi:=fun _ _ _=>rfl
 V:=AOz.V f
 own:=fun b r base tip ⟨t,hr⟩ ho=>⟨by rw[Apz ho,hr];simp only[reroot,hs],rfl⟩
theorem T5z {X:Ctx} {s o:Nat} {q:Path} {s' o':Nat} {q':Path} {k j:Nat} {v:Value} {p:Path} {kd lo:Nat} {f:Bool} {es:Nat} {rows:List (List PV)} (hs:∀t,strip q (p++t)=none) (h:CVRel X k j v (.br s o p kd lo f es rows)):
  CVRel (X.retag s o (reroot s o q s' o' q') False) k j v (.br s o p kd lo f es rows):=by
 have H:=QCz (X:=X) (s:=s) (o:=o) (q:=q) (p:=p) (s':=s') (o':=o') (q':=q') f hs
 cases h with
 |br0 _ _ _ _ _ _ _ a=>exact .br0 s o _ kd lo f es a
 |br _ _ _ _ _ _ _ _ _ blk base tip cap c elem fr h=>
  exact .br s o _ kd lo f es rows v blk base tip cap c elem fr ⟨h.val,h.le,(H.own _ _ _ _ ⟨[],by simp⟩ h.own).1,h.cells,h.fits,h.loose,h.tipLe,h.tip1,h.lo0,h.reads.turns H ⟨[],by simp⟩⟩
 |brv _ _ _ _ _ _ _ _ h=>
  refine .brv s o _ lo f es rows v ?_
  cases h with
  |s0 a cap=>exact .s0 a cap
  |s blk off n cap c elem fr _ hv hb hn hc hr=>exact .s blk off n cap c elem fr _ (AOz.V f _ hv).1 hb hn hc (hr.turns H ⟨[],by simp⟩)
theorem T6z {X:Ctx} {s o:Nat} {q:Path} {s' o':Nat} {q':Path} {k j:Nat} {v:Value} {p:Path} {kd lo:Nat} {f:Bool} {es:Nat} {rows:List (List PV)} (h:CVRel X k j v (.br s o p kd lo f es rows)):
  CVRel (X.retag s o (reroot s o q s' o' q') False) k j v (mvpL s o q s' o' q' (.br s o p kd lo f es rows)):=by
 simp only[mvpL,and_self,if_true]
 split
 ·rename_i r hr
  rw[CBz hr]at h
  exact R8z h
 ·rename_i hn
  split
  ·rename_i r hr
   have:=KVz (s':=s') (o':=o') (q':=q') (q:=q)|>.look h
   simp only[modL,and_self,if_true,Bool.or_false,hr]at this
   exact this
  ·rename_i hm
   exact T5z (JAz hn hm) h
theorem NWz (X:Ctx) (s o:Nat) (q:Path) (s' o':Nat) (q':Path):Maps X (X.retag s o (reroot s o q s' o' q') False) (mvpC s o q s' o' q') (Ayz s o):=
 AOz.maps (fun k j c h1 h2=>R9z h1 h2) (fun _ _ _ h=>Eqz h)
  (fun v f es rows h=>by
   simp only[mvpC,and_self,if_true]
   cases q with
   |nil=>
    simp only
    have hb:CVRel X s o v (.br s o ([]++[]) 0 0 f es rows):=NNz (x:= .o es rows) (KTz h)
    have:=R8z (s':=s') (o':=o') (q':=q') hb
    simpa using this
   |cons a q=>
    simp only
    have:=NLz (KVz (s':=s') (o':=o') (q':=q') (q:=a::q)|>.ord (a::q) [] rfl (KTz h))
    simpa using this)
  (fun k j v p kd lo f es rows h=>T6z h)
  (fun k v q kd fl es i f row h s' o' q' e1=>by rw[Epz]at e1;simp at e1)
theorem Inv.retag {X:Ctx} (hi:Inv X) {s o:Nat} {T:Path→Nat→Nat→Option Own} {Q:Prop}
  (hT:∀q base tip s' p q' base' tip',T q base tip=some (s',p,q',base',tip')→¬(s'=s∧p=o+1)→∀b base tip,X.own b≠some (s',p,q',base,tip))
  (hj:∀b1 b2 q1 base1 tip1 q2 base2 tip2 s' p q' base' tip' base'' tip'',X.own b1=some (s,o+1,q1,base1,tip1)→X.own b2=some (s,o+1,q2,base2,tip2)→T q1 base1 tip1=some (s',p,q',base',tip')→T q2 base2 tip2=some (s',p,q',base'',tip'')→q1=q2):Inv (X.retag s o T Q)where
 own:=fun b t h=>by
  simp only[Ctx.retag]at h ⊢
  cases e:X.own b with
  |none=>simp[e]at h
  |some t'=>
   obtain⟨s',p,q,base,tip⟩:=t'
   obtain⟨h1,h2,h3⟩:=hi.own b _ e
   refine⟨h1,?_,h3⟩
   rintro(h4|⟨_,q',base',tip',h4,h5⟩)
   ·exact h2 h4
   ·injection h4 with h4
    injection h4 with e1 h4
    injection h4 with e2 h4
    injection h4 with e3 h4
    injection h4 with e4 e5
    subst e1;subst e2;subst e3;subst e4;subst e5
    simp[e,h5]at h
 one:=fun b b' s1 p1 q1 base tip base' tip' h h'=>by
  simp only[Ctx.retag]at h h'
  cases e:X.own b with
  |none=>simp[e]at h
  |some t=>
   cases e':X.own b' with
   |none=>simp[e']at h'
   |some t'=>
    obtain⟨sa,pa,qa,ba,ta⟩:=t
    obtain⟨sb,pb,qb,bb,tb⟩:=t'
    simp only[e,e']at h h'
    by_cases ha:sa=s∧pa=o+1
    ·rw[if_pos ha]at h
     obtain⟨rfl,rfl⟩:=ha
     by_cases hb:sb=sa∧pb=o+1
     ·rw[if_pos hb]at h'
      obtain⟨rfl,rfl⟩:=hb
      have:=hj _ _ _ _ _ _ _ _ _ _ _ _ _ _ _ e e' h h'
      subst this
      exact hi.one b b' _ _ _ _ _ _ _ e e'
     ·rw[if_neg hb]at h'
      injection h' with h'
      injection h' with e1 h'
      injection h' with e2 h'
      injection h' with e3 h'
      subst e1;subst e2;subst e3
      exact absurd e' (hT _ _ _ _ _ _ _ _ h hb _ _ _)
    ·rw[if_neg ha]at h
     injection h with h
     injection h with e1 h
     injection h with e2 h
     injection h with e3 h
     subst e1;subst e2;subst e3
     by_cases hb:sb=s∧pb=o+1
     ·rw[if_pos hb]at h'
      exact absurd e (hT _ _ _ _ _ _ _ _ h' ha _ _ _)
     ·rw[if_neg hb]at h'
      injection h' with h'
      injection h' with e1 h'
      injection h' with e2 h'
      injection h' with e3 h'
      subst e1;subst e2;subst e3
      exact hi.one b b' _ _ _ _ _ _ _ e e'
 vs:=fun b h=>by
  rcases h with h|⟨_,q,base,tip,h,_⟩
  ·exact hi.vs b h
  ·exact(hi.own b _ h).1
 va:=hi.va
theorem CTz (X:Ctx) (s o:Nat) (T:Path→Nat→Nat→Option Own) (Q:Prop):Goes X (X.retag s o T Q)where
 os:=rfl
 tape:=rfl
 output:=rfl
 size:=Nat.le_refl _
 keep:=fun _ _ _=>rfl
 va:=rfl
 vs:=fun _ h=> .inl h
 vs':=fun b h=>by
  rcases h with h|⟨_,q,base,tip,h,_⟩
  ·exact .inl h
  ·exact .inr (.inl (by simp[h]))
 own':=fun b h=>by
  refine .inl fun e=>h ?_
  simp[Ctx.retag,e]
theorem Hnz (g:Nat→Nat→CV→CV) (e:EpMap) (σ:St) (s p:Nat) (hd:g s p .dead= .dead):ABz (Afz g e 0 σ) s p=g s p (ABz σ s p)∨((∀sh l,σ[s]? ≠some (.c sh l))∧ABz σ s p= .dead):=by
 unfold ABz
 simp only[List.getD_eq_getElem?_getD,BQz,Nat.zero_add]
 cases hs:σ[s]? with
 |none=>right;simp
 |some x=>
  cases x with
  |c sh l=>
   left
   simp only[Option.map_some,Option.getD_some,SV.mapC,List.getD_eq_getElem?_getD,KYz,Nat.zero_add]
   cases l[p]? <;>simp[hd]
  |undef=>right;simp
  |bp a b=>right;simp
  |ep _ _ _ _ _ _ _ _ _=>right;simp
  |sp _ _ _=>right;simp
  |fn _ _=>right;simp
theorem Byz (g:Nat→Nat→CV→CV) (e:EpMap) (σ:St) (s p:Nat) (hd:g s p .dead= .dead) (h:(ABz σ s p).isOw=true):ABz (Afz g e 0 σ) s p=g s p (ABz σ s p):=by
 rcases Hnz g e σ s p hd with h1|⟨_,h1⟩
 ·exact h1
 ·rw[h1]at h;simp[CV.isOw]at h
end Go.Proofs.YtblelojdboefjaaGreatDoor.R
namespace Go.Proofs.YtblelojdboefjaaGreatDoor.R
open Go
structure TagsE (X:Ctx) (σ:St) (E:Nat→Nat→Prop):Prop where
 cell:∀b s p q base tip,X.own b=some (s,p+1,q,base,tip)→E s p∨(ABz σ s p).isOw=true
 box:∀b s q base tip,X.own b=some (s,0,q,base,tip)→∃l,σ[s]? =some (.c .box l)
structure Good (X:Ctx) (vs:List Value) (σ:St) (E:Nat→Nat→Prop):Prop where
 inv:Inv X
 frame:Frame X vs σ
 tags:TagsE X σ E
def NoE:Nat→Nat→Prop:=fun _ _=>False
theorem IZz {g:Nat→Nat→CV→CV} {e:EpMap} {σ:St} {s:Nat} (h:∃l,σ[s]? =some (.c .box l)):∃l,(Afz g e 0 σ)[s]? =some (.c .box l):=by
 obtain⟨l,h⟩:=h
 exact⟨Acz (g s) 0 l,by rw[BQz,h];simp[SV.mapC]⟩
theorem C9z (s o k j:Nat):demC s o k j .dead= .dead:=rfl
theorem C7z (s o k j:Nat):offC s o k j .dead= .dead:=rfl
theorem F9z (s o s' o':Nat) (m:Option Nat) (k j:Nat):mvC s o s' o' m k j .dead= .dead:=rfl
theorem IWz (s o:Nat) (q:Path) (g:PV→PV) (f':Bool) (k j:Nat):modC s o q g f' k j .dead= .dead:=rfl
theorem IVz (s o:Nat) (q:Path) (s' o':Nat) (q':Path) (k j:Nat):mvpC s o q s' o' q' k j .dead= .dead:=rfl
theorem V4z {s o k j:Nat} {c:CV} (hc:c.isOw=true) (h:¬(k=s∧j=o)):(demC s o k j c).isOw=true:=by
 cases c with
 |ow f es rows=>simp only[demC];rw[if_neg h];rfl
 |_=>simp[CV.isOw]at hc
theorem Iyz {s o k j:Nat} {c:CV} (hc:c.isOw=true) (h:¬(k=s∧j=o)):(offC s o k j c).isOw=true:=by
 cases c with
 |ow f es rows=>simp only[offC];rw[if_neg h];rfl
 |_=>simp[CV.isOw]at hc
theorem SAz {s o s' o' k j:Nat} {m:Option Nat} {c:CV} (hc:c.isOw=true) (h:¬(k=s∧j=o)):(mvC s o s' o' m k j c).isOw=true:=by
 cases c with
 |ow f es rows=>simp only[mvC];rw[if_neg h];rfl
 |_=>simp[CV.isOw]at hc
theorem VYz {s o s' o' k j:Nat} {q q':Path} {c:CV} (hc:c.isOw=true) (h:¬(k=s∧j=o)):(mvpC s o q s' o' q' k j c).isOw=true:=by
 cases c with
 |ow f es rows=>simp only[mvpC];rw[if_neg h];rfl
 |_=>simp[CV.isOw]at hc
theorem Vbz {s o k j:Nat} {q:Path} {g:PV→PV} {f':Bool} {c:CV} (hc:c.isOw=true) (h:¬(k=s∧j=o)):(modC s o q g f' k j c).isOw=true:=by
 cases c with
 |ow f es rows=>simp only[modC];rw[if_neg h];rfl
 |_=>simp[CV.isOw]at hc
theorem O0z (g:PV→PV) (a:Nat×Nat) (q:Path) (es:Nat) (rows:List (List PV)):∃rows',modP g (a::q) (.o es rows)= .o es rows':=by
 obtain⟨i,j⟩:=a
 simp only[modP]
 split
 ·split<;>exact⟨_,rfl⟩
 ·exact⟨_,rfl⟩
theorem ISz (g:PV→PV) (a:Nat×Nat) (q:Path) (f:Bool) (es:Nat) (rows:List (List PV)):(owBy f (modP g (a::q) (.o es rows))).isOw=true:=by
 obtain⟨r,h⟩:=O0z g a q es rows
 rw[h];rfl
theorem Pez (s o:Nat) (q:Path) (f:Bool) (x:PV):(brBy s o q f x).isOw=false:=by cases x<;>rfl
theorem Akz {X:Ctx} {s o:Nat} {T:Path→Nat→Nat→Option Own} {Q:Prop} {b:Nat} {t:Own} (h:(X.retag s o T Q).own b=some t):
  (X.own b=some t∧¬(t.1=s∧t.2.1=o+1))∨∃q base tip,X.own b=some (s,o+1,q,base,tip)∧T q base tip=some t:=by
 simp only[Ctx.retag]at h
 cases e:X.own b with
 |none=>simp[e]at h
 |some t'=>
  obtain⟨s',p,q,base,tip⟩:=t'
  simp only[e]at h
  by_cases hk:s'=s∧p=o+1
  ·rw[if_pos hk]at h
   obtain⟨rfl,rfl⟩:=hk
   exact .inr ⟨q,base,tip,rfl,h⟩
  ·rw[if_neg hk]at h
   injection h with h
   subst h
   exact .inl ⟨rfl,hk⟩
theorem DEz {X:Ctx} {σ:St} {E:Nat→Nat→Prop} (h:TagsE X σ E) {s o s' o':Nat} {T:Path→Nat→Nat→Option Own} {Q:Prop} {g:Nat→Nat→CV→CV} {e:EpMap}
  (hd:∀k j,g k j .dead= .dead) (hg:∀k j c,c.isOw=true→¬(k=s∧j=o)→(g k j c).isOw=true)
  (hT:∀q base tip t,T q base tip=some t→(t.1=s'∧t.2.1=o'+1)∨(t.1=s∧t.2.1=o+1∧∀c,c.isOw=true→(g s o c).isOw=true)):TagsE (X.retag s o T Q) (Afz g e 0 σ) (fun a b=>E a b∨(a=s'∧b=o'))where
 cell:=fun b s1 p q base tip h1=>by
  rcases Akz h1 with⟨h2,h3⟩|⟨q',base',tip',h2,h3⟩
  ·rcases h.cell _ _ _ _ _ _ h2 with h4|h4
   ·exact .inl (.inl h4)
   ·right
    rw[Byz g e σ s1 p (hd _ _) h4]
    exact hg _ _ _ h4 (by simpa using h3)
  ·rcases hT _ _ _ _ h3 with this|⟨e1,e2,h5⟩
   ·exact .inl (.inr ⟨this.1,by simpa using this.2⟩)
   ·simp only at e1 e2
    have e2:p=o:=by omega
    subst e1;subst e2
    rcases h.cell _ _ _ _ _ _ h2 with h4|h4
    ·exact .inl (.inl h4)
    ·right
     rw[Byz g e σ s1 p (hd _ _) h4]
     exact h5 _ h4
 box:=fun b s1 q base tip h1=>by
  rcases Akz h1 with⟨h2,h3⟩|⟨q',base',tip',h2,h3⟩
  ·exact IZz (h.box _ _ _ _ _ h2)
  ·rcases hT _ _ _ _ h3 with this|⟨_,e2,_⟩
   ·simp at this
   ·simp at e2
theorem KAz {X:Ctx} {σ:St} {E:Nat→Nat→Prop} (h:TagsE X σ E) {s o:Nat} {Q:Prop} {g:Nat→Nat→CV→CV} {e:EpMap}
  (hd:∀k j,g k j .dead= .dead) (hg:∀k j c,c.isOw=true→¬(k=s∧j=o)→(g k j c).isOw=true):TagsE (X.retag s o (fun _ _ _=>none) Q) (Afz g e 0 σ) E where
 cell:=fun b s1 p q base tip h1=>by
  rcases Akz h1 with⟨h2,h3⟩|⟨q',base',tip',h2,h3⟩
  ·rcases h.cell _ _ _ _ _ _ h2 with h4|h4
   ·exact .inl h4
   ·right
    rw[Byz g e σ s1 p (hd _ _) h4]
    exact hg _ _ _ h4 (by simpa using h3)
  ·simp at h3
 box:=fun b s1 q base tip h1=>by
  rcases Akz h1 with⟨h2,h3⟩|⟨q',base',tip',h2,h3⟩
  ·exact IZz (h.box _ _ _ _ _ h2)
  ·simp at h3
theorem JUz {X:Ctx} {vs:List Value} {σ:St} {E:Nat→Nat→Prop} (h:Good X vs σ E) (s o:Nat):Good (X.retag s o (fun _ _ _=>none) True) vs (demote s o σ) E where
 inv:=h.inv.retag (fun _ _ _ _ _ _ _ _ h=>by simp at h) (fun _ _ _ _ _ _ _ _ _ _ _ _ _ _ _ _ _ h=>by simp at h)
 frame:=h.frame.map (O2z X s o)
 tags:=KAz h.tags (C9z s o) (fun k j c hc hn=>V4z hc hn)
def Free (X:Ctx) (s p:Nat):Prop:=∀b q base tip,X.own b≠some (s,p+1,q,base,tip)
theorem Free.retag {X:Ctx} {s p:Nat} (h:Free X s p) {a b:Nat} {T:Path→Nat→Nat→Option Own} {Q:Prop} (hT:∀k q base tip t,X.own k=some (a,b+1,q,base,tip)→T q base tip=some t→¬(t.1=s∧t.2.1=p+1)):Free (X.retag a b T Q) s p:=fun k q base tip h1=>by
 rcases Akz h1 with⟨h2,h3⟩|⟨q',base',tip',h2,h3⟩
 ·exact h _ _ _ _ h2
 ·exact hT _ _ _ _ _ h2 h3 ⟨rfl,rfl⟩
structure Laid (X X':Ctx) (σ:St):Prop where
 goes:Goes X X'
 w:X'.w=X.w
 V:∀f b,X.V f b→X'.V f b
 own:∀b s p q base tip,X.own b=some (s,p,q,base,tip)→(p=0∨(ABz σ s (p - 1)).isOw=false)→X'.own b=some (s,p,q,base,tip)
theorem Laid.refl (X:Ctx) (σ:St):Laid X X σ:=⟨.refl X,rfl,fun _ _ h=>h,fun _ _ _ _ _ _ h _=>h⟩
theorem Eoz {X:Ctx} {σ:St} {s o:Nat} (T:Path→Nat→Nat→Option Own) (Q:Prop) (h:(ABz σ s o).isOw=true):Laid X (X.retag s o T Q) σ where
 goes:=CTz X s o T Q
 w:=rfl
 V:=fun f b h=>(AOz.V f b h).1
 own:=fun b s1 p q base tip h1 h2=>BEz h1 fun h3=>by
  obtain⟨rfl,rfl⟩:=h3
  rcases h2 with h2|h2
  ·simp at h2
  ·simp[h]at h2
def Firm (σ:St) (k j:Nat):CV→Prop
 | .sh _ _=>True
 | .ow _ _ _=>(ABz σ k j).isOw=false
 | .br _ _ _ _ _ _ _ _=>False
 | .dead=>True
theorem Laid.cv {X X':Ctx} {σ:St} (H:Laid X X' σ) {k j:Nat} {v:Value} {c:CV} (hf:Firm σ k j c) (h:CVRel X k j v c):CVRel X' k j v c:=by
 cases h with
 |sh f p v h=>exact .sh f p v (h.mono fun b hb=>⟨H.V f b hb,by rw[H.w]⟩)
 |ow0 f es a=>exact .ow0 f es a
 |ow f es rows v blk off cap c elem fr h=>
  exact .ow f es rows v blk off cap c elem fr ⟨h.val,h.le,H.own _ _ _ _ _ _ h.own (.inr hf),by rw[H.w];exact h.cells,h.fits,h.loose,h.reads.mono (fun b hb=>⟨H.V f b hb,by rw[H.w]⟩) fun b q base tip ho=>⟨H.own _ _ _ _ _ _ ho (.inr hf),by rw[H.w]⟩⟩
 |br0=>exact hf.elim
 |br=>exact hf.elim
 |brv=>exact hf.elim
 |dead v=>exact .dead v
def Looks:CV→Prop
 | .ow _ _ rows=>rows=[]
 |_=>True
theorem Dvz {X:Ctx} {j:Nat} {v:Value} {f:Bool} {es:Nat} {rows:List (List PV)} (h:∀k,CVRel X k j v (.ow f es rows)):rows=[]∧∃a,v= .slice a 0 0:=by
 have h0:=h 0
 have h1:=h 1
 cases h0 with
 |ow0 _ _ a=>exact⟨rfl,a,rfl⟩
 |ow _ _ _ _ blk off cap c elem fr h0=>
  cases h1 with
  |ow0 _ _ a=>exact⟨rfl,a,rfl⟩
  |ow _ _ _ _ blk' off' cap' c' elem' fr' h1=>
   have e:=h0.val.symm.trans h1.val
   injection e with e1 e2 e3
   injection e1 with e1
   injection e1 with e1
   subst e1
   have:=h0.own.symm.trans h1.own
   simp at this
def OV (X:Ctx) (σ:St) (v:Value) (c:CV):Prop:=(∀k j,CVRel X k j v c)∨∃s o q kd lo f es rows,c= .br s o q kd lo f es rows∧(ABz σ s o).isOw=false
structure Persisted (X X':Ctx) (vs:List Value) (σ σ':St) (E:Nat→Nat→Prop) (s' o':Nat) (v:Value) (c':CV):Prop where
 laid:Laid X X' σ
 good:Good X' vs σ' (fun a b=>E a b∨(a=s'∧b=o'))
 cv:CVRel X' s' o' v c'
 free:∀s p,¬(s=s'∧p=o')→Free X s p→Free X' s p
 noOw:∀s p,(ABz σ s p).isOw=false→(ABz σ' s p).isOw=false
 ov:∀w d,OV X σ w d→OV X' σ' w d
 tag:c'.isOw=false→Free X' s' o'
theorem Good.weak {X:Ctx} {vs:List Value} {σ:St} {E E':Nat→Nat→Prop} (g:Good X vs σ E) (h:∀a b,E a b→E' a b):Good X vs σ E':=
 ⟨g.inv,g.frame,fun b s p q base tip h1=>(g.tags.cell b s p q base tip h1).imp (h _ _) id,g.tags.box⟩
theorem B8z (g:Nat→Nat→CV→CV) (e:EpMap) (σ:St) (s p:Nat) (hd:g s p .dead= .dead) (hg:∀c,c.isOw=false→(g s p c).isOw=false) (h:(ABz σ s p).isOw=false):(ABz (Afz g e 0 σ) s p).isOw=false:=by
 rcases Hnz g e σ s p hd with h1|⟨h2,_⟩
 ·rw[h1];exact hg _ h
 ·have:ABz (Afz g e 0 σ) s p= .dead:=by
   unfold ABz
   simp only[List.getD_eq_getElem?_getD,BQz,Nat.zero_add]
   cases hs:σ[s]? with
   |none=>simp
   |some x=>
    cases x with
    |c sh l=>exact absurd hs (h2 sh l)
    |undef=>simp[SV.mapC]
    |bp a b=>simp[SV.mapC]
    |ep a b q kd fl es i f row=>
     simp only[Option.map_some,Option.getD_some,SV.mapC]
     cases e a b q<;>simp
    |sp _ _ _=>simp[SV.mapC]
    |fn _ _=>simp[SV.mapC]
  rw[this];rfl
theorem I3z (s o k j:Nat) (c:CV) (h:c.isOw=false):(demC s o k j c).isOw=false:=by
 cases c with
 |br a b q kd lo f es rows=>simp only[demC];split<;>rfl
 |ow f es rows=>simp[CV.isOw]at h
 |_=>rfl
theorem LPz (s o k j:Nat) (c:CV) (h:c.isOw=false):(offC s o k j c).isOw=false:=by
 cases c with
 |br a b q kd lo f es rows=>simp only[offC];split<;>rfl
 |ow f es rows=>simp[CV.isOw]at h
 |_=>rfl
theorem SBz (s o s' o':Nat) (m:Option Nat) (k j:Nat) (c:CV) (h:c.isOw=false):(mvC s o s' o' m k j c).isOw=false:=by
 cases c with
 |br a b q kd lo f es rows=>simp only[mvC];(repeat' split)<;>rfl
 |ow f es rows=>simp[CV.isOw]at h
 |_=>rfl
theorem Vaz (s o:Nat) (q:Path) (g:PV→PV) (f':Bool) (c:CV) (h:c.isOw=false):(modL s o q g f' c).isOw=false:=by
 cases c with
 |br a b q kd lo f es rows=>simp only[modL];(repeat' split)<;>first|rfl|exact Pez _ _ _ _ _
 |ow f es rows=>simp[CV.isOw]at h
 |_=>rfl
theorem Vcz (s o:Nat) (q:Path) (g:PV→PV) (f':Bool) (k j:Nat) (c:CV) (h:c.isOw=false):(modC s o q g f' k j c).isOw=false:=by
 cases c with
 |ow f es rows=>simp[CV.isOw]at h
 |_=>exact Vaz s o q g f' _ h
theorem VXz (s o:Nat) (q:Path) (s' o':Nat) (q':Path) (c:CV) (h:c.isOw=false):(mvpL s o q s' o' q' c).isOw=false:=by
 cases c with
 |br a b q kd lo f es rows=>simp only[mvpL];(repeat' split)<;>first|rfl|exact Pez _ _ _ _ _
 |ow f es rows=>simp[CV.isOw]at h
 |_=>rfl
theorem Pgz (s o:Nat) (q:Path) (s' o':Nat) (q':Path) (k j:Nat) (c:CV) (h:c.isOw=false):(mvpC s o q s' o' q' k j c).isOw=false:=by
 cases c with
 |ow f es rows=>simp[CV.isOw]at h
 |_=>exact VXz s o q s' o' q' _ h
theorem HSz {X:Ctx} {σ σ':St} {s o:Nat} {T:Path→Nat→Nat→Option Own} {Q:Prop} (hs:(ABz σ' s o).isOw=false) (hn:∀a b,(ABz σ a b).isOw=false→(ABz σ' a b).isOw=false)
  (w:Value) (d:CV) (h:OV X σ w d):OV (X.retag s o T Q) σ' w d:=by
 rcases h with h|⟨s1,o1,q,kd,lo,f,es,rows,rfl,h⟩
 ·cases d with
  |sh f p=>left;intro k j;have:=h k j;cases this with|sh _ _ _ h1=>exact .sh f p w (AOz.sh h1)
  |dead=>left;intro k j;exact .dead w
  |ow f es rows=>
   left;intro k j
   obtain⟨rfl,a,rfl⟩:=Dvz fun k=>h k 0
   exact .ow0 f es a
  |br s1 o1 q kd lo f es rows=>
   by_cases hk:s1=s∧o1=o
   ·obtain⟨rfl,rfl⟩:=hk
    exact .inr ⟨s1,o1,q,kd,lo,f,es,rows,rfl,hs⟩
   ·left;intro k j
    have:=h k j
    cases this with
    |br0 _ _ _ _ _ _ _ a=>exact .br0 s1 o1 q kd lo f es a
    |br _ _ _ _ _ _ _ _ _ blk base tip cap c elem fr hb=>exact .br s1 o1 q kd lo f es rows w blk base tip cap c elem fr (AOz.br hk hb)
    |brv _ _ _ _ _ _ _ _ hb=>exact .brv s1 o1 q lo f es rows w (hb.mono (AOz.V f) (AOz.ownP hk))
 ·exact .inr ⟨s1,o1,q,kd,lo,f,es,rows,rfl,hn _ _ h⟩
theorem Gyz (g:Nat→Nat→CV→CV) (e:EpMap) (σ:St) (s o:Nat) (hd:g s o .dead= .dead) (hg:∀c,(g s o c).isOw=false):(ABz (Afz g e 0 σ) s o).isOw=false:=by
 cases hc:(ABz σ s o).isOw with
 |true=>rw[Byz g e σ s o hd hc];exact hg _
 |false=>exact B8z g e σ s o hd (fun c _=>hg c) hc
theorem Ilz (s o:Nat) (c:CV):(demC s o s o c).isOw=false:=by
 cases c with
 |br a b q kd lo f es rows=>simp only[demC];split<;>rfl
 |ow f es rows=>simp[demC,CV.isOw]
 |_=>rfl
theorem R2z (s o:Nat) (c:CV):(offC s o s o c).isOw=false:=by
 cases c with
 |br a b q kd lo f es rows=>simp only[offC];split<;>rfl
 |ow f es rows=>simp[offC,CV.isOw]
 |_=>rfl
theorem T7z (s o s' o':Nat) (m:Option Nat) (c:CV):(mvC s o s' o' m s o c).isOw=false:=by
 cases c with
 |br a b q kd lo f es rows=>simp only[mvC];(repeat' split)<;>rfl
 |ow f es rows=>simp only[mvC,and_self,if_true];(repeat' split)<;>rfl
 |_=>rfl
theorem Itz {X:Ctx} {k j s o:Nat} {q:Path} {kd lo:Nat} {f:Bool} {es:Nat} {rows:List (List PV)} {v:Value} (h:CVRel X k j v (.br s o q kd lo f es rows)):∀k' j',CVRel X k' j' v (.br s o q kd lo f es rows):=by
 intro k' j'
 cases h with
 |br0 _ _ _ _ _ _ _ a=>exact .br0 s o q kd lo f es a
 |br _ _ _ _ _ _ _ _ _ blk base tip cap c elem fr h=>exact .br s o q kd lo f es rows v blk base tip cap c elem fr h
 |brv _ _ _ _ _ _ _ _ h=>exact .brv s o q lo f es rows v h
theorem F2z {X:Ctx} {vs:List Value} {σ σ':St} {E:Nat→Nat→Prop} {kp:Option Nat} {s' o':Nat} {v:Value} {c c':CV} (h:Good X vs σ E) (hov:OV X σ v c) (hfree:Free X s' o')
    (he:persist kp s' o' c σ=some (σ',c')):∃X',Persisted X X' vs σ σ' E s' o' v c'∧∀b s1 p q base tip,X.own b=some (s1,p,q,base,tip)→(∀o q kd lo f es rows,c≠ .br s1 o q kd lo f es rows)→X'.own b=some (s1,p,q,base,tip):=by
  unfold persist at he
  split at he
  · rename_i f p
    injection he with he;injection he with e1 e2;subst e1;subst e2
    refine⟨X,⟨.refl X σ,h.weak fun _ _=> .inl,?_,fun _ _ _ h=>h,fun _ _ h=>h,fun _ _ h=>h,fun _=>hfree⟩,fun _ _ _ _ _ _ h _=>h⟩
    have hv:=hov.resolve_right (by rintro⟨_,_,_,_,_,_,_,_,h,_⟩;cases h) 0 0
    cases hv with|sh _ _ _ hv=>exact .sh f p v hv
  · rename_i f es
    injection he with he;injection he with e1 e2;subst e1;subst e2
    have hv:=hov.resolve_right (by rintro⟨_,_,_,_,_,_,_,_,h,_⟩;cases h)
    obtain⟨_,a,rfl⟩:=Dvz fun k=>hv k 0
    exact⟨X,⟨.refl X σ,h.weak fun _ _=> .inl,.ow0 f es a,fun _ _ _ h=>h,fun _ _ h=>h,fun _ _ h=>h,fun _=>hfree⟩,fun _ _ _ _ _ _ h _=>h⟩
  · rename_i s o q kd lo f es rows
    split at he
    ·
      split at he
      · rename_i hc
        injection he with he;injection he with e1 e2;subst e1;subst e2
        have hv0:=hov.resolve_right (by rintro⟨_,_,_,_,_,_,_,_,h,h1⟩;cases h;simp[hc]at h1) s' o'
        exact⟨X,⟨.refl X σ,h.weak fun _ _=> .inl,hv0,fun _ _ _ h=>h,fun _ _ h=>h,fun _ _ h=>h,fun _=>hfree⟩,fun _ _ _ _ _ _ h _=>h⟩
      · simp at he
    rename_i hkp
    have hq:q=[]:=by
      simp only[Bool.or_eq_true,not_or,Bool.not_eq_true',Bool.not_eq_true]at hkp
      have:=hkp.2
      cases q with
      |nil=>rfl
      |cons a q=>simp at this
    subst hq
    by_cases hc:(ABz σ s o).isOw=true
    case neg=>rw[if_neg hc]at he;simp at he
    rw[if_pos hc]at he
    have hv0:=hov.resolve_right (by rintro⟨_,_,_,_,_,_,_,_,h,h1⟩;cases h;simp[hc]at h1) 0 0
    by_cases hk0:kd=0
    · rw[if_pos hk0]at he
      injection he with he;injection he with e1 e2;subst e1;subst e2
      let T:Path→Nat→Nat→Option Own:=fun q base tip=>some (s',o'+1,q,base,tip)
      have hT:∀q base tip t,T q base tip=some t→t.1=s'∧t.2.1=o'+1:=fun q base tip t ht=>by injection ht with ht;subst ht;exact⟨rfl,rfl⟩
      refine⟨X.retag s o T False,⟨Eoz T False hc,⟨h.inv.retag ?_ ?_,h.frame.map (SEz X s o s' o'),DEz h.tags (F9z s o s' o' none) (fun k j c hc hn=>SAz hc hn) fun q base tip t ht=> .inl (hT q base tip t ht)⟩,?_,?_,?_,?_,fun hh=>by simp[CV.isOw]at hh⟩,fun b s1 p q base tip h1 h2=>BEz h1 fun e=>h2 o [] kd lo f es rows (by rw[e.1])⟩
      · intro q base tip s1 p1 q1 base1 tip1 ht _ b base2 tip2
        injection ht with ht;injection ht with e1 ht;injection ht with e2 ht;subst e1;subst e2
        exact hfree b q1 base2 tip2
      · intro b1 b2 q1 base1 tip1 q2 base2 tip2 s1 p1 q3 base3 tip3 base4 tip4 _ _ h1 h2
        injection h1 with h1;injection h1 with _ h1;injection h1 with _ h1;injection h1 with h1 _
        injection h2 with h2;injection h2 with _ h2;injection h2 with _ h2;injection h2 with h2 _
        rw[h1,h2]
      · cases hv0 with
        |br0 _ _ _ _ _ _ _ a=>exact .ow0 f es a
        |br _ _ _ _ _ _ _ _ _ blk base tip cap c elem fr hb=>
          have hlo:=hb.lo0 hk0
          have htip:=hb.tip1 (by omega)
          subst hlo
          refine .ow f es rows v blk base cap c elem fr ⟨by rw[hb.val];simp,hb.le,?_,hb.cells,by simpa using hb.fits,hb.loose,by simpa using hb.reads.mono (AOz.V f) fun b q base tip ho=>⟨Apz ho,rfl⟩⟩
          rw[Apz hb.own]
          simp only[T]
          rw[←htip];simp
        |brv=>omega
      · intro a b hne hf
        exact hf.retag fun _ q base tip t _ ht ⟨h1,h2⟩=>by
          have:=hT q base tip t ht
          exact hne ⟨h1.symm.trans this.1,by omega⟩
      · exact fun a b hh=>B8z _ _ σ a b (F9z s o s' o' none a b) (SBz s o s' o' none a b) hh
      · exact HSz (Gyz _ _ σ s o (F9z s o s' o' none s o) (T7z s o s' o' none)) fun a b hh=>B8z _ _ σ a b (F9z s o s' o' none a b) (SBz s o s' o' none a b) hh
    · rw[if_neg hk0]at he
      by_cases hk1:kd=1
      · rw[if_pos hk1]at he
        injection he with he;injection he with e1 e2;subst e1;subst e2
       
        let T:Path→Nat→Nat→Option Own:=fun q base tip=>match q with
          |[]=>some (s',o'+1,[],base+lo*es,rows.length)
          |(i,j)::r=>if lo≤i then some (s',o'+1,(i - lo,j)::r,base,tip)else none
        have hT:∀q base tip t,T q base tip=some t→t.1=s'∧t.2.1=o'+1:=fun q base tip t ht=>by
          cases q with
          |nil=>injection ht with ht;subst ht;exact⟨rfl,rfl⟩
          |cons a r=>
            obtain⟨i,j⟩:=a
            simp only[T]at ht
            split at ht
            · injection ht with ht;subst ht;exact⟨rfl,rfl⟩
            · simp at ht
        refine⟨X.retag s o T False,⟨Eoz T False hc,⟨h.inv.retag ?_ ?_,h.frame.map (Jnz X s o T False),DEz h.tags (C7z s o) (fun k j c hc hn=>Iyz hc hn) fun q base tip t ht=> .inl (hT q base tip t ht)⟩,?_,?_,?_,?_,fun hh=>by simp[CV.isOw]at hh⟩,fun b s1 p q base tip h1 h2=>BEz h1 fun e=>h2 o [] kd lo f es rows (by rw[e.1])⟩
        · intro q base tip s1 p1 q1 base1 tip1 ht _ b base2 tip2
          have:=hT _ _ _ _ ht
          simp only at this
          obtain⟨e1,e2⟩:=this
          subst e1;subst e2
          exact hfree b q1 base2 tip2
        · intro b1 b2 q1 base1 tip1 q2 base2 tip2 s1 p1 q3 base3 tip3 base4 tip4 _ _ h1 h2
          cases q1 with
          |nil=>
            cases q2 with
            |nil=>rfl
            |cons a r=>
              obtain⟨i,j⟩:=a
              simp only[T]at h1 h2
              split at h2
              · simp at h1 h2
                obtain⟨_,_,h3,_⟩:=h1
                obtain⟨_,_,h4,_⟩:=h2
                subst h3;first|exact absurd h4 (by simp)|(subst h4;simp at *)
              · simp at h2
          |cons a r=>
            obtain⟨i,j⟩:=a
            cases q2 with
            |nil=>
              simp only[T]at h1 h2
              split at h1
              · simp at h1 h2
                obtain⟨_,_,h3,_⟩:=h1
                obtain⟨_,_,h4,_⟩:=h2
                subst h3;first|exact absurd h4 (by simp)|(subst h4;simp at *)
              · simp at h1
            |cons a' r'=>
              obtain⟨i',j'⟩:=a'
              simp only[T]at h1 h2
              split at h1
              · split at h2
                · rename_i g1 g2
                  simp at h1 h2
                  obtain⟨_,_,h3,_⟩:=h1
                  obtain⟨_,_,h4,_⟩:=h2
                  have h4:=h3.trans h4.symm
                  simp at h4
                  obtain⟨⟨h5,h6⟩,h7⟩:=h4
                  subst h6;subst h7
                  rw[show i=i' from by omega]
                · simp at h2
              · simp at h1
        · cases hv0 with
          |br0 _ _ _ _ _ _ _ a=>exact .ow0 f es a
          |br _ _ _ _ _ _ _ _ _ blk base tip cap c elem fr hb=>
            refine .ow f es rows v blk (base+lo*es) cap c elem fr ⟨hb.val,hb.le,Apz hb.own,hb.cells,hb.fits,hb.loose,ORows.mk fun i row hi=> ?_⟩
            obtain⟨g1,g2⟩:=hb.reads.get i row hi
            refine⟨g1,ORow.mk fun j x hj=> ?_⟩
            obtain⟨u,hu,hx⟩:=g2.get j x hj
            refine⟨u,hu,?_⟩
            have:=hx.turns (h':=(X.retag s o T False).w.heap) (V':=(X.retag s o T False).V f) (own':=(X.retag s o T False).own) (s':=s') (p':=o'+1) (φ:=fun p=>[(i,j)]++p.drop 1) (Ext:=fun p=>∃r,p=[(lo+i,j)]++r) ⟨fun p x ⟨r,hr⟩=>⟨r++[x],by rw[hr,List.append_assoc]⟩,fun p x ⟨r,hr⟩=>by rw[hr];simp,AOz.V f,fun b p base tip ⟨r,hr⟩ ho=>⟨by
              rw[Apz ho,hr]
              simp[T],rfl⟩⟩ ⟨[],by simp⟩
            simpa using this
          |brv=>omega
        · intro a b hne hf
          exact hf.retag fun _ q base tip t _ ht ⟨h1,h2⟩=>by
            have:=hT q base tip t ht
            exact hne ⟨h1.symm.trans this.1,by omega⟩
        · exact fun a b hh=>B8z _ _ σ a b (C7z s o a b) (LPz s o a b) hh
        · exact HSz (Gyz _ _ σ s o (C7z s o s o) (R2z s o)) fun a b hh=>B8z _ _ σ a b (C7z s o a b) (LPz s o a b) hh
      · rw[if_neg hk1]at he
        injection he with he;injection he with e1 e2;subst e1;subst e2
        refine⟨X.retag s o (fun _ _ _=>none) True,⟨Eoz _ True hc,(JUz h s o).weak fun _ _=> .inl,.sh f _ v (GIz trivial (fun _ _ _=>rfl) hv0),?_,?_,?_,fun _=>hfree.retag fun _ _ _ _ _ _ ht=>by simp at ht⟩,fun b s1 p q base tip h1 h2=>BEz h1 fun e=>h2 o [] kd lo f es rows (by rw[e.1])⟩
        · intro a b _ hf
          exact hf.retag fun _ _ _ _ _ _ ht=>by simp at ht
        · exact fun a b hh=>B8z _ _ σ a b (C9z s o a b) (I3z s o a b) hh
        · exact HSz (Gyz _ _ σ s o (C9z s o s o) (Ilz s o)) fun a b hh=>B8z _ _ σ a b (C9z s o a b) (I3z s o a b) hh
  · simp at he
inductive OCells (X:Ctx) (σ:St):List Value→List CV→Prop
 |nil:OCells X σ [] []
 |cons (v:Value) (c:CV) (vs:List Value) (l:List CV):OV X σ v c→OCells X σ vs l→OCells X σ (v::vs) (c::l)
theorem OCells.map {X X':Ctx} {σ σ':St} (H:∀v c,OV X σ v c→OV X' σ' v c):∀{vs:List Value} {l:List CV},OCells X σ vs l→OCells X' σ' vs l
 |_,_,.nil=> .nil
 |_,_,.cons v c vs l h t=> .cons v c vs l (H v c h) (OCells.map H t)
theorem OCells.length {X:Ctx} {σ:St}:∀{vs:List Value} {l:List CV},OCells X σ vs l→vs.length=l.length
 |_,_,.nil=>rfl
 |_,_,.cons v c vs l h t=>by simp[OCells.length t]
structure PersistedAll (X X':Ctx) (vs:List Value) (σ σ':St) (E:Nat→Nat→Prop) (s' j n:Nat) (vals:List Value) (l':List CV):Prop where
 goes:Goes X X'
 w:X'.w=X.w
 good:Good X' vs σ' (fun a b=>E a b∨(a=s'∧j≤b∧b<j+n))
 cells:CellsRel X' s' j vals l'
 len:l'.length=n
 free:∀s p,¬(s=s'∧j≤p∧p<j+n)→Free X s p→Free X' s p
 noOw:∀s p,(ABz σ s p).isOw=false→(ABz σ' s p).isOw=false
 ov:∀w d,OV X σ w d→OV X' σ' w d
 firm:∀k p v c,Firm σ k p c→CVRel X k p v c→CVRel X' k p v c
 size:σ'.length=σ.length
 tag:∀(p:Nat) (c:CV),l'[p]? =some c→c.isOw=false→Free X' s' (j+p)
theorem G0z {kp:Option Nat} {s' o':Nat} {c c':CV} {σ σ':St} (h:persist kp s' o' c σ=some (σ',c')):σ'.length=σ.length:=by
 unfold persist at h
 split at h
 ·injection h with h;injection h with h;subst h;rfl
 ·injection h with h;injection h with h;subst h;rfl
 ·split at h
  ·split at h
   ·injection h with h;injection h with h;subst h;rfl
   ·simp at h
  ·split at h
   ·split at h
    ·injection h with h;injection h with h;subst h;exact Arz _ _ _ _
    ·split at h
     ·injection h with h;injection h with h;subst h;exact Arz _ _ _ _
     ·injection h with h;injection h with h;subst h;exact Arz _ _ _ _
   ·simp at h
 ·simp at h
theorem Firm.keep {σ σ':St} (h:∀s p,(ABz σ s p).isOw=false→(ABz σ' s p).isOw=false) {k j:Nat} {c:CV} (hf:Firm σ k j c):Firm σ' k j c:=by
 cases c with
 |ow f es rows=>exact h _ _ hf
 |_=>exact hf
theorem SMz {X1 X2:Ctx} {σ1 σ2:St} {s' j:Nat} {v:Value} {c':CV} (h:CVRel X1 s' j v c') (hno:(ABz σ1 s' j).isOw=false) (hf:∀k p v c,Firm σ1 k p c→CVRel X1 k p v c→CVRel X2 k p v c) (ho:∀w d,OV X1 σ1 w d→OV X2 σ2 w d) (hk:Dgz σ2 c'=true):CVRel X2 s' j v c':=by
 cases c' with
 |sh f p=>exact hf _ _ _ _ trivial h
 |dead=>exact .dead v
 |ow f es rows=>exact hf _ _ _ _ hno h
 |br s o q kd lo f es rows=>
  rcases ho v _ (.inl (Itz h))with h1|⟨_,_,_,_,_,_,_,_,e,h1⟩
  ·exact h1 _ _
  ·cases e
   simp only[Dgz]at hk
   rw[hk]at h1;simp at h1
theorem GWz (vs:List Value) (kp:Option Nat) (s':Nat):∀{l:List CV} {vals:List Value} {X:Ctx} {σ σ':St} {E:Nat→Nat→Prop} {j:Nat} {l':List CV},Good X vs σ E→OCells X σ vals l→
  (∀p,j≤p→p<j+l.length→Free X s' p∧(ABz σ s' p).isOw=false)→ATz kp s' j l σ=some (σ',l')→∃X',PersistedAll X X' vs σ σ' E s' j l.length vals l':=by
 intro l
 induction l with
 |nil=>
  intro vals X σ σ' E j l' h ho hf he
  simp only[ATz]at he
  injection he with he;injection he with e1 e2;subst e1;subst e2
  cases ho
  exact⟨X,.refl X,rfl,h.weak fun _ _=> .inl,.nil j,rfl,fun _ _ _ h=>h,fun _ _ h=>h,fun _ _ h=>h,fun _ _ _ _ _ h=>h,rfl,fun p c hc=>by simp at hc⟩
 |cons c l ih=>
  intro vals X σ σ' E j l' h ho hf he
  cases ho with
  |cons v _ vals _ hov ho=>
  simp only[ATz]at he
  cases e1:persist kp s' j c σ with
  |none=>simp[e1]at he
  |some r=>
   obtain⟨σ1,c'⟩:=r
   simp only[e1,Option.bind_some]at he
   cases e2:ATz kp s' (j+1) l σ1 with
   |none=>simp[e2]at he
   |some q=>
    obtain⟨σ2,l2⟩:=q
    simp only[e2,Option.bind_some]at he
    split at he
    case isFalse=>simp at he
    rename_i hkept
    injection he with he;injection he with e3 e4;subst e3;subst e4
    obtain⟨X1,p1,_⟩:=F2z h hov (hf j (Nat.le_refl _) (by simp)).1 e1
    obtain⟨X2,p2⟩:=ih p1.good (ho.map p1.ov) (fun p h1 h2=>⟨p1.free _ _ (by omega) (hf p (by omega) (by simp;omega)).1,p1.noOw _ _ (hf p (by omega) (by simp;omega)).2⟩) e2
    refine⟨X2,p1.laid.goes.trans p2.goes,p2.w.trans p1.laid.w,p2.good.weak ?_,?_,by simp[p2.len],?_,fun s p h=>p2.noOw _ _ (p1.noOw _ _ h),fun w d h=>p2.ov _ _ (p1.ov _ _ h),?_,p2.size.trans (G0z e1),?_⟩
    ·rintro a b ((h1|⟨rfl,rfl⟩)|⟨rfl,h1,h2⟩)
     ·exact .inl h1
     ·exact .inr ⟨rfl,Nat.le_refl _,by simp⟩
     ·exact .inr ⟨rfl,by omega,by simp;omega⟩
    ·exact .cons j v c' vals l2 (SMz p1.cv (p1.noOw _ _ (hf j (Nat.le_refl _) (by simp)).2) p2.firm p2.ov hkept) p2.cells
    ·intro s p hne hfr
     refine p2.free s p (fun h3=>hne ⟨h3.1,by omega,by simp;omega⟩) (p1.free s p (fun h3=>hne ⟨h3.1,by omega,by simp;omega⟩) hfr)
    ·intro k p v1 c1 hfm h1
     exact p2.firm k p v1 c1 (hfm.keep p1.noOw) (p1.laid.cv hfm h1)
    ·intro p c1 h1 h2
     cases p with
     |zero=>
      simp at h1;subst h1
      exact p2.free _ _ (by omega) (p1.tag h2)
     |succ p=>
      have:=p2.tag p c1 (by simpa using h1) h2
      rw[show j+(p+1)=j+1+p from by omega]
      exact this
end Go.Proofs.YtblelojdboefjaaGreatDoor.R
namespace Go.Proofs.YtblelojdboefjaaGreatDoor.R
open Go
theorem Rd.scalar {h:Array Obj} {V V':Nat→Prop} {v:Value} {p:PV} (r:Rd h V v p) (hp:p.scalar=true):Rd h V' v p:=by
 cases r with
 |i k n=>exact .i k n
 |b x=>exact .b x
 |t s=>exact .t s
 |s0=>simp[PV.scalar]at hp
 |s=>simp[PV.scalar]at hp
 |x=>simp[PV.scalar]at hp
inductive RdL (X:Ctx) (f:Bool):List Value→List PV→Prop
 |nil:RdL X f [] []
 |cons (v:Value) (p:PV) (vs:List Value) (ps:List PV):Rd X.w.heap (X.V f) v p→RdL X f vs ps→RdL X f (v::vs) (p::ps)
theorem RdL.mono {X X':Ctx} {f f':Bool} (H:∀b,X.V f b→X'.V f' b∧X'.w.heap[b]? =X.w.heap[b]?):∀{vs:List Value} {ps:List PV},RdL X f vs ps→RdL X' f' vs ps
 |_,_,.nil=> .nil
 |_,_,.cons v p vs ps h t=> .cons v p vs ps (h.mono H) (RdL.mono H t)
theorem RdL.length {X:Ctx} {f:Bool}:∀{vs:List Value} {ps:List PV},RdL X f vs ps→vs.length=ps.length
 |_,_,.nil=>rfl
 |_,_,.cons v p vs ps h t=>by simp[RdL.length t]
structure Kept (X X':Ctx) (vs:List Value) (σ σ':St) (E:Nat→Nat→Prop):Prop where
 goes:Goes X X'
 w:X'.w=X.w
 good:Good X' vs σ' E
 free:∀s p,Free X s p→Free X' s p
 noOw:∀s p,(ABz σ s p).isOw=false→(ABz σ' s p).isOw=false
 ov:∀w d,OV X σ w d→OV X' σ' w d
 firm:∀k p v c,Firm σ k p c→CVRel X k p v c→CVRel X' k p v c
 V:∀f b,X.V f b→X'.V f b
 size:σ'.length=σ.length
 sub:∀b t,X'.own b=some t→X.own b=some t
theorem Kept.refl {X:Ctx} {vs:List Value} {σ:St} {E:Nat→Nat→Prop} (h:Good X vs σ E):Kept X X vs σ σ E:=⟨.refl X,rfl,h,fun _ _ h=>h,fun _ _ h=>h,fun _ _ h=>h,fun _ _ _ _ _ h=>h,fun _ _ h=>h,rfl,fun _ _ h=>h⟩
theorem Kept.trans {X Y Z:Ctx} {vs:List Value} {σ τ ρ:St} {E:Nat→Nat→Prop} (a:Kept X Y vs σ τ E) (b:Kept Y Z vs τ ρ E):Kept X Z vs σ ρ E:=
  ⟨a.goes.trans b.goes,b.w.trans a.w,b.good,fun s p h=>b.free s p (a.free s p h),fun s p h=>b.noOw s p (a.noOw s p h),fun w d h=>b.ov w d (a.ov w d h),fun k p v c hf h=>b.firm k p v c (hf.keep a.noOw) (a.firm k p v c hf h),
   fun f k h=>b.V f k (a.V f k h),b.size.trans a.size,fun k t h=>a.sub k t (b.sub k t h)⟩
theorem EAz {X:Ctx} {vs:List Value} {σ:St} {E:Nat→Nat→Prop} (h:Good X vs σ E) {s o:Nat} (hc:(ABz σ s o).isOw=true):Kept X (X.retag s o (fun _ _ _=>none) True) vs σ (demote s o σ) E where
 goes:=CTz X s o _ True
 w:=rfl
 good:=JUz h s o
 free:=fun a b hf=>hf.retag fun _ _ _ _ _ _ ht=>by simp at ht
 noOw:=fun a b hh=>B8z _ _ σ a b (C9z s o a b) (I3z s o a b) hh
 ov:=HSz (Gyz _ _ σ s o (C9z s o s o) (Ilz s o)) fun a b hh=>B8z _ _ σ a b (C9z s o a b) (I3z s o a b) hh
 firm:=fun k p v c hf h=>(Eoz _ True hc).cv hf h
 V:=fun f b h=>(AOz.V f b h).1
 size:=Arz _ _ _ _
 sub:=fun b t h=>by
  rcases Akz h with⟨h1,_⟩|⟨_,_,_,_,h2⟩
  ·exact h1
  ·simp at h2
theorem R7z {X:Ctx} {vs:List Value} {σ σ':St} {E:Nat→Nat→Prop} {v:Value} {c:CV} {f:Bool} {p:PV} (h:Good X vs σ E) (hov:OV X σ v c) (he:nest c σ=some (σ',f,p)):
  ∃X',Kept X X' vs σ σ' E∧Rd X'.w.heap (X'.V f) v p:=by
 unfold nest at he
 split at he
 ·rename_i f0 p0
  injection he with he;injection he with e1 he;injection he with e2 e3;subst e1;subst e2;subst e3
  refine⟨X,.refl h,?_⟩
  have hv:=hov.resolve_right (by rintro⟨_,_,_,_,_,_,_,_,h,_⟩;cases h) 0 0
  cases hv with
  |sh _ _ _ hv=>
   cases hs:p0.scalar with
   |true=>exact hv.scalar hs
   |false=>simpa[hs]using hv
 ·rename_i f0 es
  injection he with he;injection he with e1 he;injection he with e2 e3;subst e1;subst e2;subst e3
  have hv:=hov.resolve_right (by rintro⟨_,_,_,_,_,_,_,_,h,_⟩;cases h)
  obtain⟨_,a,rfl⟩:=Dvz fun k=>hv k 0
  exact⟨X,.refl h,.s0 a 0 es⟩
 ·rename_i s o q kd lo f0 es rows
  by_cases hc:(ABz σ s o).isOw=true
  case neg=>rw[if_neg hc]at he;simp at he
  rw[if_pos hc]at he
  injection he with he;injection he with e1 he;injection he with e2 e3;subst e1;subst e2;subst e3
  have hv0:=hov.resolve_right (by rintro⟨_,_,_,_,_,_,_,_,h,h1⟩;cases h;simp[hc]at h1) 0 0
  exact⟨_,EAz h hc,GIz trivial (fun _ _ _=>rfl) hv0⟩
 ·simp at he
theorem F8z (vs:List Value):∀{l:List CV} {vals:List Value} {X:Ctx} {σ σ':St} {E:Nat→Nat→Prop} {f:Bool} {ps:List PV} {m:CV→CV},Good X vs σ E→OCells X σ vals (l.map m)→
  Aiz none m l σ=some (σ',f,ps)→∃X',Kept X X' vs σ σ' E∧RdL X' f vals ps:=by
 intro l
 induction l with
 |nil=>
  intro vals X σ σ' E f ps m h ho he
  simp only[Aiz]at he
  injection he with he;injection he with e1 he;injection he with e2 e3;subst e1;subst e2;subst e3
  cases ho
  exact⟨X,.refl h,.nil⟩
 |cons c l ih=>
  intro vals X σ σ' E f ps m h ho he
  cases ho with
  |cons v _ vals _ hov ho=>
  simp only[Aiz]at he
  cases e1:nest (m c) σ with
  |none=>simp[e1]at he
  |some r=>
   obtain⟨σ1,f1,p1⟩:=r
   simp only[e1,Option.bind_some]at he
   cases e2:Aiz none m l σ1 with
   |none=>simp[e2]at he
   |some q=>
    obtain⟨σ2,f2,ps2⟩:=q
    simp only[e2,Option.map_some]at he
    injection he with he;injection he with e3 he;injection he with e4 e5;subst e3;subst e4;subst e5
    obtain⟨X1,k1,r1⟩:=R7z h hov e1
    obtain⟨X2,k2,r2⟩:=ih k1.good (ho.map k1.ov) e2
    refine⟨X2,k1.trans k2,.cons v p1 vals ps2 (r1.mono fun b hb=>⟨V_or f2 (k2.V f1 b hb),by rw[k2.w]⟩) (r2.mono fun b hb=>⟨Etz f1 hb,rfl⟩)⟩
def Tgt.pl (g:Tgt):Path:=g.q++[(g.i,g.j)]
structure KeptM (X X':Ctx) (vs:List Value) (σ σ':St) (E:Nat→Nat→Prop) (s' o':Nat) (P:Path→Prop) (m:CV→CV):Prop where
 goes:Goes X X'
 w:X'.w=X.w
 good:Good X' vs σ' (fun a b=>E a b∨(a=s'∧b=o'))
 free:∀s p,¬(s=s'∧p=o')→Free X s p→Free X' s p
 tgf:∀b q base tip,X'.own b=some (s',o'+1,q,base,tip)→X.own b=some (s',o'+1,q,base,tip)∨P q
 noOw:∀s p,(ABz σ s p).isOw=false→(ABz σ' s p).isOw=false
 ov:∀w d,OV X σ w d→OV X' σ' w (m d)
 firm:∀k p v c,Firm σ k p c→CVRel X k p v c→CVRel X' k p v c
 V:∀f b,X.V f b→X'.V f b
 tgt:∀b q base tip,X.own b=some (s',o'+1,q,base,tip)→X'.own b=some (s',o'+1,q,base,tip)
 size:σ'.length=σ.length
theorem KeptM.same {X:Ctx} {vs:List Value} {σ:St} {E:Nat→Nat→Prop} (s' o':Nat) (P:Path→Prop) (h:Good X vs σ E):KeptM X X vs σ σ E s' o' P id:=
 ⟨.refl X,rfl,h.weak fun _ _=> .inl,fun _ _ _ h=>h,fun _ _ _ _ h=> .inl h,fun _ _ h=>h,fun _ _ h=>h,fun _ _ _ _ _ h=>h,fun _ _ h=>h,fun _ _ _ _ h=>h,rfl⟩
theorem KeptM.ord {X X':Ctx} {vs:List Value} {σ σ':St} {E:Nat→Nat→Prop} {s' o':Nat} {P:Path→Prop} {m:CV→CV} (k:KeptM X X' vs σ σ' E s' o' P m) {f:Bool} {q:Path} {v:Value} {x:PV} (h:X.ORd f s' o' q v x):X'.ORd f s' o' q v x:=
 h.mono (fun b hb=>⟨k.V f b hb,by rw[k.w]⟩) fun b q base tip ho=>⟨k.tgt b q base tip ho,by rw[k.w]⟩
theorem Ctz {s o:Nat} {q:Path} {s' o':Nat} {q' p:Path} {base tip:Nat} {t:Own} (h:reroot s o q s' o' q' p base tip=some t):(∃r,p=q++r∧t=(s',o'+1,q'++r,base,tip))∨(q≠[]∧(∀r,p≠q++r)∧t=(s,o+1,p,base,tip)):=by
 unfold reroot at h
 split at h
 ·rename_i r hr
  injection h with h
  exact .inl ⟨r,CBz hr,h.symm⟩
 ·rename_i hr
  injection h with h
  refine .inr ⟨fun e=> ?_,fun r=>KCz hr,h.symm⟩
  subst e
  simp[strip]at hr
theorem Vmz {X:Ctx} (hi:Inv X) {s o:Nat} {q:Path} {s' o':Nat} {q':Path} (hne:¬(s=s'∧o=o')) (hfree:∀r b base tip,X.own b≠some (s',o'+1,q'++r,base,tip)):Inv (X.retag s o (reroot s o q s' o' q') False):=by
 refine hi.retag ?_ ?_
 ·intro p base tip s1 p1 q1 base1 tip1 h hn b base2 tip2
  rcases Ctz h with⟨r,_,h⟩|⟨_,_,h⟩
  ·injection h with h1 h;injection h with h2 h;injection h with h3 _
   subst h1;subst h2;subst h3
   exact hfree r b base2 tip2
  ·injection h with h1 h;injection h with h2 h
   exact absurd ⟨h1,h2⟩ hn
 ·intro b1 b2 q1 base1 tip1 q2 base2 tip2 s1 p1 q3 base3 tip3 base4 tip4 _ _ h1 h2
  rcases Ctz h1 with⟨r1,e1,h1⟩|⟨_,_,h1⟩
  ·rcases Ctz h2 with⟨r2,e2,h2⟩|⟨_,_,h2⟩
   ·injection h1 with _ h1;injection h1 with _ h1;injection h1 with h1 _
    injection h2 with _ h2;injection h2 with _ h2;injection h2 with h2 _
    have:=List.append_cancel_left (h1.symm.trans h2)
    rw[e1,e2,this]
   ·injection h1 with h1 h3;injection h3 with h3 _
    injection h2 with h2 h4;injection h4 with h4 _
    exact absurd ⟨h2.symm.trans h1,by omega⟩ hne
  ·rcases Ctz h2 with⟨r2,e2,h2⟩|⟨_,_,h2⟩
   ·injection h1 with h1 h3;injection h3 with h3 _
    injection h2 with h2 h4;injection h4 with h4 _
    exact absurd ⟨h1.symm.trans h2,by omega⟩ hne
   ·injection h1 with _ h1;injection h1 with _ h1;injection h1 with h1 _
    injection h2 with _ h2;injection h2 with _ h2;injection h2 with h2 _
    rw[←h1,←h2]
theorem VWz {X:Ctx} {σ σ':St} {s o:Nat} {q:Path} {s' o':Nat} {q':Path} (hc:(ABz σ s o).isOw=true) (hn:∀a b,(ABz σ a b).isOw=false→(ABz σ' a b).isOw=false) (w:Value) (d:CV) (h:OV X σ w d):
  OV (X.retag s o (reroot s o q s' o' q') False) σ' w (mvpL s o q s' o' q' d):=by
 rcases h with h|⟨s1,o1,q1,kd,lo,f,es,rows,rfl,h⟩
 ·left
  cases d with
  |sh f p=>intro k j;have:=h k j;cases this with|sh _ _ _ h1=>exact .sh f p w (AOz.sh h1)
  |dead=>intro k j;exact .dead w
  |ow f es rows=>
   intro k j
   obtain⟨rfl,a,rfl⟩:=Dvz fun k=>h k 0
   exact .ow0 f es a
  |br s1 o1 q1 kd lo f es rows=>intro k j;exact(NWz X s o q s' o' q').cv k j w _ (h k j)
 ·right
  have hne:¬(s1=s∧o1=o):=by rintro⟨rfl,rfl⟩;rw[hc]at h;simp at h
  refine⟨s1,o1,q1,kd,lo,f,es,rows,?_,hn _ _ h⟩
  simp only[mvpL]
  rw[if_neg hne]
theorem Nkz {X:Ctx} {vs:List Value} {σ:St} {E:Nat→Nat→Prop} (h:Good X vs σ E) {s o:Nat} {q:Path} {s' o':Nat} {q':Path} (hc:(ABz σ s o).isOw=true) (hne:¬(s=s'∧o=o'))
  (hfree:∀r b base tip,X.own b≠some (s',o'+1,q'++r,base,tip)):KeptM X (X.retag s o (reroot s o q s' o' q') False) vs σ (mvp s o q s' o' q' σ) E s' o' (fun p=>∃r,p=q'++r) (mvpL s o q s' o' q')where
 goes:=CTz X s o _ False
 w:=rfl
 good:=⟨Vmz h.inv hne hfree,h.frame.map (NWz X s o q s' o' q'),DEz h.tags (IVz s o q s' o' q') (fun k j c hc hn=>VYz hc hn) fun p base tip t ht=>by
  rcases Ctz ht with⟨r,_,e⟩|⟨hq,_,e⟩
  ·subst e;exact .inl ⟨rfl,rfl⟩
  ·subst e
   refine .inr ⟨rfl,rfl,fun c hc=> ?_⟩
   cases q with
   |nil=>exact absurd rfl hq
   |cons a q=>
    cases c with
    |ow f es rows=>simp only[mvpC,and_self,if_true];exact ISz _ _ _ _ _ _
    |_=>simp[CV.isOw]at hc⟩
 free:=fun a b hn hf=>hf.retag fun k p base tip t hk ht ⟨h1,h2⟩=>by
  rcases Ctz ht with⟨r,_,e⟩|⟨hq,_,e⟩
  ·subst e;exact hn ⟨h1.symm,by simpa using h2.symm⟩
  ·subst e
   simp only at h1 h2
   have h2:o=b:=by omega
   subst h1;subst h2
   exact hf _ _ _ _ hk
 tgf:=fun b p base tip ho=>by
  rcases Akz ho with⟨h1,_⟩|⟨p',base',tip',h1,h2⟩
  ·exact .inl h1
  ·rcases Ctz h2 with⟨r,_,e⟩|⟨_,_,e⟩
   ·injection e with _ e;injection e with _ e;injection e with e _
    exact .inr ⟨r,e⟩
   ·injection e with e1 e;injection e with e2 e
    exact absurd ⟨e1.symm,by omega⟩ hne
 noOw:=fun a b hh=>B8z _ _ σ a b (IVz s o q s' o' q' a b) (Pgz s o q s' o' q' a b) hh
 ov:=VWz hc fun a b hh=>B8z _ _ σ a b (IVz s o q s' o' q' a b) (Pgz s o q s' o' q' a b) hh
 firm:=fun k p v c hf h=>(Eoz _ False hc).cv hf h
 V:=fun f b h=>(AOz.V f b h).1
 tgt:=fun b p base tip ho=>BEz ho fun e=>hne ⟨e.1.symm,by omega⟩
 size:=Arz _ _ _ _
theorem Qez {X:Ctx} {vs:List Value} {σ σ':St} {E:Nat→Nat→Prop} {tg:Tgt} {v:Value} {c:CV} {m:CV→CV} {f:Bool} {p:PV} (h:Good X vs σ E) (hov:OV X σ v c) (hfree:∀r b base tip,X.own b≠some (tg.s,tg.o+1,tg.pl++r,base,tip))
  (he:Cmz tg c σ=some (σ',m,f,p)):∃X',KeptM X X' vs σ σ' E tg.s tg.o (fun p=>∃r,p=tg.pl++r) m∧X'.ORd f tg.s tg.o tg.pl v p:=by
 unfold Cmz at he
 split at he
 ·rename_i f0 p0
  injection he with he;injection he with e1 he;injection he with e0 he;injection he with e2 e3;subst e1;subst e0;subst e2;subst e3
  refine⟨X,.same _ _ _ h,.rd _ _ _ ?_⟩
  have hv:=hov.resolve_right (by rintro⟨_,_,_,_,_,_,_,_,h,_⟩;cases h) 0 0
  cases hv with
  |sh _ _ _ hv=>
   cases hs:p0.scalar with
   |true=>exact hv.scalar hs
   |false=>simpa[hs]using hv
 ·rename_i f0 es
  injection he with he;injection he with e1 he;injection he with e0 he;injection he with e2 e3;subst e1;subst e0;subst e2;subst e3
  have hv:=hov.resolve_right (by rintro⟨_,_,_,_,_,_,_,_,h,_⟩;cases h)
  obtain⟨_,a,rfl⟩:=Dvz fun k=>hv k 0
  exact⟨X,.same _ _ _ h,.o0 _ a es⟩
 ·rename_i s o q kd lo f0 es rows
  split at he
  case isFalse=>simp at he
  rename_i hcond
  obtain⟨hc,hne⟩:=hcond
  have hv0:=hov.resolve_right (by rintro⟨_,_,_,_,_,_,_,_,h,h1⟩;cases h;simp[hc]at h1) 0 0
  split at he
  ·rename_i hk
   injection he with he;injection he with e1 he;injection he with e0 he;injection he with e2 e3;subst e1;subst e0;subst e2;subst e3
   subst hk
   refine⟨_,Nkz h hc hne hfree,?_⟩
   have:=(OTz hv0).turns (H9z (s':=tg.s) (o':=tg.o) (q':=tg.pl) (q:=q) _) ⟨[],by simp⟩
   simp only[List.drop_length,List.append_nil]at this
   exact this
  ·injection he with he;injection he with e1 he;injection he with e0 he;injection he with e2 e3;subst e1;subst e0;subst e2;subst e3
   have k:=EAz h hc
   refine⟨_,⟨k.goes,k.w,k.good.weak fun _ _=> .inl,fun s p _ h=>k.free s p h,fun b q base tip ho=> ?_,k.noOw,k.ov,k.firm,k.V,fun b q base tip ho=>BEz ho fun e=>hne ⟨e.1.symm,by omega⟩,k.size⟩,.rd _ _ _ (GIz trivial (fun _ _ _=>rfl) hv0)⟩
   rcases Akz ho with⟨h1,_⟩|⟨p',base',tip',h1,h2⟩
   ·exact .inl h1
   ·simp at h2
 ·simp at he
def OLs (X:Ctx) (f:Bool) (s o:Nat) (q:Path) (i j:Nat) (vals:List Value) (ps:List PV):Prop:=
 vals.length=ps.length∧∀(n:Nat) (v:Value) (p:PV),vals[n]? =some v→ps[n]? =some p→X.ORd f s o (q++[(i,j+n)]) v p
theorem RdL.getV {X:Ctx} {f:Bool}:∀{vs:List Value} {ps:List PV},RdL X f vs ps→∀(n:Nat) (v:Value) (p:PV),vs[n]? =some v→ps[n]? =some p→Rd X.w.heap (X.V f) v p
 |_,_,.nil,n,v,p,h,_=>by simp at h
 |_,_,.cons v0 p0 vs ps h t,n,v,p,h1,h2=>by
  cases n with
  |zero=>simp at h1 h2;subst h1;subst h2;exact h
  |succ n=>exact RdL.getV t n v p (by simpa using h1) (by simpa using h2)
theorem RdL.ols {X:Ctx} {f:Bool} {vs:List Value} {ps:List PV} (h:RdL X f vs ps) (s o:Nat) (q:Path) (i j:Nat):OLs X f s o q i j vs ps:=⟨h.length,fun n v p h1 h2=> .rd _ _ _ (h.getV n v p h1 h2)⟩
theorem G1z (vs:List Value):∀{l:List CV} {vals:List Value} {X:Ctx} {σ σ':St} {E:Nat→Nat→Prop} {f:Bool} {ps:List PV} {m:CV→CV} {tg:Tgt},Good X vs σ E→OCells X σ vals (l.map m)→
  (∀n r b base tip,n<l.length→X.own b≠some (tg.s,tg.o+1,tg.q++[(tg.i,tg.j+n)]++r,base,tip))→
  Aiz (some tg) m l σ=some (σ',f,ps)→∃X' m',KeptM X X' vs σ σ' E tg.s tg.o (fun p=>∃n r,n<l.length∧p=tg.q++[(tg.i,tg.j+n)]++r) m'∧OLs X' f tg.s tg.o tg.q tg.i tg.j vals ps:=by
 intro l
 induction l with
 |nil=>
  intro vals X σ σ' E f ps m tg h ho hfree he
  simp only[Aiz]at he
  injection he with he;injection he with e1 he;injection he with e2 e3;subst e1;subst e2;subst e3
  cases ho
  exact⟨X,id,.same _ _ _ h,rfl,fun n v p h=>by simp at h⟩
 |cons c l ih=>
  intro vals X σ σ' E f ps m tg h ho hfree he
  cases ho with
  |cons v _ vals _ hov ho=>
  simp only[Aiz]at he
  cases e1:Cmz tg (m c) σ with
  |none=>simp[e1]at he
  |some r=>
   obtain⟨σ1,m1,f1,p1⟩:=r
   simp only[e1,Option.bind_some]at he
   cases e2:Aiz (some tg.next) (fun x=>m1 (m x)) l σ1 with
   |none=>simp[e2]at he
   |some q=>
    obtain⟨σ2,f2,ps2⟩:=q
    simp only[e2,Option.map_some]at he
    injection he with he;injection he with e3 he;injection he with e4 e5;subst e3;subst e4;subst e5
    obtain⟨X1,k1,r1⟩:=Qez h hov (fun r b base tip=>by simpa[Tgt.pl]using hfree 0 r b base tip (by simp)) e1
    have ho1:OCells X1 σ1 vals (l.map fun x=>m1 (m x)):=by
     have:OCells X1 σ1 vals ((l.map m).map m1):=by
      clear e2 ih
      generalize l.map m=l1 at ho
      induction ho with
      |nil=>exact .nil
      |cons v c vs l h t ih=>exact .cons v _ vs _ (k1.ov _ _ h) ih
     simpa[List.map_map,Function.comp_def]using this
    obtain⟨X2,m2,k2,r2⟩:=ih (tg:=tg.next) k1.good ho1 (fun n r b base tip hn hb=>by
     simp only[Tgt.next]at hb
     rcases k1.tgf _ _ _ _ hb with h1|⟨r',h1⟩
     ·exact hfree (n+1) r b base tip (by simp;omega) (by rw[show tg.j+(n+1)=tg.j+1+n from by omega];exact h1)
     ·simp only[Tgt.pl,List.append_assoc]at h1
      have:=List.append_cancel_left h1
      simp at this
      omega) e2
    simp only[Tgt.next]at k2 r2
    refine⟨X2,fun d=>m2 (m1 d),⟨k1.goes.trans k2.goes,k2.w.trans k1.w,k2.good.weak fun a b h=>by rcases h with h|h<;>simp[h],fun s p hn h=>k2.free s p hn (k1.free s p hn h),?_,fun s p h=>k2.noOw s p (k1.noOw s p h),fun w d h=>k2.ov w _ (k1.ov w d h),fun k p v c hf h=>k2.firm k p v c (hf.keep k1.noOw) (k1.firm k p v c hf h),fun f b h=>k2.V f b (k1.V f b h),fun b q base tip h=>k2.tgt b q base tip (k1.tgt b q base tip h),k2.size.trans k1.size⟩,?_,?_⟩
    ·intro b p base tip hb
     rcases k2.tgf _ _ _ _ hb with h1|⟨n,r,hn,h1⟩
     ·rcases k1.tgf _ _ _ _ h1 with h2|⟨r,h2⟩
      ·exact .inl h2
      ·exact .inr ⟨0,r,by simp,by simpa[Tgt.pl]using h2⟩
     ·exact .inr ⟨n+1,r,by simp;omega,by rw[h1,show tg.j+1+n=tg.j+(n+1)from by omega]⟩
    ·simp[r2.1]
    ·intro n v' p' hv hp
     cases n with
     |zero=>
      simp at hv hp
      subst hv;subst hp
      have:=k2.ord r1
      exact this.mono (fun b hb=>⟨V_or f2 hb,rfl⟩) fun b q base tip ho=>⟨ho,rfl⟩
     |succ n=>
      have:=r2.2 n v' p' (by simpa using hv) (by simpa using hp)
      rw[show tg.j+(n+1)=tg.j+1+n from by omega]
      exact this.mono (fun b hb=>⟨Etz f1 hb,rfl⟩) fun b q base tip ho=>⟨ho,rfl⟩
theorem E8z (vs:List Value) (s:Nat):∀(n:Nat) {X:Ctx} {σ:St} {E:Nat→Nat→Prop} (j:Nat),Good X vs σ E→
  ∃X',Kept X X' vs σ (Abz s j n σ) E∧∀p,j≤p→p<j+n→(ABz (Abz s j n σ) s p).isOw=false:=by
 intro n
 induction n with
 |zero=>intro X σ E j h;exact⟨X,.refl h,fun p h1 h2=>by omega⟩
 |succ n ih=>
  intro X σ E j h
  simp only[Abz]
  cases hc:(ABz σ s j).isOw with
  |false=>
   simp only[Bool.false_eq_true,if_false]
   obtain⟨X1,k1,h1⟩:=ih (j+1) h
   refine⟨X1,k1,fun p h2 h3=> ?_⟩
   by_cases hp:p=j
   ·subst hp;exact k1.noOw _ _ hc
   ·exact h1 p (by omega) (by omega)
  |true=>
   simp only[if_true]
   have k0:=EAz h hc
   obtain⟨X1,k1,h1⟩:=ih (j+1) k0.good
   refine⟨X1,k0.trans k1,fun p h2 h3=> ?_⟩
   by_cases hp:p=j
   ·subst hp;exact k1.noOw _ _ (Gyz _ _ σ s p (C9z s p s p) (Ilz s p))
   ·exact h1 p (by omega) (by omega)
theorem Dzz {X:Ctx} {vs:List Value} {σ:St} (h:Good X vs σ NoE) {s p:Nat} (hn:(ABz σ s p).isOw=false):Free X s p:=fun b q base tip e=>by
 rcases h.tags.cell _ _ _ _ _ _ e with h1|h1
 ·exact h1
 ·simp[hn]at h1
def Ctx.unbox (X:Ctx) (d:Nat):Ctx:=
 {X with own:=fun b=>match X.own b with
   |some (s,p,t)=>if s=d∧p=0 then none else some (s,p,t)
   |none=>none}
theorem Daz {X:Ctx} {d b:Nat} {t:Own} (h:(X.unbox d).own b=some t):X.own b=some t∧¬(t.1=d∧t.2.1=0):=by
 simp only[Ctx.unbox]at h
 cases e:X.own b with
 |none=>simp[e]at h
 |some t'=>
  obtain⟨s,p,u⟩:=t'
  simp only[e]at h
  by_cases hk:s=d∧p=0
  ·rw[if_pos hk]at h;simp at h
  ·rw[if_neg hk]at h
   injection h with h
   subst h
   exact⟨rfl,hk⟩
theorem DDz {X:Ctx} {d b:Nat} {t:Own} (h:X.own b=some t) (hn:¬(t.1=d∧t.2.1=0)):(X.unbox d).own b=some t:=by
 obtain⟨s,p,u⟩:=t
 simp only[Ctx.unbox,h]
 rw[if_neg hn]
theorem Qwz (X:Ctx) (d:Nat):Goes X (X.unbox d)where
 os:=rfl
 tape:=rfl
 output:=rfl
 size:=Nat.le_refl _
 keep:=fun _ _ _=>rfl
 va:=rfl
 vs:=fun _ h=>h
 vs':=fun _ h=> .inl h
 own':=fun b h=>by
  refine .inl fun e=>h ?_
  simp[Ctx.unbox,e]
theorem STz {X:Ctx} (h:Inv X) (d:Nat):Inv (X.unbox d)where
 own:=fun b t h1=>h.own b t (Daz h1).1
 one:=fun b b' s o q base tip base' tip' h1 h2=>h.one _ _ _ _ _ _ _ _ _ (Daz h1).1 (Daz h2).1
 vs:=h.vs
 va:=h.va
theorem H8z {X:Ctx} {d:Nat} (s o:Nat):∀b q base tip,X.own b=some (s,o+1,q,base,tip)→(X.unbox d).own b=some (s,o+1,q,base,tip)∧(X.unbox d).w.heap[b]? =X.w.heap[b]? :=fun b q base tip h=>⟨DDz h (by simp),rfl⟩
theorem Ucz {X:Ctx} {d k j:Nat} {v:Value} {c:CV} (h:CVRel X k j v c):CVRel (X.unbox d) k j v c:=by
 cases h with
 |sh f p v h=>exact .sh f p v h
 |ow0 f es a=>exact .ow0 f es a
 |ow f es rows v blk off cap c elem fr h=>exact .ow f es rows v blk off cap c elem fr ⟨h.val,h.le,DDz h.own (by simp),h.cells,h.fits,h.loose,h.reads.mono (fun b hb=>⟨hb,rfl⟩) (H8z _ _)⟩
 |br0 s o q kd lo f es a=>exact .br0 s o q kd lo f es a
 |br s o q kd lo f es rows v blk base tip cap c elem fr h=>exact .br s o q kd lo f es rows v blk base tip cap c elem fr ⟨h.val,h.le,DDz h.own (by simp),h.cells,h.fits,h.loose,h.tipLe,h.tip1,h.lo0,h.reads.mono (fun b hb=>⟨hb,rfl⟩) (H8z _ _)⟩
 |brv s o q lo f es rows v h=>exact .brv s o q lo f es rows v (h.mono (fun b hb=>⟨hb,rfl⟩) (H8z _ _))
 |dead v=>exact .dead v
theorem Gwz {X:Ctx} {d k:Nat}:∀{j:Nat} {vs:List Value} {l:List CV},CellsRel X k j vs l→CellsRel (X.unbox d) k j vs l
 |_,_,_,.nil j=> .nil j
 |_,_,_,.cons j v cv vs l h t=> .cons j v cv vs l (Ucz h) (Gwz t)
theorem Wtz {X:Ctx} {d k:Nat} {v:Value} {sv:SV} (h:SVRel X k v sv) (hk:k≠d):SVRel (X.unbox d) k v (sv.cut d):=by
 cases h with
 |undef v=>exact .undef v
 |c sh v vs l hf hc=>exact .c sh v vs l hf (Gwz hc)
 |box blk base tip c elem fr l ho hb hfr hc=>exact .box blk base tip c elem fr l (DDz ho fun h=>hk h.1) hb hfr (Gwz hc)
 |bp s o blk base tip ho=>
  simp only[SV.cut]
  split
  ·exact .undef _
  ·rename_i hne;exact .bp s o blk base tip (DDz ho fun h=>hne h.1)
 |ep s o q kd fl es i f row blk off base tip c elem fr ho he hl hb hfr hr=>exact .ep s o q kd fl es i f row blk off base tip c elem fr (DDz ho (by simp)) he hl hb hfr (hr.mono (fun b hb=>⟨hb,rfl⟩) (H8z _ _))
 |epv s o q fl es i f row blk off c elem fr hv hb hr=>exact .epv s o q fl es i f row blk off c elem fr hv hb (hr.mono (fun b hb=>⟨hb,rfl⟩) (H8z _ _))
 |sp fl row f blk off c elem fr hv hb hr=>exact .sp fl row f blk off c elem fr hv hb hr
 |fn g caps cs hs hc=>
  simp only[SV.cut]
  split
  ·exact .undef _
  ·rename_i hne
   refine .fn g caps cs hs fun i v s h1 h2=> ?_
   obtain⟨blk,base,tip,e,ho⟩:=hc i v s h1 h2
   refine⟨blk,base,tip,e,DDz ho fun h=>hne ?_⟩
   have:=List.mem_of_getElem? h2
   have e2:s=d:=h.1
   rw[e2]at this
   simpa using this
structure Cleared (X X':Ctx) (vs:List Value) (σ σ':St) (d:Nat):Prop where
 goes:Goes X X'
 w:X'.w=X.w
 good:Good X' vs σ' NoE
 free:∀p,Free X' d p
 noBox:∀b q base tip,X'.own b≠some (d,0,q,base,tip)
 size:σ'.length=σ.length
 noOw:∀p,(ABz σ' d p).isOw=false
 noBx:∀l,σ'[d]? ≠some (.c .box l)
theorem Blz {σ:St} {s p:Nat} {sh:Shape} {l:List CV} (h:σ[s]? =some (.c sh l)):ABz σ s p=l.getD p .dead:=by
 unfold ABz
 simp[List.getD_eq_getElem?_getD,h]
theorem RBz {σ:St} {d:Nat} {s p:Nat} (hs:s≠d):ABz ((σ.map (SV.cut d)).set d .undef) s p=ABz σ s p:=by
 unfold ABz
 simp only[List.getD_eq_getElem?_getD]
 rw[List.getElem?_set_ne (Ne.symm hs),List.getElem?_map]
 cases σ[s]? with
 |none=>rfl
 |some x=>
  cases x with
  |bp a b=>simp only[Option.map_some,Option.getD_some,SV.cut];by_cases h:a=d<;>simp[h]
  |fn g caps=>simp only[Option.map_some,Option.getD_some,SV.cut];by_cases h:caps.contains d=true<;>simp only[h,if_true,Bool.false_eq_true,if_false]
  |_=>rfl
theorem Cwz {σ:St} {s p:Nat} (h:∀sh l,σ[s]? ≠some (.c sh l)):ABz σ s p= .dead:=by
 unfold ABz
 simp only[List.getD_eq_getElem?_getD]
 cases e:σ[s]? with
 |none=>rfl
 |some x=>
  cases x with
  |c sh l=>exact absurd e (h sh l)
  |_=>rfl
theorem DXz (s:Nat):∀(n j:Nat) (σ:St) (d:Nat) (sh:Shape),(∃l,(Abz s j n σ)[d]? =some (.c sh l))↔∃l,σ[d]? =some (.c sh l)
 |0,j,σ,d,sh=>Iff.rfl
 |n+1,j,σ,d,sh=>by
  simp only[Abz]
  rw[DXz s n (j+1) _ d sh]
  split
  ·unfold demote
   rw[BQz]
   cases σ[d]? with
   |none=>simp
   |some x=>
    cases x with
    |c sh' l=>simp[SV.mapC]
    |ep a b q _ _ _ _ _ _=>simp only[Option.map_some,SV.mapC];cases Ayz s j a b q<;>simp
    |_=>simp[SV.mapC]
  ·exact Iff.rfl
theorem Fnz {X:Ctx} {vs:List Value} {σ:St} (h:Good X vs σ NoE) (d:Nat):∃X',Cleared X X' vs σ (clear d σ) d:=by
 unfold clear
 split
 ·
  rename_i l hl
  obtain⟨X1,k1,h1⟩:=E8z vs d l.length 0 h
  have hd:∃l',(Abz d 0 l.length σ)[d]? =some (.c .box l'):=(DXz d l.length 0 σ d .box).2 ⟨l,by
   rw[List.getD_eq_getElem?_getD]at hl
   cases e:σ[d]? with
   |none=>rw[e]at hl;simp at hl
   |some x=>rw[e]at hl;simpa using hl⟩
  generalize hτ:Abz d 0 l.length σ=τ at *
  have hno:∀p,(ABz τ d p).isOw=false:=fun p=>by
   by_cases hp:p<l.length
   ·exact h1 p (Nat.zero_le _) (by omega)
   ·refine k1.noOw d p ?_
    have:σ[d]? =some (.c .box l):=by
     rw[List.getD_eq_getElem?_getD]at hl
     cases e:σ[d]? with
     |none=>rw[e]at hl;simp at hl
     |some x=>rw[e]at hl;simpa using hl
    rw[Blz this,List.getD_eq_getElem?_getD,List.getElem?_eq_none (by omega)]
    rfl
  refine⟨X1.unbox d,k1.goes.trans (Qwz X1 d),k1.w,⟨STz k1.good.inv d,⟨by simpa using k1.good.frame.1,?_⟩,⟨?_,?_⟩⟩,?_,?_,by simpa using k1.size,?_,?_⟩
  ·intro k v sv hv hs
   by_cases hk:k=d
   ·subst hk
    rw[List.getElem?_set_self (by
     have:=k1.good.frame.1
     have h2:k<vs.length:=(List.getElem?_eq_some_iff.1 hv).1
     simp;omega)]at hs
    injection hs with hs;subst hs
    exact .undef v
   ·rw[List.getElem?_set_ne (Ne.symm hk),List.getElem?_map]at hs
    cases e:τ[k]? with
    |none=>simp[e]at hs
    |some x=>
     simp[e]at hs;subst hs
     exact Wtz (k1.good.frame.2 k v x hv e) hk
  ·intro b s p q base tip h2
   have h3:=Daz h2
   right
   by_cases hs:s=d
   ·subst hs
    exact absurd h3.1 (Dzz k1.good (hno p) b q base tip)
   ·rw[RBz hs]
    exact(k1.good.tags.cell _ _ _ _ _ _ h3.1).resolve_left id
  ·intro b s q base tip h2
   have h3:=Daz h2
   have hs:s≠d:=fun e=>h3.2 ⟨e,rfl⟩
   obtain⟨l',h4⟩:=k1.good.tags.box _ _ _ _ _ h3.1
   exact⟨l',by rw[List.getElem?_set_ne (Ne.symm hs),List.getElem?_map,h4];rfl⟩
  ·intro p b q base tip h2
   exact Dzz k1.good (hno p) b q base tip (Daz h2).1
  ·intro b q base tip h2
   exact(Daz h2).2 ⟨rfl,rfl⟩
  ·intro p
   by_cases hlt:d<τ.length
   ·unfold ABz
    rw[List.getD_eq_getElem?_getD,List.getElem?_set_self (by simpa using hlt)]
    rfl
   ·rw[Cwz]
    ·rfl
    ·intro sh l e
     rw[List.getElem?_eq_none (by simp;omega)]at e
     simp at e
  ·intro l e
   by_cases hlt:d<τ.length
   ·rw[List.getElem?_set_self (by simpa using hlt)]at e
    injection e with e;cases e
   ·rw[List.getElem?_eq_none (by simp;omega)]at e
    simp at e
 ·rename_i sh l hne hl
  obtain⟨X1,k1,h1⟩:=E8z vs d l.length 0 h
  have hσ:σ[d]? =some (.c sh l):=by
   rw[List.getD_eq_getElem?_getD]at hl
   cases e:σ[d]? with
   |none=>rw[e]at hl;simp at hl
   |some x=>rw[e]at hl;simpa using hl
  have hno:∀p,(ABz (Abz d 0 l.length σ) d p).isOw=false:=fun p=>by
   by_cases hp:p<l.length
   ·exact h1 p (Nat.zero_le _) (by omega)
   ·refine k1.noOw d p ?_
    rw[Blz hσ,List.getD_eq_getElem?_getD,List.getElem?_eq_none (by omega)]
    rfl
  refine⟨X1,k1.goes,k1.w,k1.good,fun p=>Dzz k1.good (hno p),?_,k1.size,hno,?_⟩
  case refine_2=>
   intro l' h3
   obtain⟨l'',h4⟩:=(DXz d l.length 0 σ d .box).1 ⟨l',h3⟩
   rw[hσ]at h4
   injection h4 with h4;injection h4 with h4 _
   subst h4
   exact hne rfl
  intro b q base tip h2
  obtain⟨l',h3⟩:=k1.good.tags.box _ _ _ _ _ h2
  obtain⟨l'',h4⟩:=(DXz d l.length 0 σ d .box).1 ⟨l',h3⟩
  rw[hσ]at h4
  injection h4 with h4;injection h4 with h4 _
  subst h4
  exact hne rfl
 ·rename_i hne1 hne2
  have hn:∀sh l,σ[d]? ≠some (.c sh l):=fun sh l e=>by
   refine hne2 sh l ?_
   simp[List.getD_eq_getElem?_getD,e]
  refine⟨X,.refl X,rfl,h,fun p=>Dzz h (by rw[Cwz hn];rfl),?_,rfl,fun p=>by rw[Cwz hn];rfl,fun l=>hn .box l⟩
  intro b q base tip h2
  obtain⟨l',h3⟩:=h.tags.box _ _ _ _ _ h2
  exact hn _ _ h3
def C1z (sv:SV) (p:Nat):CV:=
 match sv with
 | .c _ l=>l.getD p .dead
 |_=> .dead
theorem DIz {X X':Ctx} {vs:List Value} {σ:St} {d:Nat} {v:Value} {sv:SV} {E:Nat→Nat→Prop} (h:Good X vs σ E) (hE:∀a b,E a b→a=d) (hm:Mono X X') (hi:Inv X') (hd:d<σ.length)
    (hnew:∀b t,X'.own b=some t→X.own b=some t∨t.1=d) (hnb:∀b q base tip,X.own b≠some (d,0,q,base,tip))
    (hv:SVRel X' d v sv) (ht:∀b p q base tip,X'.own b=some (d,p+1,q,base,tip)→(C1z sv p).isOw=true) (hb:∀b q base tip,X'.own b=some (d,0,q,base,tip)→∃l,sv= .c .box l):
    Good X' (vs.set d v) (σ.set d sv) NoE where
  inv:=hi
  frame:=⟨by simpa using h.frame.1,fun k x y hx hy=>by
    by_cases hk:k=d
    · subst hk
      rw[List.getElem?_set_self (by rw[h.frame.1];exact hd)]at hx
      rw[List.getElem?_set_self hd]at hy
      injection hx with hx;injection hy with hy
      subst hx;subst hy
      exact hv
    · rw[List.getElem?_set_ne (Ne.symm hk)]at hx hy
      exact(h.frame.2 k x y hx hy).mono hm⟩
  tags:=⟨fun b s p q base tip h1=>by
    right
    by_cases hs:s=d
    · subst hs
      have:=ht b p q base tip h1
      unfold ABz
      rw[List.getD_eq_getElem?_getD,List.getElem?_set_self hd]
      exact this
    · rcases hnew b _ h1 with h2|h2
      · have h3:=(h.tags.cell _ _ _ _ _ _ h2).resolve_left fun e=>hs (hE _ _ e)
        unfold ABz at h3 ⊢
        rw[List.getD_eq_getElem?_getD]at h3 ⊢
        rw[List.getElem?_set_ne (Ne.symm hs)]
        exact h3
      · exact absurd h2 hs,
   fun b s q base tip h1=>by
    by_cases hs:s=d
    · subst hs
      obtain⟨l,rfl⟩:=hb b q base tip h1
      exact⟨l,List.getElem?_set_self hd⟩
    · rcases hnew b _ h1 with h2|h2
      · obtain⟨l,h3⟩:=h.tags.box _ _ _ _ _ h2
        exact⟨l,by rw[List.getElem?_set_ne (Ne.symm hs)];exact h3⟩
      · exact absurd h2 hs⟩
end Go.Proofs.YtblelojdboefjaaGreatDoor.R
namespace Go.Proofs.YtblelojdboefjaaGreatDoor.R
open Go
def PV.val:PV→Value
 | .i k n=> .int k n
 | .b x=> .bool x
 | .t x=> .string x
 | .s _ _=> .slice none 0 0
 | .o _ _=> .slice none 0 0
 | .un=> .slice none 0 0
def I2z (d:TypeDesc):Bool:=
 match d with
 | .struct _| .array _ _=>true
 |_=>false
def Lands (P:Program) (g:FuncId) (args:Array Value) (w:World) (R:Value→World→Prop):Prop:=
 match(callFunc g args).run P w with
 | .ok (.value v) w'=>R v w'
 | .ok (.enter f as) w'=>Calls P f as w' fun
  | .returned v,w''=>R v w''
  |_,_=>False
 | .ok (.row row as) w'=>Rows P row as w' R
 |_=>False
def DWz (P:Program) (g:FuncId) (h:Nat→St→List SV→Option (St×SV)):Prop:=
 ∀(X:Ctx) (vs:List Value) (σ σ':St) (args:List Value) (svs:List SV) (sv:SV) (d:Nat),Good X vs σ NoE→args.length=svs.length→
  (∀(i:Nat) (v:Value) (x:SV),args[i]? =some v→svs[i]? =some x→∀k,SVRel X k v x)→h d σ svs=some (σ',sv)→d<σ.length→
  (∀b p q base tip,X.own b≠some (d,p,q,base,tip))→(∀p,(ABz σ d p).isOw=false)→(∀l,σ[d]? ≠some (.c .box l))→
  Lands P g args.toArray X.w fun v w'=>∃X',X'.w=w'∧Goes X X'∧Good X' (vs.set d v) (σ'.set d sv) NoE
def D2z (P:Program):Nat→List Field→List PV→Bool
 |_,[],[]=>true
 |i,f::fs,z::zs=>(f.offset==i)&&(f.name != "_")&&(match P.underlying f.type,z with
   |some (.int _),.i _ _=>true
   |some .bool,.b _=>true
   |some .string,.t _=>true
   |_,_=>false)&&D2z P (i+1) fs zs
 |_,_,_=>false
structure EqOk (P:Program) (t:TypeId) (z:List PV):Prop where
 und:P.underlying t=some (.struct (P.fieldsOf t))
 out:P.stoodInHeld t=false
 gd:P.eqGuardType P.depth t=false
 fl:D2z P 0 (P.fieldsOf t).toList z=true
structure TOk (P:Program) (T:Tys):Prop where
 sl:∀t e,T.sl t=some e→P.underlying t=some (.slice e)
 sz:∀t n,T.sz t=some n→∃i,P.info? t=some i∧i.size=n
 byt:∀t n,T.byt t=some n→∃i,P.info? t=some i∧i.bytes=n
 ag1:∀t,T.ag t=some true→∃fs,P.underlying t=some (.struct fs)
 ag0:∀t,T.ag t=some false→∃d,P.underlying t=some d∧I2z d=false
 zr:∀t l,T.zr t=some l→∃i v,P.info? t=some i∧i.zero=some v∧v.cells.toList=l.map PV.val∧(∀p∈l,p.scalar=true∨∃es,p= .s es [])
 fo:∀t f d,T.fo t f=some d→∃fs fl i,P.underlying t=some (.struct fs)∧fs[f]? =some fl∧fl.offset=d∧P.info? fl.type=some i∧i.size≠0
 fz:∀t f n,T.fz t f=some n→∃fs fl i,P.underlying t=some (.struct fs)∧fs[f]? =some fl∧P.info? fl.type=some i∧i.size=n
 fi:∀t fs,T.ag t=some true→P.underlying t=some (.struct fs)→∀fl∈fs,∃i,P.info? fl.type=some i
 ik:∀t k,T.ik t=some k→P.underlying t=some (.int k)
 str:∀t,T.str t=true→P.underlying t=some .string
 boo:∀t,T.boo t=true→P.underlying t=some .bool
 so:∀g h,T.so g=some h→DWz P g h
 eqs:∀t,T.eqs t=true→∃z,T.zr t=some z∧EqOk P t z
section
variable {P:Program} {w:World}
theorem A9z {t:TypeId} {d:TypeDesc} (h:P.underlying t=some d):(underlying t).run P w= .ok d w:=by
 simp[underlying,h]
theorem LLz {t:TypeId} {i:TypeInfo} (h:P.info? t=some i):(typeInfo t).run P w= .ok i w:=by
 simp[typeInfo,h]
theorem Dqz {t:TypeId} {i:TypeInfo} (h:P.info? t=some i):(sizeOf t).run P w= .ok i.size w:=by
 simp[sizeOf,LLz h]
end
theorem FHz {h:Array Obj} {V:Nat→Prop} {p:PV} (hp:p.scalar=true):Rd h V p.val p:=by
 cases p with
 |i k n=>exact .i k n
 |b x=>exact .b x
 |t s=>exact .t s
 |s es rows=>simp[PV.scalar]at hp
 |o es rows=>simp[PV.scalar]at hp
 |un=>simp[PV.scalar]at hp
theorem M6z {h:Array Obj} {V:Nat→Prop} {p:PV} {v:Value} (hp:p.scalar=true) (r:Rd h V v p):v=p.val:=by
 cases r with
 |i k n=>rfl
 |b x=>rfl
 |t s=>rfl
 |s0=>simp[PV.scalar]at hp
 |s=>simp[PV.scalar]at hp
 |x=>simp[PV.scalar]at hp
theorem EHz {h:Array Obj} {V:Nat→Prop} {p:PV} {v:Value} (r:Rd h V v p):(∀cs,v≠ .agg cs):=by
 cases r<;>first|exact(by assumption)|(intro cs e;cases e)
theorem M7z {h:Array Obj} {V:Nat→Prop} {p:PV} {v:Value} (r:Rd h V v p):v.oneCell'=true:=by
 cases r<;>first|rfl|assumption
def OSV (X:Ctx) (v:Value) (sv:SV):Prop:=∀k,SVRel X k v sv
theorem PNz {X:Ctx} {k j:Nat} {v:Value} {c:CV} (h:CVRel X k j v c):∀k' j',CVRel X k' j' v (c.view k j):=by
 intro k' j'
 cases h with
 |sh f p v h=>exact .sh f p v h
 |ow0 f es a=>exact .br0 k j [] 0 0 f es a
 |ow f es rows v blk off cap c elem fr h=>
  exact .br k j [] 0 0 f es rows v blk off rows.length cap c elem fr ⟨by rw[h.val];simp,h.le,h.own,h.cells,by simpa using h.fits,h.loose,by simp,fun _=>by simp,fun _=>rfl,by simpa using h.reads⟩
 |br0 s o q kd lo f es a=>exact .br0 s o q kd lo f es a
 |br s o q kd lo f es rows v blk base tip cap c elem fr h=>exact .br s o q kd lo f es rows v blk base tip cap c elem fr h
 |brv s o q lo f es rows v h=>exact .brv s o q lo f es rows v h
 |dead v=>exact .dead v
theorem Faz {X:Ctx} {k:Nat}:∀{j:Nat} {vs:List Value} {l:List CV},CellsRel X k j vs l→∀k' j',CellsRel X k' j' vs (Acz (CV.view k) j l)
 |_,_,_,.nil j,k',j'=> .nil j'
 |_,_,_,.cons j v cv vs l h t,k',j'=> .cons j' v _ vs _ (PNz h k' j') (Faz t k' (j'+1))
theorem VIz {X:Ctx} {k:Nat} {v:Value} {sv:SV} (h:SVRel X k v sv):OSV X v (sv.view k):=by
 intro k'
 cases h with
 |undef v=>exact .undef v
 |c sh v vs l hf hc=>
  cases sh with
  |box=>cases hf
  |one=>exact .c .one v vs _ hf (Faz hc k' 0)
  |agg=>exact .c .agg v vs _ hf (Faz hc k' 0)
  |tup ts=>exact .c (.tup ts) v vs _ hf (Faz hc k' 0)
 |box blk base tip c elem fr l ho hb hfr hc=>exact .bp k 0 blk base tip ho
 |bp s o blk base tip ho=>exact .bp s o blk base tip ho
 |ep s o q kd fl es i f row blk off base tip c elem fr ho he hl hb hfr hr=>exact .ep s o q kd fl es i f row blk off base tip c elem fr ho he hl hb hfr hr
 |epv s o q fl es i f row blk off c elem fr hv hb hr=>exact .epv s o q fl es i f row blk off c elem fr hv hb hr
 |sp fl row f blk off c elem fr hv hb hr=>exact .sp fl row f blk off c elem fr hv hb hr
 |fn g caps cs hs hc=>exact .fn g caps cs hs hc
theorem Ugz {X:Ctx} {T:Tys} {ty:TypeId} (v:Value):OSV X v (DUz T ty v):=by
 intro k
 unfold DUz
 split
 ·rename_i kk n;exact .c .one _ [_] _ (.one _ (by intro cs e;cases e)) (.cons 0 _ _ _ _ (.sh false _ _ (.i kk n)) (.nil 1))
 ·rename_i x;exact .c .one _ [_] _ (.one _ (by intro cs e;cases e)) (.cons 0 _ _ _ _ (.sh false _ _ (.b x)) (.nil 1))
 ·rename_i s;exact .c .one _ [_] _ (.one _ (by intro cs e;cases e)) (.cons 0 _ _ _ _ (.sh false _ _ (.t s)) (.nil 1))
 ·split
  ·rename_i es _;exact .c .one _ [_] _ (.one _ (by intro cs e;cases e)) (.cons 0 _ _ _ _ (.ow0 false es none) (.nil 1))
  ·exact .undef _
 ·exact .undef _
def All (a:Act) (gv:List Value):List Value:=a.tmps.toList++gv
theorem Bcz {X:Ctx} {T:Tys} {ty:TypeId} {a:Act} {gv:List Value} {σ:St} {E:Nat→Nat→Prop} {N:Nat} (h:Good X (All a gv) σ E) (hN:N=a.tmps.size) (x:Operand):OSV X (a.eval x) (opd T N ty σ x):=by
 cases x with
 |tmp t=>
  simp only[opd]
  split
  ·rename_i ht
   have hlt:t<a.tmps.size:=hN▸ht
   cases e:σ[t]? with
   |none=>simp[List.getD_eq_getElem?_getD,e,SV.view];exact fun k=> .undef _
   |some sv=>
    have hv:(All a gv)[t]? =some (a.tmps[t]'hlt):=by
     unfold All
     rw[List.getElem?_append_left (by simpa using hlt)]
     simp
    have:=h.frame.2 t _ _ hv e
    simp only[List.getD_eq_getElem?_getD,e,Option.getD_some,Act.eval]
    have e2:a.tmps.getD t undef=a.tmps[t]:=by simp[hlt]
    rw[e2]
    exact VIz this
  ·exact fun k=> .undef _
 |const v=>exact Ugz v
 |global g=>exact fun k=> .undef _
 |func f=>exact fun k=> .fn f [] #[] rfl (fun i v s h1 h2=>by simp at h1)
theorem FJz {X:Ctx} {v:Value} {sv:SV} {c:CV} (h:OSV X v sv) (e:sv.one?=some c):(∀k,CVRel X k 0 v c)∧(∀cs,v≠ .agg cs):=by
 unfold SV.one? at e
 split at e
 ·rename_i y
  injection e with e;subst e
  have h0:∀k,CVRel X k 0 v y∧(∀cs,v≠ .agg cs):=by
   intro k
   have:=h k
   cases this with
   |c _ _ vs _ hf hc=>
    cases hf with
    |one _ hn=>
     cases hc with
     |cons _ _ _ _ _ hc _=>exact⟨hc,hn⟩
  exact⟨fun k=>(h0 k).1,(h0 0).2⟩
 ·simp at e
theorem p_rd {X:Ctx} {k j:Nat} {v:Value} {c:CV} {f:Bool} {p:PV} (h:CVRel X k j v c) (e:c.p?=some (f,p)):∃V,Rd X.w.heap V v p:=by
 unfold CV.p? at e
 split at e
 ·injection e with e;injection e with e1 e2;subst e1;subst e2
  cases h with|sh _ _ _ h=>exact⟨_,h⟩
 ·injection e with e;injection e with e1 e2;subst e1;subst e2
  cases h with
  |ow0 _ _ a=>exact⟨fun _=>True,.s0 a 0 _⟩
  |ow _ _ rows _ blk off cap c elem fr h=>
   rw[h.val]
   exact⟨fun _=>True,.s blk off _ cap _ c elem fr _ trivial h.cells (A6z _).symm h.le (h.reads.erd (fun _ _=>⟨trivial,rfl⟩) fun _ _ _ _ _=>⟨trivial,rfl⟩)⟩
 ·injection e with e;injection e with e1 e2;subst e1;subst e2
  cases h with
  |br0 _ _ _ _ _ _ _ a=>exact⟨fun _=>True,.s0 a 0 _⟩
  |br _ _ _ _ _ _ _ _ _ blk base tip cap c elem fr h=>
   rw[h.val]
   exact⟨fun _=>True,.s blk _ _ cap _ c elem fr _ trivial h.cells (A6z _).symm h.le (h.reads.erd (fun _ _=>⟨trivial,rfl⟩) fun _ _ _ _ _=>⟨trivial,rfl⟩)⟩
  |brv _ _ _ _ _ _ _ _ h=>
   cases h with
   |s0 a cap=>exact⟨fun _=>True,.s0 a cap _⟩
   |s blk off n cap c elem fr _ hv hb hn hc hr=>exact⟨fun _=>True,.s blk off n cap _ c elem fr _ trivial hb (by rw[A6z];exact hn) hc (hr.erd (fun _ _=>⟨trivial,rfl⟩) fun _ _ _ _ _=>⟨trivial,rfl⟩)⟩
 ·simp at e
theorem QVz {X:Ctx} {v:Value} {sv:SV} {p:PV} (h:OSV X v sv) (e:sv.pv?=some p):(∃V,Rd X.w.heap V v p)∧(∀cs,v≠ .agg cs):=by
 unfold SV.pv? at e
 cases e1:sv.one? with
 |none=>simp[e1]at e
 |some c=>
  simp only[e1,Option.bind_some]at e
  obtain⟨h1,h2⟩:=FJz h e1
  cases e2:c.p? with
  |none=>simp[e2]at e
  |some fp=>
   obtain⟨f,q⟩:=fp
   simp[e2]at e
   subst e
   exact⟨p_rd (h1 0) e2,h2⟩
theorem Ccz {X:Ctx} {v:Value} {sv:SV} {p:PV} (h:OSV X v sv) (e:sv.pv?=some p) (hp:p.scalar=true):v=p.val:=by
 obtain⟨⟨V,h1⟩,_⟩:=QVz h e
 exact M6z hp h1
theorem EBz {X:Ctx} {v:Value} {sv:SV} {k:IntKind} {n:Int} (h:OSV X v sv) (e:sv.int?=some (k,n)):v= .int k n:=by
 unfold SV.int? at e
 cases e1:sv.pv? with
 |none=>simp[e1]at e
 |some p=>
  simp only[e1,Option.bind_some]at e
  split at e
  ·injection e with e;injection e with e2 e3;subst e2;subst e3
   exact Ccz h e1 rfl
  ·simp at e
theorem Liz {X:Ctx} {v:Value} {sv:SV} {b:Bool} (h:OSV X v sv) (e:sv.bool?=some b):v= .bool b:=by
 unfold SV.bool? at e
 cases e1:sv.pv? with
 |none=>simp[e1]at e
 |some p=>
  simp only[e1,Option.bind_some]at e
  split at e
  ·injection e with e;subst e
   exact Ccz h e1 rfl
  ·simp at e
theorem CQz {X:Ctx} {p:PV} (hp:p.scalar=true):OSV X p.val (pvSV p):=fun k=>
 .c .one _ [_] _ (.one _ (EHz (FHz (h:= #[]) (V:=fun _=>True) hp))) (.cons 0 _ _ _ _ (.sh false p _ (FHz hp)) (.nil 1))
end Go.Proofs.YtblelojdboefjaaGreatDoor.R
namespace Go.Proofs.YtblelojdboefjaaGreatDoor.R
open Go
theorem Xmz {X:Ctx} {j:Nat} {v:Value} {c:CV} (h:∀k,CVRel X k j v c):∀k j',CVRel X k j' v c:=by
 intro k j'
 cases c with
 |sh f p=>have:=h k;cases this with|sh _ _ _ h=>exact .sh f p v h
 |ow f es rows=>obtain⟨rfl,a,rfl⟩:=Dvz h;exact .ow0 f es a
 |br s o q kd lo f es rows=>exact Itz (h k) k j'
 |dead=>exact .dead v
inductive VCells (X:Ctx):List Value→List CV→Prop
 |nil:VCells X [] []
 |cons (v:Value) (c:CV) (vs:List Value) (l:List CV):(∀k j,CVRel X k j v c)→VCells X vs l→VCells X (v::vs) (c::l)
theorem VCells.cells {X:Ctx} {k:Nat}:∀{j:Nat} {vs:List Value} {l:List CV},VCells X vs l→CellsRel X k j vs l
 |j,_,_,.nil=> .nil j
 |j,_,_,.cons v c vs l h t=> .cons j v c vs l (h k j) (VCells.cells t)
theorem VCells.mk {X:Ctx}:∀{j:Nat} {vs:List Value} {l:List CV},(∀k,CellsRel X k j vs l)→VCells X vs l
 |j,[],[],h=> .nil
 |j,[],c::l,h=>by have:=h 0;cases this
 |j,v::vs,[],h=>by have:=h 0;cases this
 |j,v::vs,c::l,h=> .cons v c vs l (Xmz (j:=j) fun k=>by have:=h k;cases this;assumption) (VCells.mk (j:=j+1) fun k=>by have:=h k;cases this;assumption)
theorem VCells.length {X:Ctx}:∀{vs:List Value} {l:List CV},VCells X vs l→vs.length=l.length
 |_,_,.nil=>rfl
 |_,_,.cons v c vs l h t=>by simp[VCells.length t]
theorem VCells.view {X:Ctx} {k:Nat}:∀{j:Nat} {vs:List Value} {l:List CV},CellsRel X k j vs l→VCells X vs (Acz (CV.view k) j l)
 |_,_,_,.nil j=> .nil
 |_,_,_,.cons j v cv vs l h t=> .cons v _ vs _ (PNz h) (VCells.view t)
theorem VCells.drop {X:Ctx}:∀{vs:List Value} {l:List CV} (n:Nat),VCells X vs l→VCells X (vs.drop n) (l.drop n)
 |_,_,0,h=>by simpa using h
 |_,_,n+1,.nil=>by simpa using VCells.nil
 |_,_,n+1,.cons v c vs l h t=>by simpa using VCells.drop n t
theorem VCells.take {X:Ctx}:∀{vs:List Value} {l:List CV} (n:Nat),VCells X vs l→VCells X (vs.take n) (l.take n)
 |_,_,0,h=>by simpa using VCells.nil
 |_,_,n+1,.nil=>by simpa using VCells.nil
 |_,_,n+1,.cons v c vs l h t=>by simpa using VCells.cons v c _ _ h (VCells.take n t)
theorem VCells.append {X:Ctx}:∀{vs vs':List Value} {l l':List CV},VCells X vs l→VCells X vs' l'→VCells X (vs++vs') (l++l')
 |_,_,_,_,.nil,h=>by simpa using h
 |_,_,_,_,.cons v c vs l h t,h'=> .cons v c _ _ h (VCells.append t h')
theorem VCells.ocells {X:Ctx} {σ:St}:∀{vs:List Value} {l:List CV},VCells X vs l→OCells X σ vs l
 |_,_,.nil=> .nil
 |_,_,.cons v c vs l h t=> .cons v c vs l (.inl h) (VCells.ocells t)
theorem CGz {X:Ctx} {v:Value} {sh:Shape} {l:List CV} (h:OSV X v (.c sh l)) (hb:sh≠ .box):∃vs,Flat sh v vs∧VCells X vs l:=by
 have h0:=h 0
 cases h0 with
 |c _ _ vs _ hf hc=>
  refine⟨vs,hf,VCells.mk (j:=0) fun k=> ?_⟩
  have:=h k
  cases this with
  |c _ _ vs' _ hf' hc'=>
   have e:vs'=vs:=by
    cases hf with
    |one _ _=>cases hf' with|one _ _=>rfl
    |agg cs=>cases hf' with|agg cs'=>rfl
    |tup ts xs fs h1 h2 h3=>
     cases hf' with
     |tup _ _ fs' h1' h2' h3'=>
      congr 1
      apply List.ext_getElem?
      intro i
      by_cases hi:i<ts.length
      ·obtain⟨a,n,ht⟩:∃a n,ts[i]=(a,n):=⟨_,_,rfl⟩
       have e1:ts[i]? =some (a,n):=by rw[List.getElem?_eq_getElem hi,ht]
       have e2:xs[i]? =some (xs[i]'(by omega)):=Array.getElem?_eq_getElem (by omega)
       have e3:fs[i]? =some (fs[i]'(by omega)):=List.getElem?_eq_getElem (by omega)
       have e4:fs'[i]? =some (fs'[i]'(by omega)):=List.getElem?_eq_getElem (by omega)
       have g:=h3 i _ a n _ e2 e1 e3
       have g':=h3' i _ a n _ e2 e1 e4
       rw[e3,e4]
       congr 1
       rcases g.2 with⟨_,cs,e,f⟩|⟨_,f,e⟩
       ·rcases g'.2 with⟨_,cs',e',f'⟩|⟨_,f',e'⟩
        ·rw[e]at e';injection e' with e';rw[f,f',e']
        ·exact absurd e (e' cs)
       ·rcases g'.2 with⟨_,cs',e',f'⟩|⟨_,f',e'⟩
        ·exact absurd e' (e cs')
        ·rw[f,f']
      ·rw[List.getElem?_eq_none (by omega),List.getElem?_eq_none (by omega)]
   rw[←e];exact hc'
  |box=>exact absurd rfl hb
 |box=>exact absurd rfl hb
theorem D6z {X:Ctx} {v:Value} {sh:Shape} {vs:List Value} {l:List CV} (hf:Flat sh v vs) (hc:VCells X vs l):OSV X v (.c sh l):=fun k=> .c sh v vs l hf hc.cells
structure PureRes (X X':Ctx) (d:Nat) (v:Value) (sv:SV):Prop where
 goes:Goes X X'
 mono:Mono X X'
 inv:Inv X'
 new:∀b t,X'.own b=some t→X.own b=some t∨t.1=d
 rel:SVRel X' d v sv
 tag:∀b p q base tip,X'.own b=some (d,p+1,q,base,tip)→X.own b=some (d,p+1,q,base,tip)∨(C1z sv p).isOw=true
 tagb:∀b q base tip,X'.own b=some (d,0,q,base,tip)→X.own b=some (d,0,q,base,tip)∨∃l,sv= .c .box l
theorem PureRes.same {X:Ctx} (hi:Inv X) {d:Nat} {v:Value} {sv:SV} (h:OSV X v sv):PureRes X X d v sv:=
 ⟨.refl X,.refl X,hi,fun _ _ h=> .inl h,h d,fun _ _ _ _ _ h=> .inl h,fun _ _ _ _ h=> .inl h⟩
theorem VQz {P:Program} {w:World} {op:BinOp} {k:IntKind} {a b:Int} {t:TypeId} {p:PV} (h:Mgz op k a b=some p):(binOp op t (.int k a) (.int k b)).run P w= .ok p.val w∧p.scalar=true:=by
  cases op<;>simp only[Mgz]at h<;>first
    |(injection h with h;subst h;exact⟨by simp[binOp,Op.intArith,Op.intBits,Op.intCmp,PV.val],rfl⟩)
    | (split at h
       · simp at h
       · rename_i hb
         injection h with h;subst h
         exact⟨by simp[binOp,Op.intDiv,hb,PV.val],rfl⟩)
    |(simp at h;done)
theorem VPz {P:Program} {w:World} {op:BinOp} {a b:ByteArray} {t:TypeId} {p:PV} (h:QNz op a b=some p):(binOp op t (.string a) (.string b)).run P w= .ok p.val w∧p.scalar=true:=by
  cases op<;>simp only[QNz]at h<;>first
    |(injection h with h;subst h;exact⟨by simp[binOp,Op.stringOp,PV.val],rfl⟩)
    | (split at h
       · simp at h
       · rename_i hb
         injection h with h;subst h
         exact⟨by simp only[binOp,Op.stringOp];rw[if_neg hb];rfl,rfl⟩)
    |(simp at h;done)
theorem GOz {P:Program} {w:World} {op:BinOp} {t:TypeId} {x y:Operand} {a b:Value} (h:(∀cs,a≠ .agg cs)∧a≠ .nilIface):(eqGuard op t x y a b).run P w= .ok () w:=by
 unfold eqGuard
 cases op<;>simp<;>(cases a<;>first|rfl|exact absurd rfl h.2|exact absurd rfl (h.1 _))
theorem M2z {P:Program} {w:World} {t:TypeId} (hu:P.underlying t=some .bool) (d:Nat) (a b:Bool):(Op.equalIn (d+1) t (.bool a) (.bool b)).run P w= .ok (a==b) w:=by
 rw[Op.equalIn]
 simp only[Sem.run_bind,A9z hu,Result.andThen_ok]
 rfl
theorem KGz {P:Program} {w:World} {t:TypeId} (hu:P.underlying t=some .bool) (a b:Bool):(Op.equal t (.bool a) (.bool b)).run P w= .ok (a==b) w:=M2z hu 9999 a b
theorem Jez {X:Ctx}:∀{vs:List Value} {l:List CV} {z ps:List PV},VCells X vs l→pvs? l=some ps→B0z z ps=true→vs=ps.map PV.val
 |_,[],z,ps,h,hp,hk=>by
  cases h
  simp only[pvs?]at hp;injection hp with hp;subst hp;rfl
 |_,c::l,z,ps,h,hp,hk=>by
  cases h with
  |cons v _ vs _ hc ht=>
   cases c with
   |sh f p=>
    simp only[pvs?]at hp
    obtain⟨ps',h1,rfl⟩:=Option.map_eq_some_iff.1 hp
    have hr:=hc 0 0
    cases hr with
    |sh _ _ _ hr=>
     cases z with
     |nil=>cases p<;>simp[B0z]at hk
     |cons z0 z=>
      have hs:p.scalar=true∧B0z z ps'=true:=by cases z0<;>cases p<;>first|exact⟨rfl,hk⟩|(simp[B0z]at hk;done)
      rw[List.map_cons,Jez ht h1 hs.2,M6z hs.1 hr]
   |_=>simp[pvs?]at hp
theorem Lwz {P:Program} {w:World} {e:TypeId} (he:P.plainKey e=true) {xs:Array Value} {off:Nat} {v:Value} (hx:xs.toList[off]? =some v):(Go.part e xs off).run P w= .ok v w:=run_part_plain w he (by simpa using hx)
theorem JFz {P:Program} {w:World} {xs ys:Array Value} {d:Nat}:∀(fs:List Field) (z a b:List PV) (i:Nat) (r:Bool),D2z P i fs z=true→B0z z a=true→B0z z b=true→xs.toList.drop i=a.map PV.val→ys.toList.drop i=b.map PV.val→eqRow? a b=some r→(Op.eqFields (d+1) xs ys fs).run P w= .ok r w
 |[],z,a,b,i,r,hf,ha,hb,hx,hy,hr=>by
  cases z with
  |nil=>
   cases a with
   |nil=>cases b with
    |nil=>simp only[eqRow?]at hr;injection hr with hr;subst hr;simp[Op.eqFields]
    |cons _ _=>simp[B0z]at hb
   |cons _ _=>simp[B0z]at ha
  |cons _ _=>simp[D2z]at hf
 |f::fs,z,a,b,i,r,hf,ha,hb,hx,hy,hr=>by
  cases z with
  |nil=>simp[D2z]at hf
  |cons z0 z=>
   cases a with
   |nil=>cases z0<;>simp[B0z]at ha
   |cons p a=>
    cases b with
    |nil=>cases z0<;>simp[B0z]at hb
    |cons q b=>
     simp only[D2z,Bool.and_eq_true,beq_iff_eq,bne_iff_ne,ne_eq]at hf
     obtain⟨⟨⟨ho,hn⟩,hk⟩,hf⟩:=hf
     have hx0:xs.toList[f.offset]? =some p.val:=by
      have:=congrArg (fun l=>l[0]?) hx
      rw[ho];simpa[List.getElem?_drop]using this
     have hy0:ys.toList[f.offset]? =some q.val:=by
      have:=congrArg (fun l=>l[0]?) hy
      rw[ho];simpa[List.getElem?_drop]using this
     have hx1:xs.toList.drop (i+1)=a.map PV.val:=by
      have:=congrArg List.tail hx
      simpa[List.tail_drop]using this
     have hy1:ys.toList.drop (i+1)=b.map PV.val:=by
      have:=congrArg List.tail hy
      simpa[List.tail_drop]using this
     simp only[eqRow?]at hr
     obtain⟨r0,h0,hr⟩:=Option.bind_eq_some_iff.1 hr
     obtain⟨r1,h1,rfl⟩:=Option.map_eq_some_iff.1 hr
     have hak:B0z z a=true:=by cases z0<;>cases p<;>first|exact ha|(simp[B0z]at ha;done)
     have hbk:B0z z b=true:=by cases z0<;>cases q<;>first|exact hb|(simp[B0z]at hb;done)
     have ih:=JFz (w:=w) (d:=d) fs z a b (i+1) r1 hf hak hbk hx1 hy1 h1
     have hE:P.plainKey f.type=true∧(Op.equalIn (d+1) f.type p.val q.val).run P w= .ok r0 w:=by
      cases hu:P.underlying f.type with
      |none=>simp[hu]at hk
      |some kd=>
       rw[hu]at hk
       cases kd<;>cases z0<;>simp at hk<;>cases p<;>simp[B0z]at ha<;>cases q<;>simp[B0z]at hb
       ·simp only[PV.eq?]at h0;injection h0 with h0;subst h0
        exact⟨by simp[Program.plainKey,hu],run_equalIn_bool' w d f.type _ _ hu⟩
       ·simp only[PV.eq?]at h0
        split at h0
        ·rename_i e;subst e;injection h0 with h0;subst h0
         exact⟨by simp[Program.plainKey,hu],run_equalIn_int w d f.type _ _ _ _ hu⟩
        ·simp at h0
       ·simp only[PV.eq?]at h0;injection h0 with h0;subst h0
        exact⟨by simp[Program.plainKey,hu],run_equalIn_string w d f.type _ _ hu⟩
     have p1:=Lwz (w:=w) hE.1 hx0
     have p2:=Lwz (w:=w) hE.1 hy0
     simp only[Op.eqFields,hn,ne_eq,not_false_eq_true,if_true,Sem.run_bind,p1,p2,hE.2,Result.andThen_ok]
     cases r0
     ·simp
     ·simpa using ih
theorem Xoz {P:Program} {T:Tys} (hT:TOk P T) {X:Ctx} {op:BinOp} {t:TypeId} {va vb:Value} {x y:SV} {p:PV} (hx:OSV X va x) (hy:OSV X vb y) (h:LAz T op t x y=some p):(binOp op t va vb).run P X.w= .ok p.val X.w∧p.scalar=true∧∀a b,(eqGuard op t a b va vb).run P X.w= .ok () X.w:=by
 unfold LAz at h
 split at h
 ·rename_i l m
  split at h
  ·rename_i he
   obtain⟨z,hz,hE⟩:=hT.eqs t he
   rw[hz]at h
   simp only[Option.bind_some]at h
   obtain⟨a,ha,h⟩:=Option.bind_eq_some_iff.1 h
   obtain⟨b,hb,h⟩:=Option.bind_eq_some_iff.1 h
   split at h
   ·rename_i hs
    simp only[Bool.and_eq_true]at hs
    obtain⟨r,hr,h⟩:=Option.bind_eq_some_iff.1 h
    obtain⟨vs,f1,c1⟩:=CGz hx (by simp)
    obtain⟨us,f2,c2⟩:=CGz hy (by simp)
    cases f1 with
    |agg xs=>
     cases f2 with
     |agg ys=>
      have e1:=Jez c1 ha hs.1
      have e2:=Jez c2 hb hs.2
      have hq:=JFz (P:=P) (w:=X.w) (xs:=xs) (ys:=ys) (d:=9998) (P.fieldsOf t).toList z a b 0 r hE.fl hs.1 hs.2 (by simpa using e1) (by simpa using e2) hr
      have hq2:(Op.equalIn 10000 t (.agg xs) (.agg ys)).run P X.w= .ok r X.w:=by
       rw[run_equalIn_struct X.w 9999 t xs ys hE.und hE.out];exact hq
      have hg:∀a b,(eqGuard op t a b (.agg xs) (.agg ys)).run P X.w= .ok () X.w:=fun a b=>run_eqGuard_agg X.w op t a b xs ys hE.gd
      cases op<;>simp at h
      ·subst h
       exact⟨by rw[run_eql_struct,hq2];rfl,rfl,hg⟩
      ·subst h
       exact⟨by rw[run_neq_struct,hq2];rfl,rfl,hg⟩
   ·simp at h
  ·simp at h
 ·simp at h
theorem Xjz {P:Program} {T:Tys} (hT:TOk P T) {X:Ctx} {op:BinOp} {t:TypeId} {va vb:Value} {x y:SV} {p:PV} (hx:OSV X va x) (hy:OSV X vb y) (h:A7z T op t x y=some p):(binOp op t va vb).run P X.w= .ok p.val X.w∧p.scalar=true∧∀a b,(eqGuard op t a b va vb).run P X.w= .ok () X.w:=by
 unfold A7z at h
 ·split at h
  ·rename_i k a k' b ha hb
   have e1:=Ccz hx ha rfl
   have e2:=Ccz hy hb rfl
   subst e1;subst e2
   have hna:∀(x y:Operand),(eqGuard op t x y (PV.i k a).val (PV.i k' b).val).run P X.w= .ok () X.w:=fun x y=>GOz ⟨(fun cs e=>nomatch e),(fun e=>nomatch e)⟩
   split at h
   ·unfold BTz at h
    split at h
    ·simp at h
    ·rename_i hb0
     injection h with h;subst h
     exact⟨by simp[binOp,Op.shift,PV.val,hb0],rfl,hna⟩
   ·unfold BTz at h
    split at h
    ·simp at h
    ·rename_i hb0
     injection h with h;subst h
     exact⟨by simp[binOp,Op.shift,PV.val,hb0],rfl,hna⟩
   ·split at h
    ·rename_i e;subst e
     have:=VQz (P:=P) (w:=X.w) (t:=t) h
     exact⟨this.1,this.2,hna⟩
    ·simp at h
  ·rename_i a b ha hb
   have e1:=Ccz hx ha rfl
   have e2:=Ccz hy hb rfl
   subst e1;subst e2
   have:=VPz (P:=P) (w:=X.w) (t:=t) h
   exact⟨this.1,this.2,fun x y=>GOz ⟨(fun cs e=>nomatch e),(fun e=>nomatch e)⟩⟩
  ·rename_i a b ha hb
   have e1:=Ccz hx ha rfl
   have e2:=Ccz hy hb rfl
   subst e1;subst e2
   split at h
   ·rename_i hbo
    have hu:=hT.boo t hbo
    split at h
    ·injection h with h;subst h
     exact⟨by simp only[binOp,Sem.run_bind,KGz hu,Result.andThen_ok,PV.val,Sem.run_pure],rfl,fun x y=>GOz ⟨(fun cs e=>nomatch e),(fun e=>nomatch e)⟩⟩
    ·injection h with h;subst h
     exact⟨by simp only[binOp,Sem.run_bind,KGz hu,Result.andThen_ok,PV.val,Sem.run_pure],rfl,fun x y=>GOz ⟨(fun cs e=>nomatch e),(fun e=>nomatch e)⟩⟩
    ·simp at h
   ·simp at h
  ·exact Xoz hT hx hy h
theorem Ydz {P:Program} {X:Ctx} {op:UnOp} {va:Value} {x:SV} {p:PV} (hx:OSV X va x) (h:unSV op x=some p):(Op.unary op va).run P X.w= .ok p.val X.w∧p.scalar=true:=by
 unfold unSV at h
 split at h
 ·rename_i a ha
  have e1:=Ccz hx ha rfl
  subst e1
  injection h with h;subst h
  exact⟨by simp[Op.unary,PV.val],rfl⟩
 ·rename_i k n ha
  have e1:=Ccz hx ha rfl
  subst e1
  injection h with h;subst h
  exact⟨by simp[Op.unary,PV.val,Op.intArith],rfl⟩
 ·rename_i k n ha
  have e1:=Ccz hx ha rfl
  subst e1
  injection h with h;subst h
  exact⟨by simp[Op.unary,PV.val,Op.intBits],rfl⟩
 ·simp at h
end Go.Proofs.YtblelojdboefjaaGreatDoor.R
namespace Go.Proofs.YtblelojdboefjaaGreatDoor.R
open Go
theorem DMz (b o n:Nat):(⟨b,o,none⟩:Addr).add n=⟨b,o+n,none⟩:=by
 unfold Addr.add;split<;>simp_all
theorem CWz {w:World} {b o:Nat} {c:Array Value} {e:TypeId} {fr:Nat×Nat} (h:w.heap[b]? =some (.cells c e fr)):w.cell? ⟨b,o,none⟩=c[o]? :=by
 simp[World.cell?,h]
theorem QRz {P:Program} {w:World} {t:TypeId} {fs:Array Field} (h:P.underlying t=some (.struct fs)):(isAgg t).run P w= .ok true w:=by
 simp[isAgg,A9z h]
theorem QSz {P:Program} {w:World} {t:TypeId} {d:TypeDesc} (h:P.underlying t=some d) (hd:I2z d=false):(isAgg t).run P w= .ok false w:=by
 simp only[isAgg,Sem.run_bind,A9z h,Result.andThen_ok]
 cases d<;>first|rfl|simp[I2z]at hd
theorem JEz {P:Program} {T:Tys} (hT:TOk P T) {w:World} {t:TypeId} {n:Nat} {ag:Bool} (hs:T.sz t=some n) (ha:T.ag t=some ag) (h1:ag=false→n=1) {b o:Nat} {vs:List Value} (hl:vs.length=n)
  (hc:∀j v,vs[j]? =some v→w.cell? ⟨b,o+j,none⟩=some v):∃v,(loadVar t ⟨b,o,none⟩).run P w= .ok v w∧((ag=true∧v= .agg vs.toArray)∨(ag=false∧vs=[v])):=by
 obtain⟨i,hi,hn⟩:=hT.sz t n hs
 cases ag with
 |true=>
  obtain⟨fs,hu⟩:=hT.ag1 t ha
  refine⟨.agg vs.toArray,?_,.inl ⟨rfl,rfl⟩⟩
  simp only[loadVar,Sem.run_bind,QRz hu,Result.andThen_ok,if_true,Dqz hi,hn]
  rw[←hl,run_loadCells_list w ⟨b,o,none⟩ vs (fun j v h=>by rw[DMz];exact hc j v h)]
  rfl
 |false=>
  obtain⟨d,hu,hd⟩:=hT.ag0 t ha
  have h1:=h1 rfl
  cases vs with
  |nil=>simp at hl;omega
  |cons v r=>
   have:r=[]:=by cases r with|nil=>rfl|cons _ _=>simp at hl;omega
   subst this
   refine⟨v,?_,.inr ⟨rfl,rfl⟩⟩
   have h0:=hc 0 v rfl
   simp only[loadVar,Sem.run_bind,QSz hu hd,Result.andThen_ok,Bool.false_eq_true,if_false,run_load]
   rw[show w.cell? ⟨b,o,none⟩=some v from h0]
def Ext (w w':World):Prop:=∀(b:Nat) (o:Obj),w.heap[b]? =some o→w'.heap[b]? =some o
theorem Ext.refl (w:World):Ext w w:=fun _ _ h=>h
theorem Fzz {P:Program} {T:Tys} (hT:TOk P T) {t:TypeId} {n:Nat} {ag:Bool} (hs:T.sz t=some n) (ha:T.ag t=some ag) (h1:ag=false→n=1) {b o:Nat} {vs:List Value} (hl:vs.length=n):
  ∃v,(∀w:World,(∀j v,vs[j]? =some v→w.cell? ⟨b,o+j,none⟩=some v)→(loadVar t ⟨b,o,none⟩).run P w= .ok v w)∧((ag=true∧v= .agg vs.toArray)∨(ag=false∧vs=[v])):=by
 cases ag with
 |true=>
  refine⟨.agg vs.toArray,fun w hc=> ?_,.inl ⟨rfl,rfl⟩⟩
  obtain⟨v,h2,h3|h3⟩:=JEz hT (w:=w) hs ha h1 hl hc
  ·rw[h2,h3.2]
  ·cases h3.1
 |false=>
  have h1':=h1 rfl
  cases vs with
  |nil=>simp at hl;omega
  |cons v r=>
   have:r=[]:=by cases r with|nil=>rfl|cons _ _=>simp at hl;omega
   subst this
   refine⟨v,fun w hc=> ?_,.inr ⟨rfl,rfl⟩⟩
   obtain⟨v',h2,h3|h3⟩:=JEz hT (w:=w) hs ha h1 hl hc
   ·cases h3.1
   ·rw[h2];injection h3.2 with h3;rw[h3]
theorem Gxz {P:Program} {w:World} (a:Addr):(Instr.sureAddr (.pointer (some a))).run P w= .ok a w:=rfl
theorem MQz {P:Program} {T:Tys} (hT:TOk P T) {X:Ctx} {t:TypeId} {f:Nat} {v:Value} {x y:SV} (hx:OSV X v x) (h:EWz T t x f=some y):∃v',(∀w',(Instr.fieldAt t v f).run P w'= .ok v' w')∧OSV X v' y:=by
 unfold EWz at h
 cases e:T.fo t f with
 |none=>simp[e]at h
 |some d=>
  obtain⟨fs,fl,i,hu,hf,ho,hi,hz⟩:=hT.fo t f d e
  have run:∀b o (w:World),(Instr.fieldAt t (.pointer (some ⟨b,o,none⟩)) f).run P w= .ok (.pointer (some ⟨b,o+d,none⟩)) w:=fun b o w=>by
   simp[Instr.fieldAt,A9z hu,hf,Gxz,fieldPlace,Dqz hi,hz,DMz,ho]
  simp only[e,Option.bind_some]at h
  split at h
  ·injection h with h;subst h
   rename_i s o
   have h0:=hx 0
   cases h0 with
   |bp _ _ blk base tip ho'=>
    refine⟨_,run blk o,fun k=> ?_⟩
    exact .bp s (o+d) blk base tip ho'
  ·injection h with h;subst h
   rename_i s o q kd fl es i f row
   have h0:=hx 0
   cases h0 with
   |ep _ _ _ _ _ _ _ _ _ blk off base tip c elem fr ho he hl hb hfr hr=>
    refine⟨_,run blk _,fun k=> ?_⟩
    rw[Nat.add_assoc]
    exact .ep s o q kd fl es i (f+d) row blk off base tip c elem fr ho he hl hb hfr hr
   |epv _ _ _ _ _ _ _ _ blk off c elem fr hv hb hr=>
    refine⟨_,run blk _,fun k=> ?_⟩
    rw[Nat.add_assoc]
    exact .epv s o q fl es i (f+d) row blk off c elem fr hv hb hr
  ·injection h with h;subst h
   rename_i fl row f
   have h0:=hx 0
   cases h0 with
   |sp _ _ _ blk off c elem fr hv hb hr=>
    refine⟨_,run blk _,fun k=> ?_⟩
    rw[Nat.add_assoc]
    exact .sp fl row (f+d) blk off c elem fr hv hb hr
  ·simp at h
theorem UQz {P:Program} {T:Tys} (hT:TOk P T) {X:Ctx} {t:TypeId} {f:Nat} {v:Value} {x y:SV} (hx:OSV X v x) (h:EWz T t x f=some y):∃v',(Instr.fieldAt t v f).run P X.w= .ok v' X.w∧OSV X v' y:=by
 obtain⟨v',h1,h2⟩:=MQz (P:=P) hT hx h
 exact⟨v',h1 _,h2⟩
theorem IKz {P:Program} {T:Tys} (hT:TOk P T) {w:World} {t:TypeId} {es:Nat} (ht:(T.sl t).bind T.sz=some es) {b off n cap:Nat} {k:IntKind} {i:Int} (h0:0≤i) (h1:i.toNat<n):
  (Instr.indexAt t (.slice (some ⟨b,off,none⟩) n cap) (.int k i)).run P w= .ok (.pointer (some ⟨b,off+i.toNat*es,none⟩)) w:=by
 cases e:T.sl t with
 |none=>simp[e]at ht
 |some el=>
  simp only[e,Option.bind_some]at ht
  have hu:=hT.sl t el e
  obtain⟨inf,hi,hn⟩:=hT.sz el es ht
  have hlt:i<(n:Int):=by omega
  simp only[Instr.indexAt,asIntOf,Sem.run_bind,Sem.run_pure,Result.andThen_ok,A9z hu]
  rw[if_pos ⟨h0,hlt⟩]
  simp[Dqz hi,hn,DMz,A9z hu]
theorem UMz {P:Program} {T:Tys} (hT:TOk P T) {X:Ctx} {t:TypeId} {v vi:Value} {x ix y:SV} (hx:OSV X v x) (hix:OSV X vi ix) (h:E3z T t x ix=some y):∃v',(Instr.indexAt t v vi).run P X.w= .ok v' X.w∧OSV X v' y:=by
 unfold E3z at h
 cases e1:x.one? with
 |none=>simp[e1]at h
 |some c=>
  cases e2:ix.int? with
  |none=>simp[e1,e2]at h
  |some ki=>
   obtain⟨k,i⟩:=ki
   simp only[e1,e2,Option.bind_some]at h
   have hvi:=EBz hix e2
   subst hvi
   obtain⟨hc,_⟩:=FJz hx e1
   split at h
   ·rename_i f es rows
    split at h
    ·rename_i ht
     split at h
     ·rename_i h0
      cases e3:rows[i.toNat]? with
      |none=>simp[e3]at h
      |some row=>
       simp only[e3,Option.map_some]at h
       injection h with h;subst h
       have hlt:=(List.getElem?_eq_some_iff.1 e3).1
       have hc0:=hc 0
       cases hc0 with
       |sh _ _ _ hr=>
        cases hr with
        |s0=>simp at hlt
        |s blk off n cap _ cc elem fr _ hv hb hn hcap hr=>
         subst hn
         refine⟨_,IKz hT ht h0 hlt,fun k=> ?_⟩
         have:=SVRel.sp (k:=k) f row 0 blk (off+i.toNat*es) cc elem fr hv hb (hr.get _ _ e3).2
         exact this
     ·simp at h
    ·simp at h
   ·rename_i s o q kd lo f es rows
    split at h
    ·rename_i ht
     split at h
     ·rename_i h0
      cases e3:rows[i.toNat]? with
      |none=>simp[e3]at h
      |some row=>
       simp only[e3,Option.map_some]at h
       injection h with h;subst h
       have hlt:=(List.getElem?_eq_some_iff.1 e3).1
       have hc0:=hc 0
       cases hc0 with
       |br0=>simp at hlt
       |br _ _ _ _ _ _ _ _ _ blk base tip cap cc elem fr hb=>
        rw[hb.val]
        refine⟨_,IKz hT ht h0 hlt,fun k=> ?_⟩
        have g:=hb.reads.get _ _ e3
        have:=SVRel.ep (k:=k) s o q kd f es (lo+i.toNat) 0 row blk (base+lo*es+i.toNat*es) base tip cc elem fr hb.own (by rw[Nat.add_mul];omega) g.1 hb.cells hb.loose g.2
        exact this
       |brv _ _ _ _ _ _ _ _ hr=>
        cases hr with
        |s0=>simp at hlt
        |s blk off n cap cc elem fr _ hv hb hn hcap hr=>
         subst hn
         refine⟨_,IKz hT ht h0 hlt,fun k=> ?_⟩
         have:=SVRel.epv (k:=k) s o q f es (lo+i.toNat) 0 row blk (off+i.toNat*es) cc elem fr hv hb (hr.get _ _ e3).2
         exact this
     ·simp at h
    ·simp at h
   ·simp at h
theorem KWz {X:Ctx} {fl:Bool} {s o:Nat} {q:Path} {i0:Nat} {c:Array Value} {off:Nat} {row:List PV} (h:X.ORow fl s o q i0 0 c off row) (f n:Nat) (hf:f+n≤row.length):
  ∃vs:List Value,vs.length=n∧(∀(j:Nat) (v:Value),vs[j]? =some v→c[off+f+j]? =some v)∧∀(j:Nat) (v:Value) (p:PV),vs[j]? =some v→((row.drop f).take n)[j]? =some p→X.ORd fl s o (q++[(i0,f+j)]) v p:=by
 refine⟨(List.range n).map fun j=>(c[off+f+j]?).getD undef,by simp,?_,?_⟩
 ·intro j v hv
  rw[List.getElem?_map]at hv
  cases e:(List.range n)[j]? with
  |none=>simp[e]at hv
  |some k=>
   have hk:=List.getElem?_eq_some_iff.1 e
   obtain⟨hj,hk⟩:=hk
   simp at hk hj;subst hk
   simp[e]at hv
   obtain⟨x,hx,_⟩:=h.get (f+j) _ (List.getElem?_eq_getElem (by omega))
   rw[show off+(f+j)=off+f+j from by omega]at hx
   rw[hx]at hv ⊢
   simpa using hv
 ·intro j v p hv hp
  rw[List.getElem?_map]at hv
  cases e:(List.range n)[j]? with
  |none=>simp[e]at hv
  |some k=>
   obtain⟨hj,hk⟩:=List.getElem?_eq_some_iff.1 e
   simp at hk hj;subst hk
   simp[e]at hv
   rw[List.getElem?_take]at hp
   rw[if_pos hj,List.getElem?_drop]at hp
   obtain⟨x,hx,hr⟩:=h.get (f+j) p hp
   rw[show off+(f+j)=off+f+j from by omega]at hx
   rw[hx]at hv
   simp at hv;subst hv
   simpa using hr
theorem Lhz {X:Ctx} {fl:Bool} {v:Value} {p:PV} (h:Rd X.w.heap (X.V fl) v p):Rd X.w.heap (X.V (!p.scalar&&fl)) v p:=by
 cases hs:p.scalar with
 |true=>exact h.scalar hs
 |false=>simpa[hs]using h
theorem WAz {X:Ctx} {fl:Bool} {s o:Nat} {q:Path} {i j:Nat} {v:Value} {p:PV} (h:X.ORd fl s o (q++[(i,j)]) v p):∀k j',CVRel X k j' v (p.cell s o q fl i j):=by
 intro k j'
 cases p with
 |o es rows=>exact NNz h
 |un=>exact .dead v
 |_=>exact .sh _ _ v (Lhz (h.flat rfl))
theorem OMz {X:Ctx} {fl:Bool} {s o:Nat} {q:Path} {i:Nat}:∀{vs:List Value} {row:List PV} {j0:Nat},vs.length=row.length→(∀(j:Nat) (v:Value) (p:PV),vs[j]? =some v→row[j]? =some p→X.ORd fl s o (q++[(i,j0+j)]) v p)→
  VCells X vs (Cbz s o q fl i j0 row)
 |[],[],_,_,_=> .nil
 |[],_::_,_,h,_=>by simp at h
 |_::_,[],_,h,_=>by simp at h
 |v::vs,p::row,j0,h,hr=> .cons v _ vs _ (WAz (by simpa using hr 0 v p rfl rfl)) (OMz (by simpa using h) fun j v p h1 h2=>by
   have:=hr (j+1) v p (by simpa using h1) (by simpa using h2)
   rwa[show j0+(j+1)=j0+1+j from by omega]at this)
theorem Uhz {X:Ctx} {fl:Bool} {v:Value} {p:PV} (h:Rd X.w.heap (X.V fl) v p):∀k j,CVRel X k j v (p.cellS fl):=by
 intro k j
 cases p with
 |o es rows=>exact .dead v
 |un=>exact .dead v
 |_=>exact .sh _ _ v (Lhz h)
theorem Lyz {X:Ctx} {fl:Bool}:∀{vs:List Value} {row:List PV},vs.length=row.length→(∀(j:Nat) (v:Value) (p:PV),vs[j]? =some v→row[j]? =some p→Rd X.w.heap (X.V fl) v p)→
  VCells X vs (row.map (PV.cellS fl))
 |[],[],_,_=> .nil
 |[],_::_,h,_=>by simp at h
 |_::_,[],h,_=>by simp at h
 |v::vs,p::row,h,hr=> .cons v _ vs _ (Uhz (hr 0 v p rfl rfl)) (Lyz (by simpa using h) fun j v p h1 h2=>hr (j+1) v p (by simpa using h1) (by simpa using h2))
theorem shaped {X:Ctx} {ag:Bool} {v:Value} {vs:List Value} {l:List CV} (h:(ag=true∧v= .agg vs.toArray)∨(ag=false∧vs=[v])) (hn:ag=false→∀cs,v≠ .agg cs) (hc:VCells X vs l):OSV X v (.c (if ag then .agg else .one) l):=by
 rcases h with⟨rfl,rfl⟩|⟨rfl,rfl⟩
 ·exact D6z (by simpa using Flat.agg vs.toArray) hc
 ·exact D6z (.one v (hn rfl)) hc
theorem Kzz {X:Ctx} {k j:Nat} {v:Value} {c:CV} (h:CVRel X k j v c) (hd:c≠ .dead):∀cs,v≠ .agg cs:=by
 intro cs e
 cases h with
 |sh f p v h=>exact EHz h cs e
 |ow0=>cases e
 |ow f es rows v blk off cap c elem fr h=>rw[h.val]at e;cases e
 |br0=>cases e
 |br s o q kd lo f es rows v blk base tip cap c elem fr h=>rw[h.val]at e;cases e
 |brv s o q lo f es rows v h=>cases h<;>cases e
 |dead=>exact hd rfl
theorem Rzz {n j:Nat} {l r:List CV} (h:part n j l=some r):j+n≤l.length∧r=(l.drop j).take n:=by
 unfold part at h
 split at h
 ·rename_i hle;injection h with h;exact⟨hle,h.symm⟩
 ·simp at h
theorem Xiz {X:Ctx} {vs:List Value} {σ:St} {E:Nat→Nat→Prop} (h:Good X vs σ E) {s:Nat} {l:List CV} (hs:σ.getD s .undef= .c .box l):
  ∃blk base tip c elem fr,X.own blk=some (s,0,[],base,tip)∧X.w.heap[blk]? =some (.cells c elem fr)∧free fr c.size∧CellsRel X s 0 c.toList l∧vs[s]? =some (.pointer (some ⟨blk,0,none⟩)):=by
 rw[List.getD_eq_getElem?_getD]at hs
 cases e:σ[s]? with
 |none=>rw[e]at hs;simp at hs
 |some x=>
  rw[e]at hs
  simp at hs
  subst hs
  have hlt:=(List.getElem?_eq_some_iff.1 e).1
  have hlt':s<vs.length:=by rw[h.frame.1];exact hlt
  have hv:=List.getElem?_eq_getElem hlt'
  have:=h.frame.2 s _ _ hv e
  generalize vs[s]=v at *
  cases this with
  |c _ _ _ _ hf _=>cases hf
  |box blk base tip c elem fr l ho hb hfr hc=>exact⟨blk,base,tip,c,elem,fr,ho,hb,hfr,hc,hv⟩
theorem NYz {P:Program} {T:Tys} (hT:TOk P T) {X:Ctx} {vs:List Value} {σ:St} {E:Nat→Nat→Prop} (hg:Good X vs σ E) {t:TypeId} {v:Value} {x y:SV} (hx:OSV X v x) (h:C4z T σ t x=some y):
  ∃v',(∀w',Ext X.w w'→(Instr.loadAt t v).run P w'= .ok v' w')∧OSV X v' y:=by
 unfold C4z at h
 cases e1:T.sz t with
 |none=>simp[e1]at h
 |some n=>
  cases e2:T.ag t with
  |none=>simp[e1,e2]at h
  |some ag=>
   simp only[e1,e2,Option.bind_some]at h
   split at h
   ·simp at h
   rename_i hn1
   have hn:ag=false→n=1:=fun e=>by
    by_cases h1:n=1
    ·exact h1
    ·exact absurd ⟨e,h1⟩ hn1
   split at h
   ·rename_i s o
    split at h
    ·rename_i l hl
     obtain⟨blk,base,tip,c,elem,fr,ho,hb,hfr,hc,hv⟩:=Xiz hg hl
     cases e3:part n o (Acz (CV.view s) 0 l)with
     |none=>simp[e3]at h
     |some r=>
      simp only[e3,Option.bind_some]at h
      split at h
      case isFalse=>simp at h
      rename_i hdead
      injection h with h
      obtain⟨hle,hr⟩:=Rzz e3
      have h0:=hx 0
      cases h0 with
      |bp _ _ blk' base' tip' ho'=>
       have e4:=hg.inv.one _ _ _ _ _ _ _ _ _ ho' ho
       subst e4
       have hvc:VCells X ((c.toList.drop o).take n) r:=by rw[hr];exact(VCells.view hc).drop o|>.take n
       have hlen:((c.toList.drop o).take n).length=n:=by rw[hvc.length,hr];simp;omega
       obtain⟨v',hrun,hsh⟩:=Fzz (P:=P) hT e1 e2 hn (b:=blk') (o:=o) hlen
       refine⟨v',fun w' hw'=>by
        simp only[Instr.loadAt,Sem.run_bind,Gxz,Result.andThen_ok]
        exact hrun w' fun j v hj=>by
         rw[CWz (hw' _ _ hb)]
         rw[List.getElem?_take]at hj
         split at hj
         ·rw[List.getElem?_drop]at hj;simpa using hj
         ·simp at hj,?_⟩
       subst h
       refine shaped hsh (fun e cs hcs=> ?_) hvc
       subst e
       rcases hsh with⟨e,_⟩|⟨_,e⟩
       ·cases e
       ·rw[e]at hvc
        cases hvc with
        |cons _ c1 _ _ hc1 ht=>
         cases ht
         have hne:c1≠ .dead:=fun e=>by subst e;simp[CV.isDead]at hdead
         exact Kzz (hc1 0 0) hne cs hcs
    ·simp at h
   ·rename_i s o q kd fl es i f row
    split at h
    ·rename_i hle
     split at h
     case isFalse=>simp at h
     rename_i hdead
     injection h with h;subst h
     have h0:=hx 0
     have key:∀(blk off:Nat) (c:Array Value) (elem:TypeId) (fr:Nat×Nat),X.w.heap[blk]? =some (.cells c elem fr)→X.ORow fl s o q i 0 c off row→
       ∃v',(∀w',Ext X.w w'→(Instr.loadAt t (.pointer (some ⟨blk,off+f,none⟩))).run P w'= .ok v' w')∧OSV X v' (.c (if ag then .agg else .one) (Cbz s o q fl i f ((row.drop f).take n))):=by
      intro blk off c elem fr hb hr
      obtain⟨ws,h1,h2,h3⟩:=KWz hr f n hle
      obtain⟨v',hrun,hsh⟩:=Fzz (P:=P) hT e1 e2 hn (b:=blk) (o:=off+f) h1
      have hvc:=OMz (X:=X) (fl:=fl) (s:=s) (o:=o) (q:=q) (i:=i) (vs:=ws) (row:=(row.drop f).take n) (j0:=f) (by rw[h1];simp;omega) h3
      refine⟨v',fun w' hw'=>by simp only[Instr.loadAt,Sem.run_bind,Gxz,Result.andThen_ok];exact hrun w' fun j v hj=>by rw[CWz (hw' _ _ hb)];exact h2 j v hj,shaped hsh (fun e cs hcs=> ?_) hvc⟩
      rcases hsh with⟨e',_⟩|⟨_,e'⟩
      ·subst e;cases e'
      ·have hp:((row.drop f).take n)[0]? =some (((row.drop f).take n)[0]'(by rw[List.length_take,List.length_drop];have:=hn e;omega)):=List.getElem?_eq_getElem _
       exact(C3z (h3 0 v' _ (by rw[e'];rfl) hp)).2 cs hcs
     cases h0 with
     |ep _ _ _ _ _ _ _ _ _ blk off base tip c elem fr ho he hl hb hfr hr=>obtain⟨v',h1,h2⟩:=key blk _ c elem fr hb hr;exact⟨v',h1,h2⟩
     |epv _ _ _ _ _ _ _ _ blk off c elem fr hv hb hr=>obtain⟨v',h1,h2⟩:=key blk _ c elem fr hb hr;exact⟨v',h1,h2⟩
    ·simp at h
   ·rename_i fl row f
    split at h
    ·rename_i hle
     split at h
     case isFalse=>simp at h
     rename_i hdead
     injection h with h;subst h
     have h0:=hx 0
     cases h0 with
     |sp _ _ _ blk off c elem fr hv hb hr=>
      obtain⟨ws,h1,h2,h3⟩:=KWz (s:=0) (o:=0) (q:=[]) (i0:=0) (hr.asO [] 0 0) f n hle
      have h4:∀(j:Nat) (v:Value) (p:PV),ws[j]? =some v→((row.drop f).take n)[j]? =some p→Rd X.w.heap (X.V fl) v p:=fun j v p hv hp=>by
       rw[List.getElem?_take]at hp
       split at hp
       ·rw[List.getElem?_drop]at hp
        obtain⟨x,hx,hxr⟩:=hr.get (f+j) p hp
        have:=h2 j v hv
        rw[show off+(f+j)=off+f+j from by omega,this]at hx
        injection hx with hx;subst hx
        exact hxr
       ·simp at hp
      obtain⟨v',hrun,hsh⟩:=Fzz (P:=P) hT e1 e2 hn (b:=blk) (o:=off+f) h1
      have hvc:=Lyz (X:=X) (fl:=fl) (vs:=ws) (row:=(row.drop f).take n) (by rw[h1];simp;omega) h4
      refine⟨v',fun w' hw'=>by simp only[Instr.loadAt,Sem.run_bind,Gxz,Result.andThen_ok];exact hrun w' fun j v hj=>by rw[CWz (hw' _ _ hb)];exact h2 j v hj,shaped hsh (fun e cs hcs=> ?_) hvc⟩
      rcases hsh with⟨e',_⟩|⟨_,e'⟩
      ·subst e;cases e'
      ·have hp:((row.drop f).take n)[0]? =some (((row.drop f).take n)[0]'(by rw[List.length_take,List.length_drop];have:=hn e;omega)):=List.getElem?_eq_getElem _
       exact EHz (h4 0 v' _ (by rw[e'];rfl) hp) cs hcs
    ·simp at h
   ·simp at h
theorem Pkz {P:Program} {T:Tys} (hT:TOk P T) {X:Ctx} {vs:List Value} {σ:St} {E:Nat→Nat→Prop} (hg:Good X vs σ E) {t:TypeId} {v:Value} {x y:SV} (hx:OSV X v x) (h:C4z T σ t x=some y):
  ∃v',(Instr.loadAt t v).run P X.w= .ok v' X.w∧OSV X v' y:=by
 obtain⟨v',h1,h2⟩:=NYz (P:=P) hT hg hx h
 exact⟨v',h1 _ (.refl _),h2⟩
end Go.Proofs.YtblelojdboefjaaGreatDoor.R
namespace Go.Proofs.YtblelojdboefjaaGreatDoor.R
open Go
structure Pushes (w w':World) (o:Obj):Prop where
 heap:w'.heap=w.heap.push o
 os:w'.os=w.os
 tape:w'.tape=w.tape
 output:w'.output=w.output
theorem Pushes.old {w w':World} {o:Obj} (h:Pushes w w' o) {b:Nat} (hb:b<w.heap.size):w'.heap[b]? =w.heap[b]? :=by
 rw[h.heap,Array.getElem?_push,if_neg (by omega)]
theorem Pushes.new {w w':World} {o:Obj} (h:Pushes w w' o):w'.heap[w.heap.size]? =some o:=by
 rw[h.heap,Array.getElem?_push,if_pos rfl]
theorem Pushes.size {w w':World} {o:Obj} (h:Pushes w w' o):w'.heap.size=w.heap.size+1:=by
 rw[h.heap,Array.size_push]
def Ctx.made (X:Ctx) (w':World) (t:Own):Ctx:={X with w:=w',own:=fun b=>if b=X.w.heap.size then some t else X.own b}
theorem FNz {X:Ctx} {w':World} {o:Obj} {t:Own} (h:Pushes X.w w' o):Goes X (X.made w' t)where
 os:=h.os
 tape:=h.tape
 output:=h.output
 size:=by show X.w.heap.size≤w'.heap.size;rw[h.size];omega
 keep:=fun b hb _=>h.old hb
 va:=rfl
 vs:=fun _ h=>h
 vs':=fun _ h=> .inl h
 own':=fun b hb=>by
  by_cases e:b=X.w.heap.size
  ·exact .inr (by omega)
  ·refine .inl ?_
   simpa[Ctx.made,e]using hb
theorem UAz {X:Ctx} {w':World} {t:Own} (hi:Inv X) {b:Nat} {u:Own} (h:X.own b=some u):(X.made w' t).own b=some u:=by
 have:=(hi.own b u h).1
 simp only[Ctx.made]
 rw[if_neg (by omega)]
 exact h
theorem FMz {X:Ctx} {w':World} {o:Obj} {t:Own} (hi:Inv X) (h:Pushes X.w w' o):Mono X (X.made w' t):=
 (FNz h).mono hi fun b u hb=>⟨UAz hi hb,h.old (hi.own b u hb).1⟩
theorem HYz {X:Ctx} {w':World} {o:Obj} {d p base tip:Nat} (hi:Inv X) (h:Pushes X.w w' o) (hf:∀b base tip,X.own b≠some (d,p,[],base,tip)):Inv (X.made w' (d,p,[],base,tip))where
 own:=fun b t hb=>by
  simp only[Ctx.made]at hb ⊢
  by_cases e:b=X.w.heap.size
  ·subst e
   exact⟨by rw[h.size];omega,fun hv=>by have:=hi.vs _ hv;omega,fun hv=>by have:=hi.va _ hv;omega⟩
  ·rw[if_neg e]at hb
   have:=hi.own b t hb
   exact⟨by rw[h.size];omega,this.2⟩
 one:=fun b b' s q r base1 tip1 base2 tip2 h1 h2=>by
  simp only[Ctx.made]at h1 h2
  by_cases e:b=X.w.heap.size
  ·by_cases e':b'=X.w.heap.size
   ·omega
   ·rw[if_pos e]at h1
    rw[if_neg e']at h2
    injection h1 with h1;injection h1 with h1 h3;injection h3 with h3 h4;injection h4 with h4 _
    subst h1;subst h3;subst h4
    exact absurd h2 (hf _ _ _)
  ·rw[if_neg e]at h1
   by_cases e':b'=X.w.heap.size
   ·rw[if_pos e']at h2
    injection h2 with h2;injection h2 with h2 h3;injection h3 with h3 h4;injection h4 with h4 _
    subst h2;subst h3;subst h4
    exact absurd h1 (hf _ _ _)
   ·rw[if_neg e']at h2
    exact hi.one _ _ _ _ _ _ _ _ _ h1 h2
 vs:=fun b hb=>by show b<w'.heap.size;rw[h.size];have:=hi.vs b hb;omega
 va:=fun b hb=>by show b<w'.heap.size;rw[h.size];have:=hi.va b hb;omega
theorem ENz {X:Ctx} {w':World} {d p base tip:Nat} {b:Nat} {t:Own} (h:(X.made w' (d,p,[],base,tip)).own b=some t):X.own b=some t∨t=(d,p,[],base,tip):=by
 simp only[Ctx.made]at h
 by_cases e:b=X.w.heap.size
 ·rw[if_pos e]at h;injection h with h;exact .inr h.symm
 ·rw[if_neg e]at h;exact .inl h
theorem IPz {X:Ctx} {w':World} {c:Array Value} {elem:TypeId} {fr:Nat×Nat} (hi:Inv X) {d:Nat} (hf:Free X d 0) (h:Pushes X.w w' (.cells c elem fr)) (hfr:free fr c.size) {f:Bool} {es cap:Nat} {rows:List (List PV)} (hcap:rows.length≤cap)
  (hfit:cap*es≤c.size) (hr:∀X':Ctx,Mono X X'→X'.w=w'→R.ORows w'.heap (X'.V f) X'.own d 1 [] 0 c 0 es rows):
  PureRes X (X.made w' (d,1,[],0,rows.length)) d (.slice (some ⟨X.w.heap.size,0,none⟩) rows.length cap) (.c .one [.ow f es rows])where
 goes:=FNz h
 mono:=FMz hi h
 inv:=HYz hi h fun b base tip=>hf b [] base tip
 new:=fun b t hb=>(ENz hb).imp id fun e=>by rw[e]
 rel:= .c .one _ [_] _ (.one _ (fun cs e=>nomatch e)) (.cons 0 _ _ _ _ (.ow f es rows _ X.w.heap.size 0 cap c elem fr ⟨rfl,hcap,by simp[Ctx.made],h.new,by simpa using hfit,hfr,hr _ (FMz hi h) rfl⟩) (.nil 1))
 tag:=fun b p q base tip hb=>(ENz hb).imp id fun e=>by
  injection e with _ e;injection e with e _
  have:p=0:=by omega
  subst this
  rfl
 tagb:=fun b q base tip hb=>(ENz hb).imp id fun e=>by
  injection e with _ e;injection e with e _
  omega
theorem OUz {P:Program} {X:Ctx} {x:Option SV} {xv:Option Value} (hx:∀v,xv=some v→∃s,x=some s∧OSV X v s) (hn:xv=none→x=none) {n d r:Nat} (h:bound x n d=some r) (code:BoundsCode):
  (match xv with|some v=>Instr.sliceBound v n code|none=>pure d).run P X.w= .ok r X.w∧(xv.isSome=true→r≤n)∧(xv=none→r=d):=by
 cases xv with
 |none=>
  have:=hn rfl
  subst this
  simp only[bound]at h
  injection h with h;subst h
  exact⟨rfl,by simp,fun _=>rfl⟩
 |some v=>
  obtain⟨s,rfl,hs⟩:=hx v rfl
  simp only[bound]at h
  cases e:s.int? with
  |none=>simp[e]at h
  |some ki=>
   obtain⟨k,i⟩:=ki
   simp only[e,Option.bind_some]at h
   have hv:=EBz hs e
   subst hv
   split at h
   ·rename_i hb
    injection h with h;subst h
    refine⟨?_,fun _=>by omega,by simp⟩
    simp only[Instr.sliceBound,asIntOf,Sem.run_bind,Sem.run_pure,Result.andThen_ok]
    rw[if_pos hb]
    rfl
   ·simp at h
theorem K5z:∀{rows:List (List PV)} {l:List UInt8},bytes? rows=some l→∃xs:List Int,rows=xs.map (fun n=>[.i .u8 n])∧l=xs.map fun n=>UInt8.ofNat n.toNat
 |[],l,h=>by simp only[bytes?]at h;injection h with h;subst h;exact⟨[],rfl,rfl⟩
 |r::rs,l,h=>by
  unfold bytes? at h
  split at h
  ·injection h with h;subst h;rename_i e;cases e
  ·rename_i n l' e
   cases e
   cases e2:bytes? rs with
   |none=>simp[e2]at h
   |some l2=>
    simp[e2]at h;subst h
    obtain⟨xs,h1,h2⟩:=K5z e2
    exact⟨n::xs,by simp[h1],by simp[h2]⟩
  ·simp at h
theorem VRz {X:Ctx} {V:Nat→Prop} (s:ByteArray) (cap:Nat):RdRows X.w.heap V (bytesRow s cap) 0 1 (BHz s):=by
 refine RdRows.mk fun i row hi=> ?_
 simp only[BHz,List.getElem?_map]at hi
 cases e:s.data.toList[i]? with
 |none=>simp[e]at hi
 |some b=>
  simp[e]at hi;subst hi
  refine⟨rfl,.cons _ _ (.int .u8 (b.toNat:Int)) _ _ ?_ (.i .u8 _) (.nil _ _)⟩
  have hb:s.data[i]? =some b:=by simpa using e
  have hlt:=(Array.getElem?_eq_some_iff.1 hb).1
  simp only[bytesRow,Nat.zero_mul,Nat.mul_one,Nat.zero_add]
  rw[Array.getElem?_append_left (by simpa using hlt)]
  simp[hb]
theorem CPz (s:ByteArray):(BHz s).length=s.size:=by
 unfold BHz;rw[List.length_map,Array.length_toList];rfl
theorem Xfz (w:World) (n old:Nat) (e:TypeId):n≤grownCap w n old e:=by
 unfold grownCap Question.cut
 simp
theorem AAz {α β:Type} {o:Option α} {f:α→Option β} {y:β} (h:o.bind f=some y):∃x,o=some x∧f x=some y:=by
 cases o with
 |none=>simp at h
 |some x=>exact⟨x,rfl,h⟩
theorem V8z {P:Program} {T:Tys} (hT:TOk P T) {X:Ctx} (hi:Inv X) {d:Nat} (hf:Free X d 0) {s t:TypeId} {v:Value} {x y:SV} (hx:OSV X v x) (h:GEz T s t x=some y):
  ∃v' X',(convert s t v).run P X.w= .ok v' X'.w∧PureRes X X' d v' y:=by
 unfold GEz at h
 split at h
 ·rename_i k n hp
  have hv:=Ccz hx hp rfl
  subst hv
  split at h
  ·rename_i k1 k2 h1 h2
   injection h with h;subst h
   exact⟨.int k2 (k2.wrap n),X,by simp[convert,A9z (hT.ik _ _ h1),A9z (hT.ik _ _ h2),PV.val,Conv.intToInt],.same hi (CQz (p:= .i k2 (k2.wrap n)) rfl)⟩
  ·rename_i k1 h1 h2
   split at h
   ·rename_i h3
    injection h with h;subst h
    exact⟨.string (Utf8.encode n),X,by simp[convert,A9z (hT.ik _ _ h1),A9z (hT.str _ h3),PV.val,Conv.intToString],.same hi (CQz (p:= .t (Utf8.encode n)) rfl)⟩
   ·simp at h
  ·simp at h
 ·rename_i st hp
  have hv:=Ccz hx hp rfl
  subst hv
  split at h
  ·rename_i h1
   split at h
   ·rename_i h2
    injection h with h;subst h
    exact⟨.string st,X,by simp[convert,A9z (hT.str _ h1),A9z (hT.str _ h2),PV.val],.same hi (CQz (p:= .t st) rfl)⟩
   ·split at h
    ·rename_i h2
     injection h with h;subst h
     obtain⟨e,h3,h4⟩:=AAz h2
     have hd:=hT.sl _ _ h3
     have he:=hT.ik _ _ h4
     have run:=run_bytes_of_string (P:=P) X.w s t e st (hT.str _ h1) hd he
     generalize hcap:grownCap X.w st.size 0 e=cap at run
     have hle:st.size≤cap:=hcap▸Xfz X.w st.size 0 e
     have hpush:Pushes X.w (X.w.drew.alloc (.cells (bytesRow st cap) e ((bytesRow st cap).size,(bytesRow st cap).size+1))) (.cells (bytesRow st cap) e ((bytesRow st cap).size,(bytesRow st cap).size+1)):=⟨rfl,rfl,rfl,rfl⟩
     have hsz:(bytesRow st cap).size=cap:=by
      unfold bytesRow;rw[Array.size_append,Array.size_map,Array.size_replicate];have:st.data.size=st.size:=rfl;omega
     refine⟨_,X.made (X.w.drew.alloc (.cells (bytesRow st cap) e ((bytesRow st cap).size,(bytesRow st cap).size+1))) (d,1,[],0,(BHz st).length),run,?_⟩
     rw[show st.size=(BHz st).length from(CPz st).symm]
     exact IPz (f:=false) (es:=1) (cap:=cap) (rows:=BHz st) hi hf hpush (fun o ho h=>by omega) (by rw[CPz];exact hle) (by omega) (fun X' _ hw=>by
      have:=VRz (X:=X') (V:=X'.V false) st cap
      rw[hw]at this
      exact this.asO [] 0)
    ·simp at h
  ·simp at h
 ·rename_i es rows hp
  split at h
  ·rename_i h1
   split at h
   ·rename_i h2
    cases e1:bytes? rows with
    |none=>simp[e1]at h
    |some l=>
     simp[e1]at h;subst h
     obtain⟨h2,rfl⟩:=h2
     obtain⟨e,h3,h4⟩:=AAz h1
     have hs:=hT.sl _ _ h3
     have he:=hT.ik _ _ h4
     have hd:=hT.str _ h2
     obtain⟨xs,hxs,rfl⟩:=K5z e1
     obtain⟨⟨V,hr⟩,_⟩:=QVz hx hp
     refine⟨.string (strOfNums xs),X,?_,.same hi (CQz (p:= .t (strOfNums xs)) rfl)⟩
     cases hr with
     |s0 a cap _=>
      have:xs=[]:=by cases xs with|nil=>rfl|cons _ _=>simp at hxs
      subst this
      cases a with
      |none=>exact run_convert_bytes_nil X.w s e hs he 0 cap t hd
      |some ad=>
       rw[run_convert_bytes_string X.w s t e (some ad) 0 cap hs he hd,run_bytesToString X.w ad 0 cap [] (by simp[loadCells,loadCellsFrom])]
       rfl
     |s blk off n cap _ c elem fr _ hv hb hn hcap hrr=>
      subst hn
      refine run_convert_bytes_arg X.w s e hs he blk off rows.length cap xs (by rw[hxs];simp) (fun i hi=> ?_) t hd
      rw[CWz hb]
      have hi':i<xs.length:=by rw[hxs]at hi;simpa using hi
      have hrow:rows[i]? =some [.i .u8 xs[i]]:=by rw[hxs];simp[hi']
      obtain⟨_,g⟩:=hrr.get i _ hrow
      obtain⟨x,hx1,hx2⟩:=g.get 0 _ rfl
      simp only[Nat.mul_one,Nat.add_zero]at hx1
      rw[hx1]
      cases hx2
      simp[List.getD_eq_getElem?_getD,hi']
   ·simp at h
  ·simp at h
 ·simp at h
end Go.Proofs.YtblelojdboefjaaGreatDoor.R
namespace Go.Proofs.YtblelojdboefjaaGreatDoor.R
open Go
def HEz (X:Ctx) (xv:Option Value) (x:Option SV):Prop:=(∀v,xv=some v→∃s,x=some s∧OSV X v s)∧(xv=none→x=none)
theorem DFz {P:Program} {X:Ctx} {lo hi:Option Value} {x y:Option SV} (hx:HEz X lo x) (hy:HEz X hi y) {isS:Bool} {n len cap h l:Nat} (hn:n=len) (hc:len≤cap)
    (e1:bound y n n=some h) (e2:bound x h 0=some l):(Instr.sliceBounds isS len cap lo hi none).run P X.w= .ok (l,h,cap) X.w∧h≤n∧l≤h∧(lo=none→l=0)∧(hi=none→h=n):=by
  subst hn
  obtain⟨r1,b1,d1⟩:=OUz (P:=P) (X:=X) (x:=y) (xv:=hi) hy.1 hy.2 (n:=n) (d:=n) (r:=h) e1 (if isS then BoundsCode.sliceAcap else .sliceAlen)
  obtain⟨r2,b2,d2⟩:=OUz (P:=P) (X:=X) (x:=x) (xv:=lo) hx.1 hx.2 (n:=h) (d:=0) (r:=l) e2 BoundsCode.sliceB
  have hh:h≤n:=by
    cases hi with
    |none=>rw[d1 rfl];exact Nat.le_refl _
    |some v=>exact b1 rfl
  have hl:l≤h:=by
    cases lo with
    |none=>rw[d2 rfl];exact Nat.zero_le _
    |some v=>exact b2 rfl
  refine⟨?_,hh,hl,fun e=>d2 e,fun e=>d1 e⟩
 
  have r1':(match hi with|some v=>Instr.sliceBound v cap (if isS then BoundsCode.sliceAcap else .sliceAlen)|none=>pure n).run P X.w= .ok h X.w:=by
    cases hi with
    |none=>exact r1
    |some v=>
      obtain⟨s,rfl,hs⟩:=hy.1 v rfl
      simp only[bound]at e1
      obtain⟨⟨k,i⟩,e3,e4⟩:=AAz e1
      have hv:=EBz hs e3
      subst hv
      simp only at e4
      split at e4
      · rename_i hb
        injection e4 with e4;subst e4
        simp only[Instr.sliceBound,asIntOf,Sem.run_bind,Sem.run_pure,Result.andThen_ok]
        rw[if_pos ⟨hb.1,by omega⟩]
        rfl
      · simp at e4
  unfold Instr.sliceBounds
  cases hi with
  |none=>
    cases lo with
    |none=>
      have:=d1 rfl;have:=d2 rfl
      simp_all
    |some v=>
      have:=d1 rfl
      subst this
      simp only[Sem.run_bind,Sem.run_pure,Result.andThen_ok]at r2 ⊢
      simp only[Option.isSome_none,Bool.false_eq_true,if_false]
      rw[r2]
      rfl
  |some u=>
    simp only[Sem.run_bind,Sem.run_pure,Result.andThen_ok]at r1' ⊢
    rw[r1']
    simp only[Result.andThen_ok]
    cases lo with
    |none=>have:=d2 rfl;subst this;rfl
    |some v=>
      simp only[Option.isSome_none,Bool.false_eq_true,if_false,Sem.run_bind]at r2 ⊢
      rw[r2]
      rfl
theorem Tnz {X:Ctx} {V:Nat→Prop} {c:Array Value} {off es:Nat} {rows:List (List PV)} (h:RdRows X.w.heap V c off es rows) (a b:Nat):RdRows X.w.heap V c (off+a*es) es ((rows.take b).drop a):=by
 refine RdRows.mk fun i row hi=> ?_
 rw[List.getElem?_drop,List.getElem?_take]at hi
 split at hi
 ·obtain⟨h1,h2⟩:=h.get _ _ hi
  refine⟨h1,?_⟩
  have:off+(a+i)*es=off+a*es+i*es:=by rw[Nat.add_mul];omega
  rw[←this];exact h2
 ·simp at hi
theorem Lez {rows:List (List PV)} {l h:Nat} (h1:h≤rows.length) (h2:l≤h):((rows.take h).drop l).length=h - l:=by
 simp;omega
theorem ERz {P:Program} {T:Tys} (hT:TOk P T) {w:World} {t:TypeId} {es:Nat} (ht:(T.sl t).bind T.sz=some es) {a:Option Addr} {n cap l h:Nat} {lo hi:Option Value}
  (hr:(Instr.sliceBounds true n cap lo hi none).run P w= .ok (l,h,cap) w):
  (Instr.sliceAt t (.slice a n cap) lo hi none).run P w= .ok (.slice (if cap=l then a else a.map (·.add (l*es))) (h - l) (cap - l)) w:=by
 obtain⟨e,h1,h2⟩:=AAz ht
 have hu:=hT.sl t e h1
 obtain⟨i,hi,hn⟩:=hT.sz e es h2
 simp only[Instr.sliceAt,Sem.run_bind,A9z hu,Result.andThen_ok,Instr.slice,hr,Dqz hi,hn,Sem.run_pure]
theorem Tfz {P:Program} {T:Tys} (hT:TOk P T) {X:Ctx} {t:TypeId} {v:Value} {x y:SV} {lo hi:Option Value} {lx hx':Option SV} (hx:OSV X v x) (hlo:HEz X lo lx) (hhi:HEz X hi hx')
  (h:Ewz T t x lx hx'=some y):∃v',(Instr.sliceAt t v lo hi none).run P X.w= .ok v' X.w∧OSV X v' y:=by
 unfold Ewz at h
 obtain⟨c,e1,h⟩:=AAz h
 obtain⟨hc,hna⟩:=FJz hx e1
 have one:∀{v':Value} {cv:CV},(∀cs,v'≠ .agg cs)→(∀k j,CVRel X k j v' cv)→OSV X v' (.c .one [cv]):=fun h1 h2=>D6z (.one _ h1) (.cons _ _ _ _ h2 .nil)
 split at h
 ·rename_i f s
  split at h
  ·rename_i hs
   obtain⟨hh,e2,h⟩:=AAz h
   cases e3:bound lx hh 0 with
   |none=>simp[e3]at h
   |some l=>
    simp[e3]at h;subst h
    have hu:=hT.str t hs
    have:=hc 0
    cases this with
    |sh _ _ _ hr=>
     cases hr
     obtain⟨r,_,_,_,_⟩:=DFz (P:=P) hlo hhi (isS:=false) (n:=s.size) rfl (Nat.le_refl _) e2 e3
     refine⟨.string (s.extract l hh),?_,CQz (p:= .t (s.extract l hh)) rfl⟩
     simp only[Instr.sliceAt,Sem.run_bind,A9z hu,Result.andThen_ok,Instr.slice,Option.isSome_none,Bool.false_eq_true,if_false,r,Sem.run_pure]
  ·simp at h
 ·rename_i f es rows
  split at h
  ·rename_i ht
   obtain⟨hh,e2,h⟩:=AAz h
   cases e3:bound lx hh 0 with
   |none=>simp[e3]at h
   |some l=>
    simp[e3]at h;subst h
    have:=hc 0
    cases this with
    |sh _ _ _ hr=>
     cases hr with
     |s0 a cap _=>
      obtain⟨r,h1,h2,_,_⟩:=DFz (P:=P) hlo hhi (isS:=true) (n:=([]:List (List PV)).length) (len:=0) (cap:=cap) rfl (Nat.zero_le _) e2 e3
      simp at h1
      have hl:l=0:=by omega
      subst h1;subst hl
      refine⟨_,ERz hT ht r,one (fun cs e=>nomatch e) fun k j=> ?_⟩
      have:=CVRel.sh (X:=X) (k:=k) (j:=j) f (.s es []) _ (.s0 (if cap=0 then a else a.map (·.add (0*es))) (cap - 0) es)
      simpa using this
     |s blk off n cap _ cc elem fr _ hv hb hn hcap hrr=>
      subst hn
      obtain⟨r,h1,h2,_,_⟩:=DFz (P:=P) hlo hhi (isS:=true) (n:=rows.length) (len:=rows.length) (cap:=cap) rfl hcap e2 e3
      refine⟨_,ERz hT ht r,one (fun cs e=>nomatch e) fun k j=> .sh f _ _ ?_⟩
      have hlen:=Lez h1 h2
      by_cases hcl:cap=l
      ·rw[if_pos hcl]
       have:(rows.take hh).drop l=[]:=List.eq_nil_of_length_eq_zero (by omega)
       rw[this,show hh - l=0 from by omega]
       exact .s0 _ _ es
      ·rw[if_neg hcl]
       simp only[Option.map_some,DMz]
       exact .s blk (off+l*es) (hh - l) (cap - l) es cc elem fr _ hv hb hlen.symm (by omega) (Tnz hrr l hh)
  ·simp at h
 ·rename_i s o q kd at_ f es rows
  split at h
  ·rename_i ht
   obtain⟨hh,e2,h⟩:=AAz h
   cases e3:bound lx hh 0 with
   |none=>simp[e3]at h
   |some l=>
    simp only[e3,Option.map_some]at h
    injection h with h
    have hcv:=hc 0
    cases hcv with
    |br0 _ _ _ _ _ _ _ a=>
     obtain⟨r,h1,h2,_,_⟩:=DFz (P:=P) hlo hhi (isS:=true) (n:=([]:List (List PV)).length) (len:=0) (cap:=0) rfl (Nat.le_refl _) e2 e3
     simp at h1
     have hl:l=0:=by omega
     subst h1;subst hl
     refine⟨_,ERz hT ht r,?_⟩
     rw[←h]
     refine one (fun cs e=>nomatch e) fun k j=> ?_
     simpa using CVRel.br0 (X:=X) (k:=k) (j:=j) s o q _ _ f es a
    |br _ _ _ _ _ _ _ _ _ blk base tip cap cc elem fr hb=>
     obtain⟨r,h1,h2,h3,h4⟩:=DFz (P:=P) hlo hhi (isS:=true) (n:=rows.length) (len:=rows.length) (cap:=cap) rfl hb.le e2 e3
     have hlen:=Lez h1 h2
     have hle0:=hb.le
     rw[hb.val]
     refine⟨_,ERz hT ht r,?_⟩
     rw[←h]
     refine one (fun cs e=>nomatch e) fun k j=> ?_
     by_cases hcl:cap=l
     ·rw[if_pos hcl]
      have:(rows.take hh).drop l=[]:=List.eq_nil_of_length_eq_zero (by omega)
      rw[this,show hh - l=0 from by omega,show cap - l=0 from by omega]
      exact .br0 s o q _ _ f es _
     ·rw[if_neg hcl]
      simp only[Option.map_some,DMz]
      have hle:=hb.le
      have hfit:=hb.fits
      have hmul:(at_+l)*es=at_*es+l*es:=Nat.add_mul _ _ _
      have hcapm:(cap - l)*es+l*es=cap*es:=by rw[←Nat.add_mul,Nat.sub_add_cancel (by omega)]
      refine .br s o q _ (at_+l) f es _ _ blk base tip (cap - l) cc elem fr ⟨?_,by rw[hlen];omega,hb.own,hb.cells,by omega,hb.loose,by rw[hlen];have:=hb.tipLe;omega,?_,?_,?_⟩
      ·rw[hlen,hmul,←Nat.add_assoc]
      ·intro hk
       split at hk
       ·omega
       ·rename_i hns
        have hns':hi=none:=by
         cases hi with
         |none=>rfl
         |some u=>
          obtain⟨su,hsu,_⟩:=hhi.1 u rfl
          exact absurd (Or.inl (by simp[hsu])) hns
        have hh':=h4 hns'
        have hk1:kd≤1:=by
         by_cases hk2:kd≤1
         ·exact hk2
         ·exact absurd (.inr (by omega)) hns
        have:=hb.tip1 hk1
        rw[hlen];omega
      ·intro hk
       split at hk
       ·omega
       ·split at hk
        ·omega
        ·rename_i hns hl
         have hl':lo=none:=by
          cases lo with
          |none=>rfl
          |some u=>
           obtain⟨su,hsu,_⟩:=hlo.1 u rfl
           exact absurd (by simp[hsu]) hl
         have:=hb.lo0 hk
         have:=h3 hl'
         omega
      ·rw[hmul,←Nat.add_assoc];exact hb.reads.cut l hh
    |brv _ _ _ _ _ _ _ _ hr=>
     have hkd:(if hx'.isSome=true∨(2:Nat)≤2 then 2 else if lx.isSome=true then 1 else 2)=2:=by simp
     rw[hkd]at h
     cases hr with
     |s0 a cap=>
      obtain⟨r,h1,h2,_,_⟩:=DFz (P:=P) hlo hhi (isS:=true) (n:=([]:List (List PV)).length) (len:=0) (cap:=cap) rfl (Nat.zero_le _) e2 e3
      simp at h1
      have hl:l=0:=by omega
      subst h1;subst hl
      refine⟨_,ERz hT ht r,?_⟩
      rw[←h]
      refine one (fun cs e=>nomatch e) fun k j=> .brv s o q _ f es _ _ ?_
      have:=VRd.s0 (X:=X) (f:=f) (s:=s) (o:=o) (q:=q) (lo:=at_+0) (es:=es) (if cap=0 then a else a.map (·.add (0*es))) (cap - 0)
      simpa using this
     |s blk off n cap cc elem fr _ hv hb hn hcap hrr=>
      subst hn
      obtain⟨r,h1,h2,_,_⟩:=DFz (P:=P) hlo hhi (isS:=true) (n:=rows.length) (len:=rows.length) (cap:=cap) rfl hcap e2 e3
      refine⟨_,ERz hT ht r,?_⟩
      rw[←h]
      refine one (fun cs e=>nomatch e) fun k j=> .brv s o q _ f es _ _ ?_
      have hlen:=Lez h1 h2
      by_cases hcl:cap=l
      ·rw[if_pos hcl]
       have:(rows.take hh).drop l=[]:=List.eq_nil_of_length_eq_zero (by omega)
       rw[this,show hh - l=0 from by omega]
       exact .s0 _ _
      ·rw[if_neg hcl]
       simp only[Option.map_some,DMz]
       exact .s blk (off+l*es) (hh - l) (cap - l) cc elem fr _ hv hb hlen.symm (by omega) (hrr.cut l hh)
  ·simp at h
 ·simp at h
theorem V9z {P:Program} {T:Tys} (hT:TOk P T) {X:Ctx} {t:TypeId} {v vi:Value} {x ix y:SV} (hx:OSV X v x) (hix:OSV X vi ix) (h:GFz T t x ix=some y):∃v',(Instr.index t v vi).run P X.w= .ok v' X.w∧OSV X v' y:=by
 unfold GFz at h
 split at h
 ·rename_i s k i hs hi
  have e1:=Ccz hx hs rfl
  have e2:=EBz hix hi
  subst e1;subst e2
  split at h
  ·rename_i hc
   cases e:s.data[i.toNat]? with
   |none=>simp[e]at h
   |some b=>
    simp[e]at h;subst h
    refine⟨.int .u8 (b.toNat:Int),?_,CQz (p:= .i .u8 (b.toNat:Int)) rfl⟩
    have hlt:i.toNat<s.data.size:=(Array.getElem?_eq_some_iff.1 e).1
    have hb:s[i.toNat]? =some b:=by
     have h2:=(Array.getElem?_eq_some_iff.1 e).2
     have hlt':i.toNat<s.size:=hlt
     rw[getElem?_pos s i.toNat hlt']
     exact congrArg some h2
    simp only[Instr.index,asIntOf,Sem.run_bind,Sem.run_pure,Result.andThen_ok,A9z (hT.str t hc.1),PV.val]
    rw[if_pos hc.2,hb]
    rfl
  ·simp at h
 ·simp at h
theorem XFz {P:Program} {T:Tys} (hT:TOk P T) {X:Ctx} {v:Value} {x y:SV} {t ty:TypeId} (hx:OSV X v x) (h:Fjz T t x=some y):∃v',(Builtin.len_ #[t] ty #[v]).run P X.w= .ok v' X.w∧OSV X v' y:=by
 unfold Fjz at h
 split at h
 ·rename_i s hp
  have e1:=Ccz hx hp rfl
  subst e1
  split at h
  ·rename_i hs
   injection h with h;subst h
   exact⟨.int .i64 s.size,by simp[Builtin.len_,A9z (hT.str t hs),goInt,PV.val],CQz (p:= .i .i64 s.size) rfl⟩
  ·simp at h
 ·rename_i es rows hp
  obtain⟨⟨V,hr⟩,_⟩:=QVz hx hp
  split at h
  ·rename_i hs
   injection h with h;subst h
   obtain⟨e,he⟩:=Option.isSome_iff_exists.1 hs
   have hu:=hT.sl t e he
   refine⟨.int .i64 rows.length,?_,CQz (p:= .i .i64 rows.length) rfl⟩
   cases hr with
   |s0 a cap _=>simp[Builtin.len_,A9z hu,goInt]
   |s blk off n cap _ c elem fr _ hv hb hn hcap hrr=>subst hn;simp[Builtin.len_,A9z hu,goInt]
  ·simp at h
 ·simp at h
theorem Vez {P:Program} {X:Ctx} {v u:Value} {x y z:SV} (hx:OSV X v x) (hy:OSV X u y) (h:min2 x y=some z):∃v',(Builtin.min2 v u).run P X.w= .ok v' X.w∧OSV X v' z:=by
 unfold min2 at h
 split at h
 ·rename_i k a k' b h1 h2
  have e1:=EBz hx h1
  have e2:=EBz hy h2
  subst e1;subst e2
  injection h with h;subst h
  exact⟨.int k (if b<a then b else a),rfl,CQz (p:= .i k (if b<a then b else a)) rfl⟩
 ·simp at h
theorem Vgz {P:Program} {X:Ctx} {v u:Value} {x y z:SV} (hx:OSV X v x) (hy:OSV X u y) (h:max2 x y=some z):∃v',(Builtin.max2 v u).run P X.w= .ok v' X.w∧OSV X v' z:=by
 unfold max2 at h
 split at h
 ·rename_i k a k' b h1 h2
  have e1:=EBz hx h1
  have e2:=EBz hy h2
  subst e1;subst e2
  injection h with h;subst h
  exact⟨.int k (if b>a then b else a),rfl,CQz (p:= .i k (if b>a then b else a)) rfl⟩
 ·simp at h
inductive OSVs (X:Ctx):List Value→List SV→Prop
 |nil:OSVs X [] []
 |cons (v:Value) (x:SV) (vs:List Value) (l:List SV):OSV X v x→OSVs X vs l→OSVs X (v::vs) (x::l)
theorem LXz {P:Program} {X:Ctx} {g:SV→SV→Option SV} {m:Value→Value→Sem Value} (hg:∀v u x y z,OSV X v x→OSV X u y→g x y=some z→∃v',(m v u).run P X.w= .ok v' X.w∧OSV X v' z):
  ∀{vs:List Value} {l:List SV} {v:Value} {x y:SV},OSVs X vs l→OSV X v x→Cpz g x l=some y→∃v',(vs.foldlM m v).run P X.w= .ok v' X.w∧OSV X v' y
 |_,_,v,x,y,.nil,hx,h=>by
  simp only[Cpz]at h;injection h with h;subst h
  exact⟨v,rfl,hx⟩
 |_,_,v,x,y,.cons u z vs l hu ht,hx,h=>by
  simp only[Cpz]at h
  obtain⟨q,h1,h2⟩:=AAz h
  obtain⟨v1,r1,o1⟩:=hg _ _ _ _ _ hx hu h1
  obtain⟨v2,r2,o2⟩:=LXz hg ht o1 h2
  refine⟨v2,?_,o2⟩
  simp only[List.foldlM_cons,Sem.run_bind,r1,Result.andThen_ok]
  exact r2
end Go.Proofs.YtblelojdboefjaaGreatDoor.R
