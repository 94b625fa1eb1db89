/- An evaluator of Go functions over plain values: what a call answers, without memory. Here: the values, the state of a call, and the evaluator itself (no statement about the machine). -/
import Derived.RowKit3
import Derived.Below
import Derived.Orders
set_option linter.all false
namespace Go.Proofs.YtblelojdboefjaaGreatDoor.R
open Go
inductive PV where
 |i (k:IntKind) (n:Int)
 |b (x:Bool)
 |t (s:ByteArray)
 |s (es:Nat) (rows:List (List PV))
 |o (es:Nat) (rows:List (List PV))
 |un
 deriving Inhabited
abbrev Path:=List (Nat×Nat)
inductive CV where
 |sh (f:Bool) (p:PV)
 |ow (f:Bool) (es:Nat) (rows:List (List PV))
 |br (s o:Nat) (q:Path) (kd lo:Nat) (f:Bool) (es:Nat) (rows:List (List PV))
 |dead
 deriving Inhabited
mutual
def PV.er:PV→PV
 | .i k n=> .i k n
 | .b x=> .b x
 | .t s=> .t s
 | .s es rows=> .s es rows
 | .o es rows=> .s es (Adz rows)
 | .un=> .un
def Adz:List (List PV)→List (List PV)
 |[]=>[]
 |r::l=>Cxz r::Adz l
def Cxz:List PV→List PV
 |[]=>[]
 |p::l=>p.er::Cxz l
end
def PV.flat:PV→Bool
 | .o _ _=>false
 | .un=>false
 |_=>true
def CYz (l:List PV):Bool:=l.all PV.flat
def A4z (l:List (List PV)):Bool:=l.all CYz
def strip:Path→Path→Option Path
 |[],q=>some q
 |a::p,b::q=>if a=b then strip p q else none
 |_::_,[]=>none
def modP (g:PV→PV):Path→PV→PV
 |[],p=>g p
 |(i,j)::q,.o es rows=>match rows[i]? with
  |some row=>match row[j]? with
   |some p=> .o es (rows.set i (row.set j (modP g q p)))
   |none=> .o es rows
  |none=> .o es rows
 |_::_,p=>p
def getP:Path→PV→Option (Nat×List (List PV))
 |[],.o es rows=>some (es,rows)
 |(i,j)::q,.o es rows=>(rows[i]?).bind fun row=>(row[j]?).bind fun p=>getP q p
 |_,_=>none
def AKz (es0:Nat) (new:List (List PV)):PV→PV
 | .o es rows=>if es=es0∧rows.length=new.length then .o es new else .un
 |p=>p
def toX (_:PV):PV:= .un
inductive Shape where
 |one|agg|box
 |tup (l:List (Bool×Nat))
 deriving Inhabited
inductive SV where
 |undef
 |c (sh:Shape) (l:List CV)
 |bp (s o:Nat)
 |ep (s o:Nat) (q:Path) (kd:Nat) (fl:Bool) (es i f:Nat) (row:List PV)
 |sp (fl:Bool) (row:List PV) (f:Nat)
 |fn (g:FuncId) (caps:List Nat)
 deriving Inhabited
abbrev St:=List SV
structure Tys where
 sl:TypeId→Option TypeId
 sz:TypeId→Option Nat
 byt:TypeId→Option Nat
 ag:TypeId→Option Bool
 zr:TypeId→Option (List PV)
 fo:TypeId→Nat→Option Nat
 fz:TypeId→Nat→Option Nat
 ik:TypeId→Option IntKind
 str:TypeId→Bool
 boo:TypeId→Bool
 eqs:TypeId→Bool
 so:FuncId→Option (Nat→St→List SV→Option (St×SV)):=fun _=>none
 mo:Bool:=false
 al:Bool:=false
def CV.p?:CV→Option (Bool×PV)
 | .sh f p=>some (f,p)
 | .ow f es rows=>some (f,.s es (Adz rows))
 | .br _ _ _ _ _ f es rows=>some (f,.s es (Adz rows))
 | .dead=>none
def PV.scalar:PV→Bool
 | .s _ _=>false
 | .o _ _=>false
 | .un=>false
 |_=>true
def PV.cv (f:Bool):PV→CV
 | .s es []=> .ow false es []
 | .s es rows=> .sh f (.s es rows)
 |p=> .sh false p
def CV.view (k j:Nat):CV→CV
 | .ow f es rows=> .br k j [] 0 0 f es rows
 |c=>c
def Acz (g:Nat→CV→CV):Nat→List CV→List CV
 |_,[]=>[]
 |j,c::l=>g j c::Acz g (j+1) l
def SV.view (k:Nat):SV→SV
 | .c .box _=> .bp k 0
 | .c sh l=> .c sh (Acz (CV.view k) 0 l)
 |x=>x
abbrev EpMap:=Nat→Nat→Path→Option (Nat×Nat×Path)
def SV.mapC (g:Nat→CV→CV) (e:EpMap):SV→SV
 | .c sh l=> .c sh (Acz g 0 l)
 | .ep s o q kd fl es i f row=>match e s o q with
  |some (s',o',q')=> .ep s' o' q' kd fl es i f row
  |none=> .undef
 |x=>x
def Afz (g:Nat→Nat→CV→CV) (e:EpMap):Nat→St→St
 |_,[]=>[]
 |k,x::l=>x.mapC (g k) e::Afz g e (k+1) l
def demC (s o:Nat) (k j:Nat):CV→CV
 | .ow f es rows=>if k=s∧j=o then .sh f (.s es (Adz rows))else .ow f es rows
 | .br a b q kd lo f es rows=>if a=s∧b=o then .sh f (.s es (Adz rows))else .br a b q kd lo f es rows
 |c=>c
def Ayz (s o:Nat):EpMap:=fun a b q=>if a=s∧b=o then none else some (a,b,q)
def demote (s o:Nat) (σ:St):St:=Afz (demC s o) (Ayz s o) 0 σ
def mvC (s o s' o':Nat) (m:Option Nat) (k j:Nat):CV→CV
 | .ow f es rows=>if k=s∧j=o then(match m with
   |none=> .br s' o' [] 0 0 f es rows
   |some e=>if es+1=e∧A4z rows=true then .br s' o' [] 2 0 f es rows else .dead)else .ow f es rows
 | .br a b q kd lo f es rows=>if a=s∧b=o then(match m with
   |none=> .br s' o' q kd lo f es rows
   |some e=>match q with
    |[]=>if es+1=e∧A4z rows=true then .br s' o' [] 2 lo f es rows else .dead
    |_::_=> .dead)else .br a b q kd lo f es rows
 |c=>c
def epTo (s o s' o':Nat) (m:Option Nat):EpMap:=fun a b q=>if a=s∧b=o then(if m.isSome then none else some (s',o',q))else some (a,b,q)
def move (s o s' o':Nat) (m:Option Nat) (σ:St):St:=Afz (mvC s o s' o' m) (epTo s o s' o' m) 0 σ
def offC (s o:Nat) (k j:Nat):CV→CV
 | .ow f es rows=>if k=s∧j=o then .dead else .ow f es rows
 | .br a b q kd lo f es rows=>if a=s∧b=o then .dead else .br a b q kd lo f es rows
 |c=>c
def off (s o:Nat) (σ:St):St:=Afz (offC s o) (Ayz s o) 0 σ
def owBy (f:Bool):PV→CV
 | .o es rows=> .ow f es rows
 |_=> .dead
def brBy (s o:Nat) (q:Path) (f:Bool):PV→CV
 | .o es rows=> .br s o q 0 0 f es rows
 |_=> .dead
def modL (s o:Nat) (q:Path) (g:PV→PV) (f':Bool):CV→CV
 | .br a b q' kd lo f es rows=>if a=s∧b=o then(if kd=0 then(match strip q' q with
   |some r=>brBy a b q' (f||f') (modP g r (.o es rows))
   |none=> .dead)else .dead)else .br a b q' kd lo f es rows
 |c=>c
def modC (s o:Nat) (q:Path) (g:PV→PV) (f':Bool) (k j:Nat):CV→CV
 | .ow f es rows=>if k=s∧j=o then owBy (f||f') (modP g q (.o es rows))else .ow f es rows
 |c=>modL s o q g f' c
def modS (s o:Nat) (q:Path) (g:PV→PV) (f':Bool) (σ:St):St:=Afz (modC s o q g f') (Ayz s o) 0 σ
def turn (s o:Nat) (q:Path) (es0:Nat) (f':Bool) (rows':List (List PV)) (σ:St):St:=modS s o q (AKz es0 rows') f' σ
def mvpL (s o:Nat) (q:Path) (s' o':Nat) (q':Path):CV→CV
 | .br a b p kd lo f es rows=>if a=s∧b=o then(match strip q p with
   |some r=> .br s' o' (q'++r) kd lo f es rows
   |none=>match strip p q with
    |some r=>if kd=0 then brBy a b p f (modP toX r (.o es rows))else .dead
    |none=> .br a b p kd lo f es rows)else .br a b p kd lo f es rows
 |c=>c
def mvpC (s o:Nat) (q:Path) (s' o':Nat) (q':Path) (k j:Nat):CV→CV
 | .ow f es rows=>if k=s∧j=o then(match q with
   |[]=> .br s' o' q' 0 0 f es rows
   |_::_=>owBy f (modP toX q (.o es rows)))else .ow f es rows
 |c=>mvpL s o q s' o' q' c
def mvp (s o:Nat) (q:Path) (s' o':Nat) (q':Path) (σ:St):St:=Afz (mvpC s o q s' o' q') (Ayz s o) 0 σ
def SV.cut (s:Nat):SV→SV
 | .bp a o=>if a=s then .undef else .bp a o
 | .fn g caps=>if caps.contains s then .undef else .fn g caps
 |x=>x
def ABz (σ:St) (s o:Nat):CV:=
 match σ.getD s .undef with
 | .c _ l=>l.getD o .dead
 |_=> .dead
def CV.isOw:CV→Bool
 | .ow _ _ _=>true
 |_=>false
def CV.atQ (q:Path):CV→Option (Bool×Nat×List (List PV))
 | .ow f es rows=>(getP q (.o es rows)).map fun r=>(f,r)
 |_=>none
def atP (σ:St) (s o:Nat) (q:Path):Option (Bool×Nat×List (List PV)):=(ABz σ s o).atQ q
def keeps (kp:Option Nat) (s s':Nat):Bool:=
 match kp with
 |some N=>decide (N≤s)&&decide (s'<N)
 |none=>false
def persist (kp:Option Nat) (s' o':Nat) (c:CV) (σ:St):Option (St×CV):=
 match c with
 | .sh f p=>some (σ,.sh f p)
 | .ow f es []=>some (σ,.ow f es [])
 | .br s o q kd lo f es rows=>
  if(keeps kp s s'|| !q.isEmpty)=true then(if(ABz σ s o).isOw then some (σ,.br s o q kd lo f es rows)else none)
  else if(ABz σ s o).isOw then
   if kd=0 then some (move s o s' o' none σ,.ow f es rows)
   else if kd=1 then some (off s o σ,.ow f es rows)
   else some (demote s o σ,.sh f (.s es (Adz rows)))
  else none
 |_=>none
def Dgz (σ:St):CV→Bool
 | .br s o _ _ _ _ _ _=>(ABz σ s o).isOw
 |_=>true
def ATz (kp:Option Nat) (s':Nat):Nat→List CV→St→Option (St×List CV)
 |_,[],σ=>some (σ,[])
 |j,c::l,σ=>(persist kp s' j c σ).bind fun r=>(ATz kp s' (j+1) l r.1).bind fun q=>if Dgz q.1 r.2=true then some (q.1,r.2::q.2)else none
def nest (c:CV) (σ:St):Option (St×Bool×PV):=
 match c with
 | .sh f p=>some (σ,!p.scalar&&f,p)
 | .ow f es []=>some (σ,false,.s es [])
 | .br s o _ _ _ f es rows=>if(ABz σ s o).isOw then some (demote s o σ,f,.s es (Adz rows))else none
 |_=>none
structure Tgt where
 s:Nat
 o:Nat
 q:Path
 i:Nat
 j:Nat
def Cmz (tg:Tgt) (c:CV) (σ:St):Option (St×(CV→CV)×Bool×PV):=
 match c with
 | .sh f p=>some (σ,id,!p.scalar&&f,p)
 | .ow f es []=>some (σ,id,false,.o es [])
 | .br s o q kd _ f es rows=>if(ABz σ s o).isOw=true∧¬(s=tg.s∧o=tg.o)then
   if kd=0 then some (mvp s o q tg.s tg.o (tg.q++[(tg.i,tg.j)]) σ,mvpL s o q tg.s tg.o (tg.q++[(tg.i,tg.j)]),f,.o es rows)
   else some (demote s o σ,id,f,.s es (Adz rows))
  else none
 |_=>none
def Tgt.next (g:Tgt):Tgt:={g with j:=g.j+1}
def Aiz:Option Tgt→(CV→CV)→List CV→St→Option (St×Bool×List PV)
 |_,_,[],σ=>some (σ,false,[])
 |none,m,c::l,σ=>(nest (m c) σ).bind fun r=>(Aiz none m l r.1).map fun q=>(q.1,r.2.1||q.2.1,r.2.2::q.2.2)
 |some g,m,c::l,σ=>(Cmz g (m c) σ).bind fun r=>(Aiz (some g.next) (fun x=>r.2.1 (m x)) l r.1).map fun q=>(q.1,r.2.2.1||q.2.1,r.2.2.2::q.2.2)
def Abz (s:Nat):Nat→Nat→St→St
 |_,0,σ=>σ
 |j,n+1,σ=>Abz s (j+1) n (if(ABz σ s j).isOw then demote s j σ else σ)
def clear (d:Nat) (σ:St):St:=
 match σ.getD d .undef with
 | .c .box l=>((Abz d 0 l.length σ).map (SV.cut d)).set d .undef
 | .c _ l=>Abz d 0 l.length σ
 |_=>σ
def DUz (T:Tys) (ty:TypeId):Value→SV
 | .int k n=> .c .one [.sh false (.i k n)]
 | .bool x=> .c .one [.sh false (.b x)]
 | .string s=> .c .one [.sh false (.t s)]
 | .slice none 0 0=>match(T.sl ty).bind T.sz with
  |some es=> .c .one [.ow false es []]
  |none=> .undef
 |_=> .undef
def opd (T:Tys) (N:Nat) (ty:TypeId) (σ:St):Operand→SV
 | .tmp t=>if t<N then(σ.getD t .undef).view t else .undef
 | .const v=>DUz T ty v
 | .func f=> .fn f []
 | .global _=> .undef
def SV.one?:SV→Option CV
 | .c .one [y]=>some y
 |_=>none
def SV.pv? (x:SV):Option PV:=x.one?.bind fun c=>c.p?.map (·.2)
def SV.int? (x:SV):Option (IntKind×Int):=x.pv?.bind fun
 | .i k n=>some (k,n)
 |_=>none
def SV.bool? (x:SV):Option Bool:=x.pv?.bind fun
 | .b x=>some x
 |_=>none
def pvSV (p:PV):SV:= .c .one [.sh false p]
def Mgz (op:BinOp) (k:IntKind) (a b:Int):Option PV:=
 match op with
 | .add=>some (.i k (k.wrap (a+b)))
 | .sub=>some (.i k (k.wrap (a - b)))
 | .mul=>some (.i k (k.wrap (a*b)))
 | .quo=>if b=0 then none else some (.i k (k.wrap (a.tdiv b)))
 | .rem=>if b=0 then none else some (.i k (a.tmod b))
 | .and=>some (.i k (k.wrap (BitVec.ofInt k.bits a&&&BitVec.ofInt k.bits b).toNat))
 | .or=>some (.i k (k.wrap (BitVec.ofInt k.bits a|||BitVec.ofInt k.bits b).toNat))
 | .xor=>some (.i k (k.wrap (BitVec.ofInt k.bits a^^^BitVec.ofInt k.bits b).toNat))
 | .andNot=>some (.i k (k.wrap (BitVec.ofInt k.bits a&&& ~~~BitVec.ofInt k.bits b).toNat))
 | .eql=>some (.b (a==b))
 | .neq=>some (.b (a !=b))
 | .lss=>some (.b (a<b))
 | .leq=>some (.b (a≤b))
 | .gtr=>some (.b (a>b))
 | .geq=>some (.b (a≥b))
 |_=>none
def QNz (op:BinOp) (x y:ByteArray):Option PV:=
 match op with
 | .add=>if((x.size+y.size:Nat):Int)>IntKind.i64.max then none else some (.t (x++y))
 | .eql=>some (.b (x.toList==y.toList))
 | .neq=>some (.b !(x.toList==y.toList))
 | .lss=>some (.b (Op.bytesLess x.toList y.toList))
 | .leq=>some (.b (Op.bytesLess x.toList y.toList||x.toList==y.toList))
 | .gtr=>some (.b !(Op.bytesLess x.toList y.toList||x.toList==y.toList))
 | .geq=>some (.b !(Op.bytesLess x.toList y.toList))
 |_=>none
def BTz (op:BinOp) (k:IntKind) (a b:Int):Option PV:=
 if b<0 then none else
 match op with
 | .shl=>some (.i k (k.wrap (a*2^(min b.toNat k.bits))))
 | .shr=>some (.i k (a.fdiv (2^(min b.toNat k.bits))))
 |_=>none
def PV.eq?:PV→PV→Option Bool
 | .i k m,.i k' n=>if k=k' then some (m==n)else none
 | .b x,.b y=>some (x==y)
 | .t x,.t y=>some (x.toList==y.toList)
 |_,_=>none
def eqRow?:List PV→List PV→Option Bool
 |[],[]=>some true
 |a::l,b::m=>(a.eq? b).bind fun x=>(eqRow? l m).map fun y=>x&&y
 |_,_=>none
def pvs?:List CV→Option (List PV)
 |[]=>some []
 | .sh _ p::l=>(pvs? l).map (p:: ·)
 |_=>none
def B0z:List PV→List PV→Bool
 |[],[]=>true
 | .i _ _::z,.i _ _::l=>B0z z l
 | .b _::z,.b _::l=>B0z z l
 | .t _::z,.t _::l=>B0z z l
 |_,_=>false
def LAz (T:Tys) (op:BinOp) (ty:TypeId):SV→SV→Option PV
 | .c .agg l,.c .agg m=>if T.eqs ty=true then(T.zr ty).bind fun z=>(pvs? l).bind fun a=>(pvs? m).bind fun b=>
   if(B0z z a&&B0z z b)=true then(eqRow? a b).bind fun r=>(match op with
    | .eql=>some (.b r)
    | .neq=>some (.b !r)
    |_=>none)else none
  else none
 |_,_=>none
def A7z (T:Tys) (op:BinOp) (ty:TypeId) (x y:SV):Option PV:=
 match x.pv?,y.pv? with
 |some (.i k a),some (.i k' b)=>
  match op with
  | .shl=>BTz .shl k a b
  | .shr=>BTz .shr k a b
  |op=>if k=k' then Mgz op k a b else none
 |some (.t a),some (.t b)=>QNz op a b
 |some (.b a),some (.b b)=>if T.boo ty then(match op with
   | .eql=>some (.b (a==b))
   | .neq=>some (.b !(a==b))
   |_=>none)else none
 |_,_=>LAz T op ty x y
def unSV (op:UnOp) (x:SV):Option PV:=
 match op,x.pv? with
 | .not,some (.b a)=>some (.b !a)
 | .neg,some (.i k n)=>some (.i k (k.wrap (0 - n)))
 | .xor,some (.i k n)=>some (.i k (k.wrap (BitVec.ofInt k.bits (if k.signed then -1 else k.max)^^^BitVec.ofInt k.bits n).toNat))
 |_,_=>none
def BHz (s:ByteArray):List (List PV):=s.data.toList.map fun x=>[.i .u8 (x.toNat:Int)]
def bytes?:List (List PV)→Option (List UInt8)
 |[]=>some []
 |[.i .u8 n]::l=>(bytes? l).map (UInt8.ofNat n.toNat:: ·)
 |_=>none
def LIM:Nat:=70368744177664
def GEz (T:Tys) (src dst:TypeId) (x:SV):Option SV:=
 match x.pv? with
 |some (.i _ n)=>match T.ik src,T.ik dst with
  |some _,some k=>some (pvSV (.i k (k.wrap n)))
  |some _,none=>if T.str dst then some (pvSV (.t (Utf8.encode n)))else none
  |_,_=>none
 |some (.t s)=>if T.str src then
   if T.str dst then some (pvSV (.t s))
   else match(T.sl dst).bind T.ik with
    |some .u8=>some (.c .one [.ow false 1 (BHz s)])
    |_=>none
  else none
 |some (.s es rows)=>match(T.sl src).bind T.ik with
  |some .u8=>if T.str dst∧es=1 then(bytes? rows).map fun l=>pvSV (.t ⟨l.toArray⟩)else none
  |_=>none
 |_=>none
def bound (x:Option SV) (n d:Nat):Option Nat:=
 match x with
 |none=>some d
 |some v=>v.int?.bind fun(_,i)=>if 0≤i∧i≤n then some i.toNat else none
def Ewz (T:Tys) (ty:TypeId) (x:SV) (lo hi:Option SV):Option SV:=
 x.one?.bind fun c=>
 match c with
 | .sh f (.t s)=>if T.str ty then
   (bound hi s.size s.size).bind fun h=>(bound lo h 0).map fun l=>pvSV (.t (s.extract l h))else none
 | .sh f (.s es rows)=>if(T.sl ty).bind T.sz=some es then
   (bound hi rows.length rows.length).bind fun h=>(bound lo h 0).map fun l=> .c .one [.sh f (.s es ((rows.take h).drop l))]else none
 | .br s o q kd at_ f es rows=>if(T.sl ty).bind T.sz=some es then
   (bound hi rows.length rows.length).bind fun h=>(bound lo h 0).map fun l=>
    .c .one [.br s o q (if hi.isSome∨2≤kd then 2 else if lo.isSome then 1 else kd) (at_+l) f es ((rows.take h).drop l)]else none
 |_=>none
def E3z (T:Tys) (ty:TypeId) (x ix:SV):Option SV:=
 x.one?.bind fun c=>ix.int?.bind fun(_,i)=>
 match c with
 | .sh f (.s es rows)=>if(T.sl ty).bind T.sz=some es then
   if 0≤i then(rows[i.toNat]?).map fun row=> .sp f row 0 else none
  else none
 | .br s o q kd at_ f es rows=>if(T.sl ty).bind T.sz=some es then
   if 0≤i then(rows[i.toNat]?).map fun row=> .ep s o q kd f es (at_+i.toNat) 0 row else none
  else none
 |_=>none
def GFz (T:Tys) (ty:TypeId) (x ix:SV):Option SV:=
 match x.pv?,ix.int? with
 |some (.t s),some (_,i)=>if T.str ty∧0≤i then(s.data[i.toNat]?).map fun b=>pvSV (.i .u8 (b.toNat:Int))else none
 |_,_=>none
def EWz (T:Tys) (ty:TypeId) (x:SV) (f:Nat):Option SV:=
 (T.fo ty f).bind fun d=>match x with
 | .bp s o=>some (.bp s (o+d))
 | .ep s o q kd fl es i f row=>some (.ep s o q kd fl es i (f+d) row)
 | .sp fl row f=>some (.sp fl row (f+d))
 |_=>none
def part (n j:Nat) (l:List CV):Option (List CV):=if j+n≤l.length then some ((l.drop j).take n)else none
def CV.isDead:CV→Bool
 | .dead=>true
 |_=>false
def PV.cell (s o:Nat) (q:Path) (fl:Bool) (i j:Nat):PV→CV
 | .o es rows=> .br s o (q++[(i,j)]) 0 0 fl es rows
 | .un=> .dead
 |p=> .sh (!p.scalar&&fl) p
def Cbz (s o:Nat) (q:Path) (fl:Bool) (i:Nat):Nat→List PV→List CV
 |_,[]=>[]
 |j,p::l=>p.cell s o q fl i j::Cbz s o q fl i (j+1) l
def PV.cellS (fl:Bool):PV→CV
 | .o _ _=> .dead
 | .un=> .dead
 |p=> .sh (!p.scalar&&fl) p
def C4z (T:Tys) (σ:St) (ty:TypeId) (x:SV):Option SV:=
 (T.sz ty).bind fun n=>(T.ag ty).bind fun a=>
 if a=false∧n≠1 then none else
 let shape:Shape:=if a then .agg else .one
 match x with
 | .bp s o=>match σ.getD s .undef with
  | .c .box l=>(part n o (Acz (CV.view s) 0 l)).bind fun l=>if a|| !(l.any CV.isDead)then some (.c shape l)else none
  |_=>none
 | .ep s o q kd fl es i f row=>if f+n≤row.length then
   let l:=Cbz s o q fl i f ((row.drop f).take n)
   if a|| !(l.any CV.isDead)then some (.c shape l)else none else none
 | .sp fl row f=>if f+n≤row.length then
   let l:=((row.drop f).take n).map (PV.cellS fl)
   if a|| !(l.any CV.isDead)then some (.c shape l)else none else none
 |_=>none
def cells?:SV→Option (List CV)
 | .c .one [c]=>some [c]
 | .c .agg l=>some l
 |_=>none
def lay (l:List CV) (j:Nat) (r:List CV):List CV:=r.take j++l++r.drop (j+l.length)
def layP (l:List PV) (j:Nat) (r:List PV):List PV:=r.take j++l++r.drop (j+l.length)
def EOz:CV→Bool
 | .sh _ p=>p.flat
 |_=>false
def blanks (n:Nat):List PV:=List.replicate n .un
def Iwz (T:Tys) (σ:St) (n s o:Nat) (q:Path) (es i f:Nat) (cs:List CV):Option St:=
 (atP σ s o q).bind fun r1=>(r1.2.2[i]?).bind fun row1=>
 if r1.2.1=es∧f+n≤row1.length then
  if(cs.all EOz&&((row1.drop f).take n).all PV.flat)=true then
   (Aiz none id cs σ).map fun r=>turn s o q es (r1.1||r.2.1) (r1.2.2.set i (layP r.2.2 f row1)) σ
  else
   (Aiz (if T.mo then some ⟨s,o,q,i,f⟩else none) (modL s o q (AKz es (r1.2.2.set i (layP (blanks n) f row1))) r1.1) cs (turn s o q es r1.1 (r1.2.2.set i (layP (blanks n) f row1)) σ)).bind fun r=>
   (atP r.1 s o q).bind fun r2=>(r2.2.2[i]?).bind fun row2=>
    if r2.2.1=es∧f+n≤row2.length then some (turn s o q es (r2.1||r.2.1) (r2.2.2.set i (layP r.2.2 f row2)) r.1)else none
 else none
def Fqz (T:Tys) (N:Nat) (oty:TypeId) (σ:St) (ty:TypeId) (a x:Operand):Option St:=
 (T.sz ty).bind fun n=>
 match opd T N oty σ a with
 | .bp s o=>
  let σ:=Abz s o n σ
  match opd T N oty σ a,(cells? (opd T N oty σ x))with
  | .bp s' o',some cs=>if s'=s∧o'=o∧cs.length=n then
    (ATz (if T.mo then some N else none) s o cs σ).bind fun r=>match r.1.getD s .undef with
     | .c .box l=>if o+n≤l.length then some (r.1.set s (.c .box (lay r.2 o l)))else none
     |_=>none
   else none
  |_,_=>none
 | .ep s o q kd fl es i f row=>if kd≤1 then(cells? (opd T N oty σ x)).bind fun cs=>if cs.length≠n then none else Iwz T σ n s o q es i f cs
  else none
 |_=>none
def Dkz (T:Tys) (ty:TypeId):List (Nat×SV)→List CV→Option (List CV)
 |[],l=>some l
 |(i,x)::r,l=>(T.fo ty i).bind fun d=>(cells? x).bind fun cs=>if d+cs.length≤l.length∧T.fz ty i=some cs.length then Dkz T ty r (lay cs d l)else none
def isSh:CV→Bool
 | .sh _ _=>true
 |_=>false
def Fwz (x:SV):Bool:=
 match cells? x with
 |some cs=>cs.all isSh
 |none=>false
def Aqz (tg:Option Nat) (es:Nat):List (Nat×SV)→Bool→List (List PV)→St→Option (St×Bool×List (List PV))
 |[],f,rows,σ=>some (σ,f,rows)
 |(i,x)::r,f,rows,σ=>(cells? x).bind fun cs=>(Aiz (tg.map fun d=>⟨d,0,[],i,0⟩) id cs σ).bind fun q=>if i<rows.length∧q.2.2.length=es∧(tg.isNone||r.all fun p=>Fwz p.2)=true then Aqz tg es r (f||q.2.1) (rows.set i q.2.2) q.1 else none
def PV.zo:PV→PV
 | .s es []=> .o es []
 |p=>p
def CFz (rows:List (List PV)):Bool:=rows.all fun r=>r.all PV.scalar
def FQz (T:Tys) (e:TypeId) (f:Bool) (rows:List (List PV)):Option Bool:=
 match T.zr e with
 |some z=>if z.all PV.scalar=true then(if CFz rows=true then some false else none)else some f
 |none=>some f
def HKz (T:Tys) (e:TypeId) (es:Nat) (y:SV):Option (Bool×List (List PV)):=
 match y.one? with
 |some (.br _ _ _ _ _ f es' rows)=>if A4z rows=true∧(es'=es∨rows=[])then(FQz T e f rows).map fun g=>(g,rows)else none
 |some c=>match c.p? with
  |some (_,.t s)=>if es=1∧T.ik e=some IntKind.u8 then some (false,BHz s)else none
  |some (f,.s es' rows)=>if es'=es∨rows=[]then(FQz T e f rows).map fun g=>(g,rows)else none
  |_=>none
 |none=>none
def KEz (T:Tys) (e:TypeId) (es:Nat) (σ:St) (y:SV):Option (Option (Nat×Nat)×Bool×List (List PV)):=
 match y.one? with
 |some (.br s o q kd lo f es' rows)=>if A4z rows=true then(if es'=es∨rows=[]then(FQz T e f rows).map fun g=>(none,g,rows)else none)
  else if q.isEmpty=true∧kd=0∧lo=0∧es'=es∧(ABz σ s o).isOw=true then some (some (s,o),f,rows)else none
 |_=>(HKz T e es y).map fun r=>(none,r)
def offO (y:Option (Nat×Nat)) (σ:St):St:=
 match y with
 |some (s,o)=>off s o σ
 |none=>σ
def Dnz (T:Tys) (σ:St) (d:Nat) (ty:TypeId) (x y:SV):Option (St×SV):=
 (T.sl ty).bind fun e=>(T.sz e).bind fun es=>(T.byt e).bind fun bs=>(T.zr e).bind fun z=>if z.length≠es∨bs=0 then none else
 (KEz T e es σ y).bind fun yr=>
 (x.one?).bind fun c=>
 match c with
 | .ow f _ []=>if yr.2.2.length*bs≤LIM then some (offO yr.1 σ,.c .one [.ow yr.2.1 es yr.2.2])else none
 | .br s o q kd lo f es' rows=>
  if es'=es∧kd≤1∧(ABz σ s o).isOw=true∧(rows.length+yr.2.2.length)*bs≤LIM∧yr.1≠some (s,o)then
   match q with
   |[]=>some (if kd=0 then move s o d 0 (some (if T.mo then 0 else es+1)) (offO yr.1 σ)else off s o (offO yr.1 σ),.c .one [.ow (f||yr.2.1) es (rows++yr.2.2)])
   |_::_=>if kd=0 then some (modS s o q toX false (offO yr.1 σ),.c .one [.ow (f||yr.2.1) es (rows++yr.2.2)])else none
  else none
 |_=>none
def H0z (T:Tys) (σ:St) (ty:TypeId) (x:SV):Option St:=
 match(T.sl ty).bind T.zr,x.one? with
 |some [p],some (.br s o q kd lo f es rows)=>
  if rows.length=0 then some σ
  else if p.scalar=true∧kd≤1 then(atP σ s o q).bind fun r=>
   if r.2.1=1∧es=1∧A4z r.2.2=true∧lo+rows.length≤r.2.2.length then some (turn s o q 1 r.1 (r.2.2.take lo++List.replicate rows.length [p]++r.2.2.drop (lo+rows.length)) σ)else none
  else none
 |_,_=>none
def Fjz (T:Tys) (ty:TypeId) (x:SV):Option SV:=
 match x.pv? with
 |some (.t s)=>if T.str ty then some (pvSV (.i .i64 s.size))else none
 |some (.s _ rows)=>if(T.sl ty).isSome then some (pvSV (.i .i64 rows.length))else none
 |_=>none
def min2 (x y:SV):Option SV:=match x.int?,y.int? with
 |some (k,a),some (_,b)=>some (pvSV (.i k (if b<a then b else a)))
 |_,_=>none
def max2 (x y:SV):Option SV:=match x.int?,y.int? with
 |some (k,a),some (_,b)=>some (pvSV (.i k (if b>a then b else a)))
 |_,_=>none
def Cpz (g:SV→SV→Option SV):SV→List SV→Option SV
 |x,[]=>some x
 |x,y::l=>(g x y).bind fun z=>Cpz g z l
def EVz:SV→Bool
 | .bp _ _| .ep _ _ _ _ _ _ _ _ _| .sp _ _ _| .fn _ _=>true
 |_=>false
def comp (i:Nat):List (Bool×Nat)→List CV→Option SV
 |[],_=>none
 |(a,n)::s,l=>match i with
  |0=>if l.length<n then none else some (.c (if a then .agg else .one) (l.take n))
  |i+1=>comp i s (l.drop n)
end Go.Proofs.YtblelojdboefjaaGreatDoor.R
namespace Go.Proofs.YtblelojdboefjaaGreatDoor.R
open Go
structure Ret where
 res:SV
 boxes:List (List CV)
 deriving Inhabited
abbrev CallF:=FuncId→List SV→List (List CV)→Option Ret
structure Env where
 T:Tys
 fns:FuncId→Option Func
 orc:FuncId→Option (CallF→List SV→List (List CV)→Option Ret)
 dead:FuncId→Nat→List Nat
 D:Nat→List Nat
 inl:FuncId→Bool:=fun _=>false
 mv:FuncId→Bool:=fun _=>false
 al:FuncId→Bool:=fun _=>false
inductive Ex where
 |normal|exit (id:Nat)|ret
 deriving Inhabited
def Mfz:CV→Option (CV×List (Nat×Nat)×Bool)
 | .sh f p=>some (.sh (!p.scalar) p,[],!p.scalar&&f)
 | .ow f es []=>some (.sh true (.s es []),[],false)
 | .br s o _ _ _ f es rows=>some (.sh true (.s es (Adz rows)),[(s,o)],f)
 |_=>none
def Dwz:List CV→Option (List CV×List (Nat×Nat)×Bool)
 |[]=>some ([],[],false)
 |c::l=>(Mfz c).bind fun r=>(Dwz l).map fun q=>(r.1::q.1,r.2.1++q.2.1,r.2.2||q.2.2)
def Ajz:SV→List Nat
 | .bp s _=>[s]
 | .fn _ caps=>caps
 |_=>[]
def Aaz:Nat→List SV→Option (List SV×List (Nat×Nat)×Bool)
 |_,[]=>some ([],[],false)
 |k,.c .one cs::l=>(Dwz cs).bind fun r=>(Aaz k l).map fun q=>(.c .one r.1::q.1,r.2.1++q.2.1,r.2.2||q.2.2)
 |k,.c .agg cs::l=>(Dwz cs).bind fun r=>(Aaz k l).map fun q=>(.c .agg r.1::q.1,r.2.1++q.2.1,r.2.2||q.2.2)
 |k,.bp _ 0::l=>(Aaz (k+1) l).map fun q=>(.bp k 0::q.1,q.2)
 |k,.fn g caps::l=>(Aaz (k+caps.length) l).map fun q=>(.fn g (List.range' k caps.length)::q.1,q.2)
 |_,_=>none
def settle:List CV→St→Option St
 |[],σ=>some σ
 | .br s o _ _ _ _ _ _::l,σ=>if(ABz σ s o).isOw then settle l (demote s o σ)else settle l σ
 |_::l,σ=>settle l σ
def noBr:CV→Bool
 | .br _ _ _ _ _ _ _ _=>false
 |_=>true
def K7z (σ:St) (s:Nat):Option (List CV):=
 match σ.getD s .undef with
 | .c .box l=>some l
 |_=>none
def GMz (s:Nat) (σ:St):Option St:=(K7z σ s).bind fun l=>settle l σ
def settles:List Nat→St→Option St
 |[],σ=>some σ
 |s::l,σ=>(GMz s σ).bind fun σ=>settles l σ
def CV.flag:CV→Bool
 | .sh f p=> !p.scalar&&f
 | .ow f _ _=>f
 | .br _ _ _ _ _ f _ _=>f
 | .dead=>false
def CV.reflag (f':Bool):CV→CV
 | .sh f p=> .sh (f&&f') p
 | .ow f es rows=> .ow (f&&f') es rows
 |c=>c
def SV.cells:SV→List CV
 | .c _ l=>l
 |_=>[]
def SV.reflag (f':Bool):SV→SV
 | .c sh l=> .c sh (l.map (CV.reflag f'))
 |x=>x
def COz (gs:List Nat) (lent:List (Nat×Nat)) (any:Bool) (k j:Nat):CV→CV
 | .ow f es rows=>if any&&lent.contains (k,j)then .sh f (.s es (Adz rows))else .ow f es rows
 | .br a b q kd lo f es rows=>if gs.contains a then .dead else if any&&lent.contains (a,b)then .sh f (.s es (Adz rows))else .br a b q kd lo f es rows
 |c=>c
def EFz (gs:List Nat) (lent:List (Nat×Nat)) (any:Bool):EpMap:=fun a b q=>if gs.contains a||(any&&lent.contains (a,b))then none else some (a,b,q)
def back (gs:List Nat) (lent:List (Nat×Nat)) (any:Bool) (σ:St):St:=Afz (COz gs lent any) (EFz gs lent any) 0 σ
def BPz:List Nat→List (List CV)→St→St
 |s::l,b::m,σ=>BPz l m (σ.set s (.c .box b))
 |_,_,σ=>σ
def Bwz (σ:St):List Nat→Option (List (List CV))
 |[]=>some []
 |s::l=>(K7z σ s).bind fun b=>(Bwz σ l).map fun m=>b::m
def Ckz:List Nat→Bool
 |[]=>true
 |x::l=> !l.contains x&&Ckz l
def CSz:SV→Bool
 | .c .one _=>true
 | .c .agg _=>true
 | .c (.tup _) _=>true
 |_=>false
def FWz (call:CallF) (σ:St) (g:FuncId) (gs:List Nat) (caps:List Nat) (q:List SV×List (Nat×Nat)×Bool):Option (St×SV):=
 (Bwz σ gs).bind fun bs=>
 if bs.all (·.all noBr)=true∧q.2.1.all (fun x=> !gs.contains x.1)=true then
 (call g (q.1++(List.range' (gs.length - caps.length) caps.length).map fun j=> .bp j 0) bs).bind fun r=>
 if r.boxes.length=bs.length∧CSz r.res=true∧r.res.cells.all noBr=true∧r.boxes.all (·.all noBr)=true then
  let any:=r.res.cells.any CV.flag||r.boxes.any (·.any CV.flag)
  let fl:=q.2.2||bs.any (·.any CV.flag)
  some (BPz gs (r.boxes.map (·.map (CV.reflag fl))) (back gs q.2.1 any σ),r.res.reflag fl)
 else none
 else none
def Bsz (E:Env) (call:CallF) (N:Nat) (ty:TypeId) (d:Nat) (σ:St) (f:Operand) (xs:List Operand):Option (St×SV):=
 match opd E.T N ty σ f with
 | .fn g caps=>match E.T.so g with
  |some h=>if caps=[]then h d σ (xs.map (opd E.T N ty σ))else none
  |none=>
  let gs:=(xs.flatMap fun x=>Ajz (opd E.T N ty σ x))++caps
  if Ckz gs then
   (settles gs σ).bind fun σ=>match opd E.T N ty σ f with
    | .fn g' caps'=>if g'=g∧(xs.flatMap fun x=>Ajz (opd E.T N ty σ x))++caps'=gs then(Aaz 0 (xs.map (opd E.T N ty σ))).bind fun q=>FWz call σ g gs caps' q else none
    |_=>none
  else none
 |_=>none
def FGz:SV→Option Nat
 | .bp s 0=>some s
 |_=>none
def ALz (E:Env) (call:CallF) (N:Nat) (o:Oper) (σ:St):Option SV:=
 let ev (x:Operand):SV:=opd E.T N o.type σ x
 match o.op with
 | .move x=>some (ev x)
 | .assign x=>match ev x with
  | .c .one l=>if l.all (fun c=>match c with| .sh _ _=>true|_=>false)then some (.c .one l)else none
  | .c .agg l=>if l.all (fun c=>match c with| .sh _ _=>true|_=>false)then some (.c .agg l)else none
  | .bp s b=>some (.bp s b)
  | .fn g caps=>some (.fn g caps)
  |_=>none
 | .pick c a b=>(ev c).bool?.map fun t=>if t then ev a else ev b
 | .binOp op t x y _=>(A7z E.T op t (ev x) (ev y)).map pvSV
 | .unOp op _ x=>(unSV op (ev x)).map pvSV
 | .convert s d x=>GEz E.T s d (ev x)
 | .fieldAddr t x f=>EWz E.T t (ev x) f
 | .indexAddr t x i=>E3z E.T t (ev x) (ev i)
 | .index t x i=>GFz E.T t (ev x) (ev i)
 | .load t x=>C4z E.T σ t (ev x)
 | .extract x i=>match ev x with
  | .c (.tup s) l=>comp i s l
  |_=>none
 | .slice t x lo hi none=>Ewz E.T t (ev x) (lo.map ev) (hi.map ev)
 | .nilCheck x=>if EVz (ev x)then some (ev x)else none
 | .build t ps=>(E.T.zr t).bind fun z=>(E.T.ag t).bind fun a=>if a then(Dkz E.T t (ps.toList.map fun p=>(p.1,ev p.2)) (z.map (PV.cv false))).map fun l=> .c .agg l else none
 | .makeFunc (.func g) first caps=>if first.size=0 then
   (caps.toList.mapM fun x=>FGz (ev x)).map fun l=> .fn g l
  else none
 | .makeSlice t n m=>(E.T.sl t).bind fun e=>(E.T.sz e).bind fun es=>(E.T.byt e).bind fun bs=>(E.T.zr e).bind fun z=>
   match(ev n).int?,(ev m).int? with
   |some (.i64,n),some (.i64,m)=>if n=m∧0≤n∧n≤LIM∧n*bs≤LIM∧z.length=es then some (.c .one [.ow false es (List.replicate n.toNat (if E.T.mo then z.map PV.zo else z))])else none
   |_,_=>none
 | .buildSlice t n ps=>(E.T.sl t).bind fun e=>(E.T.sz e).bind fun es=>(E.T.zr e).bind fun z=>
   if n*es≤16777216∧z.length=es then
    (Aqz (if E.T.mo then some 0 else none) es (ps.toList.map fun p=>(p.1,ev p.2)) false (List.replicate n (if E.T.mo then z.map PV.zo else z)) []).map fun r=> .c .one [.ow r.2.1 es r.2.2]
   else none
 | .call c=>
  let xs:=c.args.toList.map ev
  match c.callee with
  | .builtin .len=>match xs,c.argTypes.toList with
   |[x],[t]=>Fjz E.T t x
   |_,_=>none
  | .builtin .min=>match xs with
   |x::l=>Cpz min2 x l
   |_=>none
  | .builtin .max=>match xs with
   |x::l=>Cpz max2 x l
   |_=>none
  | .value f=>match ev f with
   | .fn g []=>if(E.T.so g).isSome then none else if(xs.flatMap Ajz).isEmpty then(Aaz 0 xs).bind fun q=>(call g q.1 []).bind fun r=>
     if r.boxes.length=0∧(r.res.cells.any CV.flag&& !q.2.1.isEmpty)=false∧CSz r.res=true∧r.res.cells.all noBr=true then some (r.res.reflag q.2.2)else none
    else none
   |_=>none
  |_=>none
 |_=>none
def Cyz (E:Env) (call:CallF) (N:Nat) (o:Oper) (d:Nat) (σ:St):Option (St×SV):=
 let ev (x:Operand):SV:=opd E.T N o.type σ x
 match o.op with
 | .assign x=>match ev x with
  | .c .one l=>(ATz (if E.T.mo then some N else none) d 0 l σ).map fun r=>(r.1,.c .one r.2)
  | .c .agg l=>(ATz (if E.T.mo then some N else none) d 0 l σ).map fun r=>(r.1,.c .agg r.2)
  |_=>none
 | .alloc t=>(E.T.zr t).map fun z=>(σ,.c .box (z.map (PV.cv false)))
 | .box t x=>(E.T.sz t).bind fun n=>(cells? (ev x)).bind fun cs=>if cs.length=n then(ATz (if E.T.mo then some N else none) d 0 cs σ).map fun r=>(r.1,.c .box r.2)else none
 | .buildSlice t n ps=>(E.T.sl t).bind fun e=>(E.T.sz e).bind fun es=>(E.T.zr e).bind fun z=>
   if n*es≤16777216∧z.length=es then
    (Aqz (if E.T.mo then some d else none) es (ps.toList.map fun p=>(p.1,ev p.2)) false (List.replicate n (if E.T.mo then z.map PV.zo else z)) σ).map fun r=>(r.1,.c .one [.ow r.2.1 es r.2.2])
   else none
 | .call c=>
  let xs:=c.args.toList.map ev
  match c.callee with
  | .builtin .append=>match xs,c.argTypes.toList with
   |[x,y],[t,u]=>if(E.T.sl u).isSome||E.T.str u then Dnz E.T σ d t x y else none
   |_,_=>none
  | .value f=>Bsz E call N o.type d σ f c.args.toList
  |_=>none
 |_=>none
def Mdz (d:Option Tmp) (v:SV) (σ:St):St:=
 match d with
 |some d=>σ.set d v
 |none=>σ
def I4z (d:Option Tmp) (σ:St):St:=
 match d with
 |some d=>clear d σ
 |none=>σ
def Kyz (N:Nat):Option Tmp→Bool
 |some d=>d<N
 |none=>true
def Bdz (d x:Nat) (v:SV) (σ:St):St:=
 match v with
 | .c .one [.br s 0 [] 1 _ f es rows]=>if s=d∧(ABz σ d 0).isOw=true then(off d 0 σ).set x (.c .one [.ow f es rows])else σ
 |_=>σ
def BLz (d:Nat) (op:Op) (σ:St):St:=
 match op with
 | .assign (.tmp x)=>Bdz d x (σ.getD x .undef) σ
 |_=>σ
def AJz (E:Env) (call:CallF) (N:Nat) (o:Oper) (σ:St):Option St:=
 match o.dst with
 |none=>match o.op with
  | .store t a x=>Fqz E.T N o.type σ t a x
  | .call ⟨.builtin .clear,xs,ts⟩=>match xs.toList,ts.toList with
   |[x],[t]=>H0z E.T σ t (opd E.T N o.type σ x)
   |_,_=>none
  |_=>none
 |some d=>if d<N then
   let σ:=clear d (BLz d o.op σ)
   match ALz E call N o σ with
   |some v=>some (σ.set d v)
   |none=>(Cyz E call N o d σ).map fun r=>r.1.set d r.2
  else none
def skipSV:SV:= .c (.tup []) []
def gval (x:SV):Option (Option Bool):=
 match x with
 | .c (.tup []) []=>some none
 |x=>x.bool?.map some
def Asz (N:Nat) (ops:Array Oper) (o:Oper) (σ:St):Option Bool:=
 match o.guard with
 |none=>some true
 |some (j,want)=>((ops[j]?).bind (·.dst)).bind fun t=>if t<N then(gval (σ.getD t .undef)).map fun b=>b==some want else none
def AYz (E:Env) (call:CallF) (N:Nat) (ops:Array Oper):List Nat→St→Option St
 |[],σ=>some σ
 |i::r,σ=>
  match ops[i]? with
  |none=>none
  |some o=>(Asz N ops o σ).bind fun w=>(if w then AJz E call N o σ else if Kyz N o.dst then some (Mdz o.dst skipSV (I4z o.dst σ))else none).bind fun σ=>AYz E call N ops r σ
def plain:SV→Bool
 | .undef=>true
 | .c .box _=>false
 | .c _ l=>l.all fun c=> !c.isOw
 |_=>true
def Cfz:SV→Bool
 | .c .box _=>true
 |_=>false
def Aez:Op→Bool
 | .alloc _=>true
 |_=>false
def Aoz (E:Env) (call:CallF) (N:Nat) (o:Oper) (σ:St):Option SV:=
 match o.op with
 | .alloc t=>(E.T.zr t).map fun z=> .c .box (z.map (PV.cv false))
 |_=>ALz E call N o σ
def Fyz (T:Tys) (ty:TypeId):Bool:=(T.ik ty).isSome||T.str ty||T.boo ty
def Sjz (T:Tys) (ty:TypeId):Bool:=Fyz T ty||(match T.sl ty with
 |some e=>Fyz T e
 |none=>false)
def Jdz (T:Tys) (ops:List Oper) (t:Nat):Bool:=ops.any fun o=>decide (o.dst=some t)&&Sjz T o.type
def GAz (T:Tys) (ops:List Oper):Operand→Bool
 | .tmp t=>Jdz T ops t
 | .const _=>true
 |_=>false
def Ggz (T:Tys) (ops:List Oper) (ps:List (Nat×Operand)):Bool:=ps.all fun p=>GAz T ops p.2
def Khz (d:Nat):Operand→Bool
 | .tmp t=>decide (t=d)
 |_=>false
def feeds (T:Tys) (ops:List Oper) (d:Nat):Bool:=ops.any fun o=>match o.op with
 | .buildSlice _ _ ps=>ps.toList.any (fun p=>Khz d p.2)&&Ggz T ops ps.toList
 | .call ⟨.value _,args,_⟩=>args.toList.any (Khz d)
 |_=>false
def Lbz:SV→SV
 | .c .one [.ow f es rows]=> .c .one [.sh f (.s es (Adz rows))]
 |x=>x
def drawn (T:Tys) (ops:List Oper) (d:Nat) (v:SV):SV:=if feeds T ops d=true then Lbz v else v
def Drz (E:Env) (call:CallF) (N:Nat) (ops:Array Oper):List Nat→St→Option St
 |[],σ=>some σ
 |i::r,σ=>
  match ops[i]? with
  |none=>none
  |some o=>(Asz N ops o σ).bind fun w=>match o.dst with
   |none=>none
   |some d=>if d<N∧plain (σ.getD d .undef)=true then
     (if w then(Aoz E call N o σ).map (drawn E.T ops.toList d)else some skipSV).bind fun v=>if(Cfz v&& !Aez o.op)=true then none else Drz E call N ops r (σ.set d v)
    else none
def waits (x:Oper) (j:Nat):Bool:=x.after.any fun e=>Region.binds .any e&&e.on==j
def Awz:List Oper→Bool
 |⟨_,.call ⟨.builtin .append,_,_⟩,_,_,_,_⟩::_=>true
 |_=>false
def Qnz (o:Oper):Bool:=
 match o.op with
 | .assign _=>true
 |_=>false
def A2z (T:Tys) (ops:List Oper) (o:Oper) (r:List Oper):Bool:=
 match o.op with
 | .store _ _ _=>true
 | .call ⟨.builtin .append,_,_⟩=>true
 | .call ⟨.value _,_,_⟩=>if o.type=0 then true else false
 | .buildSlice _ _ ps=>Awz r&& !Ggz T ops ps.toList
 | .assign _=>(r.isEmpty|| !Fyz T o.type&&r.all Qnz)&&decide (ops.length≤o.after.size+1+r.length)
 |_=>false
def Atz (T:Tys) (ops:List Oper):List Oper→Nat
 |[]=>0
 |o::l=>if A2z T ops o l then 0 else Atz T ops l+1
def preds (ops:Array Oper) (i:Nat):List Nat:=
 match ops[i]? with
 |some o=>(o.after.toList.filter fun e=>Region.binds .any e).map (·.on)
 |none=>[]
def ancL (ops:Array Oper):Nat→List Nat→List Nat
 |0,l=>l
 |j+1,l=>ancL ops j (if l.contains j then preds ops j++l else l)
def FPz (ops:Array Oper) (k i:Nat):Bool:=
 decide (i<k)&&decide (k<ops.size)&&(match ops[i]? with
  |some ⟨_,.extract _ _,_,_,_,none⟩=>true
  |some ⟨_,.move _,_,_,_,none⟩=>true
  |_=>false)&& !(ancL ops k (preds ops k)).contains i
def Coz (ops:Array Oper) (k i:Nat):Bool:=
 decide (i<k)&&(match ops[k]? with
  |some ⟨_,.buildSlice _ _ _,_,_,_,none⟩=>true
  |_=>false)&&(match ops[i]? with
  |some ⟨_,.fieldAddr _ _ _,_,_,_,none⟩=>true
  |some ⟨_,.load _ _,_,_,_,none⟩=>true
  |_=>false)&& !(ancL ops k (preds ops k)).contains i
def C6z (T:Tys) (ops:Array Oper):Bool:=
 ((List.range (Atz T ops.toList ops.toList)).all fun i=>match ops[i]? with
  |none=>false
  |some x=>x.dst.isSome&&(x.after.all fun e=> !Region.binds .any e||decide (e.on<i))&&(List.range (Atz T ops.toList ops.toList)).all fun j=>i==j||(match ops[j]? with
   |none=>false
   |some y=>(match y.dst with
    |none=>false
    |some d=>x.dst !=some d&&(!(x.looksAt ops).contains d||waits x j||waits y i))))&&
 ((List.range ops.size).all fun i=>decide (i<Atz T ops.toList ops.toList)||((preds ops i).all fun j=>decide (j<i))&&(List.range i).all fun j=>FPz ops (Atz T ops.toList ops.toList) j||Coz ops (Atz T ops.toList ops.toList) j||(ancL ops i (preds ops i)).contains j)&&
 ((List.range ops.size).all fun i=> !FPz ops (Atz T ops.toList ops.toList) i||Region.noSelect ops&&((preds ops i).all fun j=>(ancL ops (Atz T ops.toList ops.toList) (preds ops (Atz T ops.toList ops.toList))).contains j)&&(List.range ops.size).all fun j=>i==j||(match ops[i]?,ops[j]? with
  |some x,some y=>waits y i||waits x j||x.apart ops y
  |_,_=>false))&&
 ((List.range ops.size).all fun i=> !Coz ops (Atz T ops.toList ops.toList) i||Region.noSelect ops&&((preds ops i).all fun j=>Coz ops (Atz T ops.toList ops.toList) j||(ancL ops (Atz T ops.toList ops.toList) (preds ops (Atz T ops.toList ops.toList))).contains j)&&(List.range ops.size).all fun j=>i==j||(match ops[i]?,ops[j]? with
  |some x,some y=>if j<Atz T ops.toList ops.toList then !Coz ops (Atz T ops.toList ops.toList) j||waits y i||waits x j||x.apart ops y else if j=Atz T ops.toList ops.toList then x.apart ops y else(ancL ops j (preds ops j)).contains i
  |_,_=>false))
def DPz (ops:Array Oper) (l:List Nat):List Nat:=(List.range ops.size).filter fun i=> !l.contains i&&(preds ops i).all fun j=>l.contains j
def orders (ops:Array Oper):Nat→List Nat→List (List Nat)
 |0,_=>[[]]
 |k+1,l=>match DPz ops l with
  |[]=>[[]]
  |i::r=>(i::r).flatMap fun i=>(orders ops k (i::l)).map (i:: ·)
open Classical in
noncomputable def ESz (E:Env) (call:CallF) (N:Nat) (ops:Array Oper):List (List Nat)→St→St→Option St
 |[],s,_=>some s
 |o::os,s,σ=>(AYz E call N ops o σ).bind fun s'=>if s'=s then ESz E call N ops os s σ else none
noncomputable def Egz (E:Env) (call:CallF) (N:Nat) (ops:Array Oper) (σ:St):Option St:=
 match orders ops ops.size []with
 |[]=>none
 |o::os=>(AYz E call N ops o σ).bind fun s=>ESz E call N ops os s σ
def iter (f:St→Option (Ex×St)):Nat→St→Option (Ex×St)
 |0,_=>none
 |n+1,σ=>(f σ).bind fun r=>match r.1 with
  | .normal=>iter f n r.2
  |e=>some (e,r.2)
def BVz:Code→Nat
 | .region id _ _=>id
 | .seq a _=>BVz a
 | .block _ b=>BVz b
 | .loop b=>BVz b
 |_=>0
def tidy (N:Nat):List Nat→St→St
 |[],σ=>σ
 |d::l,σ=>tidy N l (if d<N then(clear d σ).set d .undef else σ)
noncomputable def AGz (E:Env) (call:CallF) (N n:Nat):Code→St→Option (Ex×St)
 | .skip,σ=>some (.normal,σ)
 | .label _,σ=>some (.normal,σ)
 | .region _ ops draw,σ=>
  if draw then(if E.T.al then(Egz E call N ops σ).map fun σ=>(.normal,σ)else if C6z E.T ops then((Drz E call N ops (List.range (Atz E.T ops.toList ops.toList)) σ).bind fun σ=>AYz E call N ops (List.range' (Atz E.T ops.toList ops.toList) (ops.size - Atz E.T ops.toList ops.toList)) σ).map fun σ=>(.normal,σ)else none)
  else(AYz E call N ops (List.range ops.size) σ).map fun σ=>(.normal,σ)
 | .seq a b,σ=>(AGz E call N n a σ).bind fun r=>match r.1 with
  | .normal=>AGz E call N n b r.2
  |e=>some (e,r.2)
 | .cond c t e,σ=>(opd E.T N 0 σ c).bool?.bind fun x=>if x then AGz E call N n t σ else AGz E call N n e σ
 | .block id b,σ=>(AGz E call N n b σ).map fun r=>match r.1 with
  | .exit i=>if i=id then(.normal,r.2)else r
  |_=>r
 | .loop b,σ=>iter (fun σ=>AGz E call N n b (tidy N (E.D (BVz b)) σ)) n σ
 | .exit id,σ=>some (.exit id,σ)
 | .ret,σ=>some (.ret,σ)
 |_,_=>none
def weaken (N:Nat):CV→CV
 | .br s o q kd lo f es rows=> .br s o q (if s<N∧kd≤1 then 1 else 2) lo f es rows
 |c=>c
def EKz (T:Tys) (N:Nat) (σ:St):ResultVar→Option SV
 | .tmp t=>some (opd T N 0 σ (.tmp t))
 | .cell a t=>C4z T σ t (opd T N 0 σ (.tmp a))
def KLz:SV→Option (Bool×List CV)
 | .c .one l=>some (false,l)
 | .c .agg l=>some (true,l)
 |_=>none
def Enz (mo inl:Bool) (N d j:Nat) (c:CV) (σ:St):Option (St×(CV→CV)×CV):=
 match c with
 | .br s o q kd lo f es rows=>
  if(inl&&decide (N≤s))=true then(if(ABz σ s o).isOw then some (σ,id,.br s o q kd lo f es rows)else none)
  else match q with
   |[]=>(persist none d j (weaken N (.br s o [] kd lo f es rows)) σ).map fun r=>(r.1,id,r.2)
   |a::q=>if(ABz σ s o).isOw then
     (if(mo&&kd==0)=true then some (mvp s o (a::q) d j [] σ,mvpL s o (a::q) d j [],.ow f es rows)else some (demote s o σ,id,.sh f (.s es (Adz rows))))else none
 |c=>(persist none d j c σ).map fun r=>(r.1,id,r.2)
def Dfz (mo inl:Bool) (N d:Nat):Nat→(CV→CV)→List CV→St→Option (St×List CV)
 |_,_,[],σ=>some (σ,[])
 |j,m,c::l,σ=>(Enz mo inl N d j (m c) σ).bind fun r=>(Dfz mo inl N d (j+1) (fun x=>r.2.1 (m x)) l r.1).map fun q=>(q.1,r.2.2::q.2)
def BGz (T:Tys) (inl:Bool) (N d:Nat):Nat→List ResultVar→St→Option (St×List (Bool×Nat)×List CV)
 |_,[],σ=>some (σ,[],[])
 |j,x::r,σ=>(EKz T N σ x).bind fun v=>(KLz v).bind fun vs=>(Dfz T.mo inl N d j id vs.2 σ).bind fun q=>
    (BGz T inl N d (j+vs.2.length) r q.1).map fun(z:St×List (Bool×Nat)×List CV)=>(z.1,(vs.1,vs.2.length)::z.2.1,q.2++z.2.2)
def BCz:List (Bool×Nat)→Shape
 |[(false,_)]=> .one
 |[(true,_)]=> .agg
 |l=> .tup l
def Biz (N:Nat):SV→SV
 | .bp g o=> .bp (N+g) o
 | .fn g caps=> .fn g (caps.map (N+ ·))
 |x=>x
def CV.up (N:Nat):CV→CV
 | .br s o q kd lo f es rows=> .br (N+s) o q kd lo f es rows
 |c=>c
def SV.up (N:Nat):SV→SV
 | .c sh l=> .c sh (l.map (CV.up N))
 | .bp s o=> .bp (N+s) o
 | .ep s o q kd fl es i f row=> .ep (N+s) o q kd fl es i f row
 | .fn g caps=> .fn g (caps.map (N+ ·))
 |x=>x
def upSt (N:Nat) (σ:St):St:=σ.map (SV.up N)
def CV.dn (N:Nat):CV→CV
 | .br s o q kd lo f es rows=>if N≤s then .br (s - N) o q kd lo f es rows else .dead
 |c=>c
def SV.dn (N:Nat):SV→SV
 | .c sh l=> .c sh (l.map (CV.dn N))
 | .bp s o=>if N≤s then .bp (s - N) o else .undef
 | .ep s o q kd fl es i f row=>if N≤s then .ep (s - N) o q kd fl es i f row else .undef
 | .fn g caps=>if caps.all (fun s=>decide (N≤s))then .fn g (caps.map (· - N))else .undef
 |x=>x
def dnSt (N:Nat) (σ:St):St:=(σ.drop N).map (SV.dn N)
def wipe (d:Nat) (σ:St):St:=(clear d σ).set d .undef
abbrev InF:=FuncId→Nat→St→List SV→Option (St×SV)
def Env.run (E:Env) (f:FuncId) (c:InF):Env:=
 {E with D:=E.dead f,T:={E.T with mo:=E.mv f,al:=E.al f,so:=fun g=>if E.inl g then some (c g)else E.T.so g}}
noncomputable def pbody (E:Env) (n:Nat) (call:CallF) (ic:InF):CallF:=fun f args bs=>
 match E.orc f with
 |some g=>g call args bs
 |none=>(E.fns f).bind fun fn=>fn.body.bind fun code=>
  if args.length≤fn.ntmps then
   (AGz (E.run f ic) call fn.ntmps n code (args.map (Biz fn.ntmps)++List.replicate (fn.ntmps - args.length) .undef++bs.map (.c .box))).bind fun r=>
   match r.1 with
   | .exit _=>none
   |_=>(BGz (E.run f ic).T false fn.ntmps r.2.length 0 fn.results.toList r.2).bind fun q=>
    (settles ((List.range bs.length).map (fn.ntmps+ ·)) q.1).bind fun σ=>
    (Bwz σ ((List.range bs.length).map (fn.ntmps+ ·))).bind fun m=>
     if m.all (·.all noBr)then some ⟨.c (BCz q.2.1) q.2.2,m⟩else none
  else none
noncomputable def ibody (E:Env) (n:Nat) (call:CallF) (ic:InF):InF:=fun f d σ args=>
 (E.fns f).bind fun fn=>fn.body.bind fun code=>
 if args.length≤fn.ntmps then
  (AGz (E.run f ic) call fn.ntmps n code (args.map (SV.up fn.ntmps)++List.replicate (fn.ntmps - args.length) .undef++upSt fn.ntmps σ)).bind fun r=>
  match r.1 with
  | .exit _=>none
  |_=>(BGz (E.run f ic).T true fn.ntmps (fn.ntmps+d) 0 fn.results.toList (wipe (fn.ntmps+d) r.2)).map fun q=>
   let σ:=dnSt fn.ntmps (tidy fn.ntmps (List.range fn.ntmps) (q.1.set (fn.ntmps+d) (SV.c (BCz q.2.1) q.2.2)))
   (σ,σ.getD d .undef)
 else none
noncomputable def calls (E:Env):Nat→CallF×InF
 |0=>(fun _ _ _=>none,fun _ _ _ _=>none)
 |n+1=>(pbody E n (calls E n).1 (calls E n).2,ibody E n (calls E n).1 (calls E n).2)
noncomputable def pcall (E:Env) (n:Nat):CallF:=(calls E n).1
noncomputable def icall (E:Env) (n:Nat):InF:=(calls E n).2
theorem QYz (E:Env):pcall E 0=fun _ _ _=>none:=rfl
theorem HQz (E:Env) (n:Nat):pcall E (n+1)=pbody E n (pcall E n) (icall E n):=rfl
theorem Qtz (E:Env):icall E 0=fun _ _ _ _=>none:=rfl
theorem Kiz (E:Env) (n:Nat):icall E (n+1)=ibody E n (pcall E n) (icall E n):=rfl
def texts?:List (List PV)→Option (List (List UInt8))
 |[]=>some []
 |[.t s]::l=>(texts? l).map (s.data.toList:: ·)
 |_=>none
def Hfz {α:Type} (le:α→α→Bool) (x:α):List α→List α
 |[]=>[x]
 |y::l=>if le x y=true then x::y::l else y::Hfz le x l
def IHz {α:Type} (le:α→α→Bool) (l:List α):List α:=l.foldr (Hfz le) []
theorem Hez {α:Type} (le:α→α→Bool) (x:α):∀l:List α,(Hfz le x l).Perm (x::l)
 |[]=> .refl _
 |y::l=>by
  unfold Hfz
  split
  ·exact .refl _
  ·exact((Hez le x l).cons y).trans (.swap x y l)
theorem DSz {α:Type} (le:α→α→Bool):∀l:List α,(IHz le l).Perm l
 |[]=> .refl _
 |x::l=>(Hez le x _).trans ((DSz le l).cons x)
theorem MHz {α:Type} {le:α→α→Bool} (tr:∀a b c,le a b=true→le b c=true→le a c=true) (to:∀a b,(le a b||le b a)=true) (x:α):∀{l:List α},l.Pairwise (fun a b=>le a b=true)→(Hfz le x l).Pairwise (fun a b=>le a b=true)
 |[],_=>by simp[Hfz]
 |y::l,h=>by
  unfold Hfz
  have h1:=List.pairwise_cons.1 h
  split
  ·rename_i hxy
   exact List.pairwise_cons.2 ⟨fun z hz=>by
    rcases List.mem_cons.1 hz with rfl|hz
    ·exact hxy
    ·exact tr _ _ _ hxy (h1.1 z hz),h⟩
  ·rename_i hxy
   refine List.pairwise_cons.2 ⟨fun z hz=> ?_,MHz tr to x h1.2⟩
   rcases List.mem_cons.1 ((Hez le x l).mem_iff.1 hz)with rfl|hz
   ·have:=to y z;simp[Bool.not_eq_true]at hxy;simpa[hxy]using this
   ·exact h1.1 z hz
theorem HMz {α:Type} {le:α→α→Bool} (tr:∀a b c,le a b=true→le b c=true→le a c=true) (to:∀a b,(le a b||le b a)=true):∀l:List α,(IHz le l).Pairwise (fun a b=>le a b=true)
 |[]=>List.Pairwise.nil
 |x::l=>MHz tr to x (HMz tr to l)
theorem IGz {α:Type} {le:α→α→Bool} (tr:∀a b c,le a b=true→le b c=true→le a c=true) (to:∀a b,(le a b||le b a)=true) (an:∀a b,le a b=true→le b a=true→a=b) (l:List α):IHz le l=l.mergeSort le:=
 List.Perm.eq_of_pairwise (fun a b _ _=>an a b) (HMz tr to l) (List.pairwise_mergeSort tr to l) ((DSz le l).trans (List.mergeSort_perm l le).symm)
def BOz (l:List (List UInt8)):List (List UInt8):=IHz (fun x y=>decide (x≤y)) l
theorem KFz (l:List (List UInt8)):BOz l=l.mergeSort fun x y=>decide (x≤y):=
 IGz (fun a b c h1 h2=>by simp only[decide_eq_true_eq]at h1 h2 ⊢;exact List.le_trans h1 h2) (fun a b=>by simpa using List.le_total a b) (fun a b h1 h2=>by simp only[decide_eq_true_eq]at h1 h2;exact List.le_antisymm h1 h2) l
def sortTextOrc:Nat→St→List SV→Option (St×SV):=fun _ σ args=>
 match args with
 |[.c .one [.br s o [] 0 0 f es rows]]=>match ABz σ s o with
  | .ow f' 1 rows'=>if rows.length=rows'.length∧rows'.length<4611686018427387904 then
    (texts? rows').map fun l=>if rows'.length=0 then(σ,.undef)else(turn s o [] 1 false ((BOz l).map fun x=>[.t ⟨x.toArray⟩]) σ,.undef)
   else none
  |_=>none
 |_=>none
def ints?:List (List PV)→Option (List Int)
 |[]=>some []
 |[.i .i64 n]::l=>(ints? l).map (n:: ·)
 |_=>none
def Dbz (l:List Int):List Int:=IHz (fun x y=>decide (x≤y)) l
theorem LIz (l:List Int):Dbz l=l.mergeSort fun x y=>decide (x≤y):=
 IGz (fun a b c h1 h2=>by simp only[decide_eq_true_eq]at h1 h2 ⊢;omega) (fun a b=>by simp only[Bool.or_eq_true,decide_eq_true_eq];omega) (fun a b h1 h2=>by simp only[decide_eq_true_eq]at h1 h2;omega) l
def sortIntOrc:Nat→St→List SV→Option (St×SV):=fun _ σ args=>
 match args with
 |[.c .one [.br s o [] 0 0 f es rows]]=>match ABz σ s o with
  | .ow f' 1 rows'=>if rows.length=rows'.length∧rows'.length<4611686018427387904 then
    (ints? rows').map fun l=>if rows'.length=0 then(σ,.undef)else(turn s o [] 1 false ((Dbz l).map fun x=>[.i .i64 x]) σ,.undef)
   else none
  |_=>none
 |_=>none
def Brz (es bs:Nat) (zs:Bool):CallF→List SV→List (List CV)→Option Ret:=fun _ args b=>
 match args,b with
 |[.c .one [.sh f (.s es' rows)]],[]=>if es'=es∧rows.length*bs≤LIM∧(zs=true→CFz rows=true)then some ⟨.c .one [.ow (f&& !zs) es rows],[]⟩else none
 |_,_=>none
end Go.Proofs.YtblelojdboefjaaGreatDoor.R
