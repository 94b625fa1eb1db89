/- The row of the law FnExactSend: from its call, as the evaluator has it, to the statement. -/
import Derived.Test.YtblelojdboefjaaGreatDoorRows
import Derived.Test.YtblelojdboefjaaGreatDoorCards
import Derived.Test.YtblelojdboefjaaGreatDoorTie
import Derived.WalkKit
import Derived.ProofKit
import Derived.OpenShut
import Derived.Deep.DeepHandedRow
import Derived.Lay
import Derived.LaidMore
import Derived.SevenTiedAt
import Derived.Stop.Joined
import Derived.MakeChecks
import Derived.JoinedCond
import Derived.Test.YtblelojdboefjaaGreatDoorQ14
import Derived.Test.YtblelojdboefjaaGreatDoorQ11
set_option linter.all false
namespace Go.Proofs.YtblelojdboefjaaGreatDoor.R
open Go Go.ChangeShapes Go.WideShapes Go.ChangeAt Go.RowKit
theorem Ujz {H:Type} (d:DataW H):1≤Rows.uptoBulk d:=by
 cases d with
 |lit l=>cases l<;>simp[Rows.uptoBulk]
 |_=>simp[Rows.uptoBulk]
theorem Jxz {H:Type}:BulkLaw (H:=H) Rows.uptoBulk Rows.uptoBulkAll:=
 ⟨Ujz,fun l=>by simp[Rows.uptoBulk],fun e s=>by simp only[Rows.uptoBulk];omega,fun l=>by simp[Rows.uptoBulk],fun d l=>by simp[Rows.uptoBulkAll]⟩
def plain?:Option TypeDesc→Bool
 |some (.slice _)=>true
 |some (.int _)=>true
 |some .string=>true
 |_=>false
theorem R3z:OfTy Tryz.prog 3 (.int .i64):=Izz (n:=60) (by kernel_rfl)
theorem Lmz:plain? (Tryz.prog.underlying 3)=true:=by kernel_rfl
theorem VVz:OfTy Tryz.prog 43 (sFs):=Izz (n:=60) (by kernel_rfl)
theorem QBz:isStruct? (Tryz.prog.underlying 43)=true:=by kernel_rfl
theorem NOz {P:Program} {W:World} {base:Nat} {t:TypeId} {v:Value} (hu:plain? (P.underlying t)=true) (hv:Value.okWide P W .any base t v):v.cells.toList=[v]:=by
 cases hT:P.underlying t with
 |none=>rw[hT]at hu;simp[plain?]at hu
 |some d=>
  rw[hT]at hu
  unfold Value.okWide at hv
  rw[hT]at hv
  cases d<;>simp[plain?]at hu
  all_goals
   simp only at hv
   unfold Cell.okWide Cell.ok at hv
   rw[hT]at hv
   cases v<;>first|rfl|exact hv.elim
def LawPure:Prop:=∀(pl0 pl1 pl2:List PV) (m0 m1 m2:Nat),Fits (sFs) pl0 m0→m0≤1048576→Fits (.int .i64) pl1 m1→m1≤1048576→Fits (.int .i64) pl2 m2→m2≤1048576→∃n r fl,pcall env n 4 [.c .agg (pl0.map argC),.c .one (pl1.map argC),.c .one (pl2.map argC)] []=some r∧r.res= .c .one [.sh fl (.b true)]
theorem lawPure:LawPure:=fun pl0 pl1 pl2 m0 m1 m2 hf0 hm0 hf1 hm1 hf2 hm2=>by
 obtain⟨x0,rfl,hx0⟩:=TFs.of pl0 m0 hf0 hm0
 obtain⟨x1,rfl,hx1⟩:=CAz hf1
 obtain⟨x2,rfl,hx2⟩:=CAz hf2
 exact⟨_,_,false,Qjz (Big+2000001) (Nat.le_refl _) x0 hx0 x1 hx1 x2 hx2,rfl⟩
theorem Ysz:ownKnob Tryz.prog.godebug=none:=by kernel_rfl
theorem LUz:laidOutB Tryz.prog=true:=by kernel_rfl
set_option maxRecDepth 100000 in
theorem contract (hp:LawPure) (H:Type) (enc:TypeId×Value→H) (W:World) (base:Nat) (args:Array Value) (ds gs:List (DataW H)) (before:List MemPlace)
  (hval:∀(j:Nat) t v,Tryz.f4.params[j]? =some t→args[j]? =some v→Value.okWide Tryz.prog W .any base t v)
  (hW:DataW.Whole enc Tryz.prog Tryz.f4.params.toList Rows.fnExactSendSpec.vars false W args.toList ds gs before) (hk:Rows.uptoSmall H (ds++gs)=true):
  Calls Tryz.prog 4 args W fun e W'=>∃v,e= .returned v∧Rows.fnExactSendSpec.post enc Tryz.prog Tryz.f4 false true false false W args v W':=by
 have hW':=hW
 obtain⟨p,q,hA0,hV,rfl,hfz,hnd⟩:=hW
 have hA:DataW.TrodAll enc Tryz.prog W 0 (fun _=>true) true Tryz.f4.params.toList args.toList ds p:=hA0
 rw[Tryz.params4]at hA hval
 obtain⟨v0,vs0,d0,ds0,p0,q0,hargs0,rfl,rfl,h0,r0⟩:=trodAll_cons hA
 obtain⟨v1,vs1,d1,ds1,p1,q1,hargs1,rfl,rfl,h1,r1⟩:=trodAll_cons r0
 obtain⟨v2,vs2,d2,ds2,p2,q2,hargs2,rfl,rfl,h2,r2⟩:=trodAll_cons r1
 obtain⟨rfl,rfl,rfl⟩:=trodAll_nil r2
 obtain rfl:args= #[v0,v1,v2]:=by cases args;simp_all
 obtain⟨rfl,rfl⟩:=trodVars_none hV
 simp only[List.append_nil]at hW' hk
 have hb:Rows.uptoBulkAll [d0,d1,d2]≤1048576:=of_decide_eq_true hk
 have lt0:∀x∈p0,x.block<W.heap.size:=by obtain⟨m,hm⟩:=h0;exact DataW.trod_lt m _ _ _ hm
 have lt1:∀x∈p1,x.block<W.heap.size:=by obtain⟨m,hm⟩:=h1;exact DataW.trod_lt m _ _ _ hm
 have lt2:∀x∈p2,x.block<W.heap.size:=by obtain⟨m,hm⟩:=h2;exact DataW.trod_lt m _ _ _ hm
 obtain⟨fs0,hfs0⟩:=Luz QBz
 have hv0:=hval 0 43 v0 rfl rfl
 unfold Value.okWide at hv0
 rw[hfs0]at hv0
 obtain⟨cs0,rfl,hcs0,_⟩:=hv0
 obtain⟨fuel0,hm0⟩:=h0
 have hv1:=NOz Lmz (hval 1 3 v1 rfl rfl)
 obtain⟨fuel1,hm1⟩:=h1
 have hc1:=hm1
 rw[hv1]at hc1
 have hv2:=NOz Lmz (hval 2 3 v2 rfl rfl)
 obtain⟨fuel2,hm2⟩:=h2
 have hc2:=hm2
 rw[hv2]at hc2
 simp only[Rows.uptoBulkAll]at hb
 obtain⟨pl0,m0,hf0,hmle0,hr0⟩:=LOz (B:=Rows.uptoBulk) (BA:=Rows.uptoBulkAll) Jxz fuel0 VVz hm0
 obtain⟨pl1,m1,hf1,hmle1,hr1⟩:=LOz (B:=Rows.uptoBulk) (BA:=Rows.uptoBulkAll) Jxz fuel1 R3z hc1
 obtain⟨pl2,m2,hf2,hmle2,hr2⟩:=LOz (B:=Rows.uptoBulk) (BA:=Rows.uptoBulkAll) Jxz fuel2 R3z hc2
 obtain⟨n,r,fl,hcall,hres⟩:=hp pl0 pl1 pl2 m0 m1 m2 hf0 (by omega) hf1 (by omega) hf2 (by omega)
 have ho:OSVs (entry W) [.agg cs0,v1,v2] [.c .agg (pl0.map argC),.c .one (pl1.map argC),.c .one (pl2.map argC)]:= .cons _ _ _ _ (WEz hr0) (.cons _ _ _ _ (by obtain⟨z,rfl,_⟩:=CAz hf1;exact P8z hr1) (.cons _ _ _ _ (by obtain⟨z,rfl,_⟩:=CAz hf2;exact P8z hr2) .nil))
 refine(SLz tok envok orcok mixed (f:=4) (fn:=Tryz.f4) rfl (code:=_) rfl ho (fun N=>rfl) hcall hres).mono fun e W' ⟨he,bel⟩=> ?_
 subst he
 exact⟨_,rfl,_,_,_,[],_,[],hW',trodAll_mk1 (shut_bool Tryz.underlying4 _),trodAll_cons_mk (Below.trod LUz (by kernel_rfl) (of_decide_eq_true (by kernel_rfl)) ⟨fuel0,hm0⟩ bel lt0) (trodAll_cons_mk (Below.trod LUz (by kernel_rfl) (of_decide_eq_true (by kernel_rfl)) ⟨fuel1,hm1⟩ bel lt1) (trodAll_cons_mk (Below.trod LUz (by kernel_rfl) (of_decide_eq_true (by kernel_rfl)) ⟨fuel2,hm2⟩ bel lt2) trodAll_mk0)),rfl,bel.frame _,fun h=>by cases h⟩
theorem UDz (os:Os):laidMetH Tryz.prog Rows.fnExactSendUptoRow.laid ((World.laidAll Tryz.prog os Rows.fnExactSendUptoRow.laid).forCall (fun _ _=>0) ⟨#[],#[.agg #[.slice none 0 0,.int .i64 0],.int .i64 0,.int .i64 0],[]⟩).memory:=by
 rw[MakeChecks.laidMetH_plain _ _ _ (by kernel_rfl)]
 exact laidMet_laidAll _ (by kernel_rfl) (by kernel_rfl)
theorem reads (os:Os) {H:Type} (enc:TypeId×Value→H):∃places,DataW.whole enc Tryz.prog ((World.laidAll Tryz.prog os Rows.fnExactSendUptoRow.laid).forCall (fun _ _=>0) ⟨#[],#[.agg #[.slice none 0 0,.int .i64 0],.int .i64 0,.int .i64 0],[]⟩).memory Tryz.f4.params.toList Rows.fnExactSendSpec.vars false (#[.agg #[.slice none 0 0,.int .i64 0],.int .i64 0,.int .i64 0]:Array Value).toList 16=some ([.agg [.nil,.lit (.int .i64 0)],.lit (.int .i64 0),.lit (.int .i64 0)],[],places):=
 ⟨[],by kernel_rfl⟩
set_option maxRecDepth 100000 in
theorem lifted (hp:LawPure) (os:Os) (started:os.Started) (H:Type) (enc:TypeId×Value→H) (F:Stop.Interp):
  ReturnsInHanded {} Tryz.checked os 4 .any ((Rows.OpenSpec.upto Rows.fnExactSendSpec).preRow enc Tryz.prog Tryz.f4 Rows.fnExactSendUptoRow.domain false Rows.fnExactSendUptoRow.laid) (((Rows.OpenSpec.upto Rows.fnExactSendSpec).at F).post enc Tryz.prog Tryz.f4 false true false false):=by
 obtain⟨places,hx⟩:=reads os enc
 refine returnsInHanded_of_row (C:=Tryz.checked) (s:=Rows.OpenSpec.upto Rows.fnExactSendSpec) Ysz started (by kernel_rfl) Tryz.func4
  (witness_row_at (enc:=enc) (C:=Tryz.checked) false (World.laidAll Tryz.prog os Rows.fnExactSendUptoRow.laid) #[.agg #[.slice none 0 0,.int .i64 0],.int .i64 0,.int .i64 0] (World.laidAll_os _ _ _) (by kernel_rfl) (by kernel_rfl) (by kernel_rfl)
   (OpenSpec.preRow_of_cond 16 hx (by kernel_rfl) (fun k hk=>by cases hk;kernel_rfl) (by kernel_rfl) (UDz os))) ?_
 intro W base args ds gs before hval hW _ hk _ _ _ _
 exact contract hp H enc W base args ds gs before hval hW (hk _ rfl)
theorem ZTz {a b:Bool} (h:a=true) (g:b=true):(a&&b)=true:=by rw[h,g];rfl
set_option maxHeartbeats 8000000 in
theorem said (hp:LawPure):Rows.FnExactSendUptoSaid:=
 OpenClaim.holds_of_cond 4 Tryz.f4 rfl rfl rfl rfl rfl rfl rfl ⟨rfl,rfl,rfl,rfl,rfl⟩ rfl rfl rfl rfl rfl (by kernel_rfl) Tryz.func4 (by unfold joinedFacts;repeat' with_reducible refine ZTz ?_ ?_;all_goals as_aux_lemma=>kernel_rfl)
  (of_decide_eq_true (by kernel_rfl)) (by unfold Func.isWrapper;first|(rw[if_pos (by decide+kernel)];kernel_rfl)|(rw[if_neg (by decide+kernel)];exact⟨rfl,rfl⟩))
  (fun os started H enc _ F=>by rw[OpenClaim.pre_eq_preRow];exact lifted hp os started H enc F)
theorem R4z (f:FuncId) (fn:Func) (hf:Tryz.pinned.checked.prog.funcNamed "loop.example/g00285/laws.FnExactSend" =some f) (hfn:Tryz.pinned.checked.prog.funcs[f]? =some fn):
  false=Tryz.pinned.checked.prog.looks []∧∀(j:Nat) t,fn.params[j]? =some t→Tryz.pinned.checked.prog.wantsStandIn t=false:=by
 obtain rfl:f=4:=Option.some.inj ((show Tryz.prog.funcNamed "loop.example/g00285/laws.FnExactSend" =some 4 by kernel_rfl).symm.trans hf)|>.symm
 obtain rfl:fn=Tryz.f4:=(Option.some.inj (Tryz.func4.symm.trans hfn)).symm
 refine⟨by kernel_rfl,fun j t ht=> ?_⟩
 rw[Tryz.params4]at ht
 have hts:t=3∨t=43:=by
  match j,ht with
  |0,h=>first|exact .inr (Option.some.inj h).symm|exact .inl (Option.some.inj h).symm
  |1,h=>first|exact .inr (Option.some.inj h).symm|exact .inl (Option.some.inj h).symm
  |2,h=>first|exact .inr (Option.some.inj h).symm|exact .inl (Option.some.inj h).symm
  |k+3,h=>simp at h
 rcases hts with rfl|rfl
 ·exact(show Tryz.prog.wantsStandIn 3=false by kernel_rfl)
 ·exact(show Tryz.prog.wantsStandIn 43=false by kernel_rfl)
theorem card (hp:LawPure):Rows.FnExactSendUptoCardSaid:=
 Claim7.holds_tied_plain_at .later [] _ _ _ _ (said hp) (fun _ h=>by cases h) (by kernel_rfl) (fun _ h=>by cases h) fnExactSendUpto_row_tie rfl ⟨rfl,rfl⟩ (by kernel_rfl) rfl R4z (by kernel_rfl)
end Go.Proofs.YtblelojdboefjaaGreatDoor.R
namespace Go.Proofs.YtblelojdboefjaaGreatDoor
open Go
theorem send:Rows.FnExactSendUptoCardSaid:=R.card R.lawPure
end Go.Proofs.YtblelojdboefjaaGreatDoor
