/- The row of the law FnExactDiffTrees: from its call, as the evaluator has it, to the statement. -/
import Derived.Test.YtblelojdboefjaaGreatDoorRows
import Derived.Test.YtblelojdboefjaaGreatDoorCards
import Derived.Test.YtblelojdboefjaaGreatDoorTie
import Derived.WalkKit
import Derived.ProofKit
import Derived.OpenShut
import Derived.Deep.DeepHandedRow
import Derived.Lay
import Derived.LaidMore
import Derived.SevenTiedAt
import Derived.Stop.Joined
import Derived.MakeChecks
import Derived.JoinedCond
import Derived.Test.YtblelojdboefjaaGreatDoorQ14
import Derived.Test.YtblelojdboefjaaGreatDoorQ11
set_option linter.all false
namespace Go.Proofs.YtblelojdboefjaaGreatDoor.R
open Go Go.ChangeShapes Go.WideShapes Go.ChangeAt Go.RowKit
theorem Slz {H:Type} (d:DataW H):1≤Rows.uptoBulk d:=by
 cases d with
 |lit l=>cases l<;>simp[Rows.uptoBulk]
 |_=>simp[Rows.uptoBulk]
theorem NCz {H:Type}:BulkLaw (H:=H) Rows.uptoBulk Rows.uptoBulkAll:=
 ⟨Slz,fun l=>by simp[Rows.uptoBulk],fun e s=>by simp only[Rows.uptoBulk];omega,fun l=>by simp[Rows.uptoBulk],fun d l=>by simp[Rows.uptoBulkAll]⟩
theorem Swz:OfTy Tryz.prog 24 sTab:=KUz (n:=60) (by kernel_rfl)
theorem Rfz:isStruct? (Tryz.prog.underlying 24)=true:=by kernel_rfl
def LawPure:Prop:=∀(pl pl1:List PV) (m m1:Nat),Fits sTab pl m→m≤1048576→Fits sTab pl1 m1→m1≤1048576→∃n r fl,pcall env n 3 [.c .agg (pl.map argC),.c .agg (pl1.map argC)] []=some r∧r.res= .c .one [.sh fl (.b true)]
theorem lawPure:LawPure:=fun pl pl1 m m1 hf hm hf1 hm1=>by
 obtain⟨x,rfl,hx⟩:=TTab.of pl m hf hm
 obtain⟨y,rfl,hy⟩:=TTab.of pl1 m1 hf1 hm1
 exact⟨_,_,false,VAz (Big+2000001) (Nat.le_refl _) x y hx hy,rfl⟩
theorem Wiz:ownKnob Tryz.prog.godebug=none:=by kernel_rfl
theorem OKz:laidOutB Tryz.prog=true:=by kernel_rfl
set_option maxRecDepth 100000 in
theorem contract (hp:LawPure) (H:Type) (enc:TypeId×Value→H) (W:World) (base:Nat) (args:Array Value) (ds gs:List (DataW H)) (before:List MemPlace)
  (hval:∀(j:Nat) t v,Tryz.f3.params[j]? =some t→args[j]? =some v→Value.okWide Tryz.prog W .any base t v)
  (hW:DataW.Whole enc Tryz.prog Tryz.f3.params.toList Rows.fnExactDiffTreesSpec.vars false W args.toList ds gs before) (hk:Rows.uptoSmall H (ds++gs)=true):
  Calls Tryz.prog 3 args W fun e W'=>∃v,e= .returned v∧Rows.fnExactDiffTreesSpec.post enc Tryz.prog Tryz.f3 false true false false W args v W':=by
 have hW':=hW
 obtain⟨p,q,hA0,hV,rfl,hfz,hnd⟩:=hW
 have hA:DataW.TrodAll enc Tryz.prog W 0 (fun _=>true) true Tryz.f3.params.toList args.toList ds p:=hA0
 rw[Tryz.params3]at hA hval
 obtain⟨v0,vs0,d0,ds0,p0,q0,hargs,rfl,rfl,h0,r0⟩:=trodAll_cons hA
 obtain⟨v1,vs1,d1,ds1,p1,q1,hargs1,rfl,rfl,h1,r1⟩:=trodAll_cons r0
 obtain⟨rfl,rfl,rfl⟩:=trodAll_nil r1
 obtain rfl:args= #[v0,v1]:=by cases args;simp_all
 obtain⟨rfl,rfl⟩:=trodVars_none hV
 simp only[List.append_nil]at hW' hk
 have hb:Rows.uptoBulkAll [d0,d1]≤1048576:=of_decide_eq_true hk
 have lt0:∀x∈p0,x.block<W.heap.size:=by obtain⟨m,hm⟩:=h0;exact DataW.trod_lt m _ _ _ hm
 have lt1:∀x∈p1,x.block<W.heap.size:=by obtain⟨m,hm⟩:=h1;exact DataW.trod_lt m _ _ _ hm
 obtain⟨fs,hfs⟩:=Kuz Rfz
 have hv:=hval 0 24 v0 rfl rfl
 have hv1:=hval 1 24 v1 rfl rfl
 unfold Value.okWide at hv hv1
 rw[hfs]at hv hv1
 obtain⟨cs,rfl,hcs,_⟩:=hv
 obtain⟨cs1,rfl,hcs1,_⟩:=hv1
 obtain⟨fuel,hm⟩:=h0
 obtain⟨fuel1,hm1⟩:=h1
 simp only[Rows.uptoBulkAll]at hb
 obtain⟨pl,m,hf,hmle,hr⟩:=OCz (B:=Rows.uptoBulk) (BA:=Rows.uptoBulkAll) NCz fuel Swz hm
 obtain⟨pl1,m1,hf1,hmle1,hr1⟩:=OCz (B:=Rows.uptoBulk) (BA:=Rows.uptoBulkAll) NCz fuel1 Swz hm1
 obtain⟨n,r,fl,hcall,hres⟩:=hp pl pl1 m m1 hf (by omega) hf1 (by omega)
 have ho:OSVs (entry W) [.agg cs,.agg cs1] [.c .agg (pl.map argC),.c .agg (pl1.map argC)]:= .cons _ _ _ _ (Ogz hr) (.cons _ _ _ _ (Ogz hr1) .nil)
 refine(QZz tok envok orcok mixed (f:=3) (fn:=Tryz.f3) rfl (code:=_) rfl ho (fun N=>rfl) hcall hres).mono fun e W' ⟨he,bel⟩=> ?_
 subst he
 exact⟨_,rfl,_,_,_,[],_,[],hW',trodAll_mk1 (shut_bool Tryz.underlying4 _),trodAll_cons_mk (Below.trod OKz (by kernel_rfl) (of_decide_eq_true (by kernel_rfl)) ⟨fuel,hm⟩ bel lt0) (trodAll_cons_mk (Below.trod OKz (by kernel_rfl) (of_decide_eq_true (by kernel_rfl)) ⟨fuel1,hm1⟩ bel lt1) trodAll_mk0),rfl,bel.frame _,fun h=>by cases h⟩
theorem SHz (os:Os):laidMetH Tryz.prog Rows.fnExactDiffTreesUptoRow.laid ((World.laidAll Tryz.prog os Rows.fnExactDiffTreesUptoRow.laid).forCall (fun _ _=>0) ⟨#[],#[.agg #[.slice none 0 0,.int .i64 0],.agg #[.slice none 0 0,.int .i64 0]],[]⟩).memory:=by
 rw[MakeChecks.laidMetH_plain _ _ _ (by kernel_rfl)]
 exact laidMet_laidAll _ (by kernel_rfl) (by kernel_rfl)
theorem reads (os:Os) {H:Type} (enc:TypeId×Value→H):∃places,DataW.whole enc Tryz.prog ((World.laidAll Tryz.prog os Rows.fnExactDiffTreesUptoRow.laid).forCall (fun _ _=>0) ⟨#[],#[.agg #[.slice none 0 0,.int .i64 0],.agg #[.slice none 0 0,.int .i64 0]],[]⟩).memory Tryz.f3.params.toList Rows.fnExactDiffTreesSpec.vars false #[Value.agg #[.slice none 0 0,.int .i64 0],Value.agg #[.slice none 0 0,.int .i64 0]].toList 16=some ([.agg [.nil,.lit (.int .i64 0)],.agg [.nil,.lit (.int .i64 0)]],[],places):=
 ⟨[],by kernel_rfl⟩
set_option maxRecDepth 100000 in
theorem lifted (hp:LawPure) (os:Os) (started:os.Started) (H:Type) (enc:TypeId×Value→H) (F:Stop.Interp):
  ReturnsInHanded {} Tryz.checked os 3 .any ((Rows.OpenSpec.upto Rows.fnExactDiffTreesSpec).preRow enc Tryz.prog Tryz.f3 Rows.fnExactDiffTreesUptoRow.domain false Rows.fnExactDiffTreesUptoRow.laid) (((Rows.OpenSpec.upto Rows.fnExactDiffTreesSpec).at F).post enc Tryz.prog Tryz.f3 false true false false):=by
 obtain⟨places,hx⟩:=reads os enc
 refine returnsInHanded_of_row (C:=Tryz.checked) (s:=Rows.OpenSpec.upto Rows.fnExactDiffTreesSpec) Wiz started (by kernel_rfl) Tryz.func3
  (witness_row_at (enc:=enc) (C:=Tryz.checked) false (World.laidAll Tryz.prog os Rows.fnExactDiffTreesUptoRow.laid) #[.agg #[.slice none 0 0,.int .i64 0],.agg #[.slice none 0 0,.int .i64 0]] (World.laidAll_os _ _ _) (by kernel_rfl) (by kernel_rfl) (by kernel_rfl)
   (OpenSpec.preRow_of_cond 16 hx (by kernel_rfl) (fun k hk=>by cases hk;kernel_rfl) (by kernel_rfl) (SHz os))) ?_
 intro W base args ds gs before hval hW _ hk _ _ _ _
 exact contract hp H enc W base args ds gs before hval hW (hk _ rfl)
theorem XIz {a b:Bool} (h:a=true) (g:b=true):(a&&b)=true:=by rw[h,g];rfl
set_option maxHeartbeats 8000000 in
theorem said (hp:LawPure):Rows.FnExactDiffTreesUptoSaid:=
 OpenClaim.holds_of_cond 3 Tryz.f3 rfl rfl rfl rfl rfl rfl rfl ⟨rfl,rfl,rfl,rfl,rfl⟩ rfl rfl rfl rfl rfl (by kernel_rfl) Tryz.func3 (by unfold joinedFacts;repeat' with_reducible refine XIz ?_ ?_;all_goals as_aux_lemma=>kernel_rfl)
  (of_decide_eq_true (by kernel_rfl)) (by unfold Func.isWrapper;first|(rw[if_pos (by decide+kernel)];kernel_rfl)|(rw[if_neg (by decide+kernel)];exact⟨rfl,rfl⟩))
  (fun os started H enc _ F=>by rw[OpenClaim.pre_eq_preRow];exact lifted hp os started H enc F)
theorem QHz (f:FuncId) (fn:Func) (hf:Tryz.pinned.checked.prog.funcNamed "loop.example/g00285/laws.FnExactDiffTrees" =some f) (hfn:Tryz.pinned.checked.prog.funcs[f]? =some fn):
  false=Tryz.pinned.checked.prog.looks []∧∀(j:Nat) t,fn.params[j]? =some t→Tryz.pinned.checked.prog.wantsStandIn t=false:=by
 obtain rfl:f=3:=Option.some.inj ((show Tryz.prog.funcNamed "loop.example/g00285/laws.FnExactDiffTrees" =some 3 by kernel_rfl).symm.trans hf)|>.symm
 obtain rfl:fn=Tryz.f3:=(Option.some.inj (Tryz.func3.symm.trans hfn)).symm
 refine⟨by kernel_rfl,fun j t ht=> ?_⟩
 rw[Tryz.params3]at ht
 obtain rfl:t=24:=by simpa using Array.mem_of_getElem? ht
 exact(show Tryz.prog.wantsStandIn 24=false by kernel_rfl)
theorem card (hp:LawPure):Rows.FnExactDiffTreesUptoCardSaid:=
 Claim7.holds_tied_plain_at .later [] _ _ _ _ (said hp) (fun _ h=>by cases h) (by kernel_rfl) (fun _ h=>by cases h) fnExactDiffTreesUpto_row_tie rfl ⟨rfl,rfl⟩ (by kernel_rfl) rfl QHz (by kernel_rfl)
end Go.Proofs.YtblelojdboefjaaGreatDoor.R
namespace Go.Proofs.YtblelojdboefjaaGreatDoor
open Go
theorem diffTrees:Rows.FnExactDiffTreesUptoCardSaid:=R.card R.lawPure
end Go.Proofs.YtblelojdboefjaaGreatDoor
