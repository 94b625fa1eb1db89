/- The row of the law FnExactFsText: from its call, as the evaluator has it, to the statement. -/
import Derived.Test.YticgilhndadkiaaGreatDoorK
import Derived.Test.YticgilhndadkiaaGreatDoorXi
import Derived.Test.YticgilhndadkiaaGreatDoorRows
import Derived.Test.YticgilhndadkiaaGreatDoorCards
import Derived.Test.YticgilhndadkiaaGreatDoorTie
import Derived.WalkKit
import Derived.ProofKit
import Derived.OpenShut
import Derived.Deep.DeepHandedRow
import Derived.Lay
import Derived.LaidMore
import Derived.SevenTiedAt
import Derived.Stop.Joined
import Derived.MakeChecks
import Derived.JoinedCond
set_option linter.unusedVariables false
set_option linter.unusedSimpArgs false
namespace Go.Proofs.YticgilhndadkiaaGreatDoor.R
open Go Go.ChangeShapes Go.WideShapes Go.ChangeAt Go.RowKit

theorem bulk_one {H : Type} (d : DataW H) : 1 ≤ Rows.uptoBulk d := by
  cases d with
  | lit l => cases l <;> simp [Rows.uptoBulk]
  | _ => simp [Rows.uptoBulk]
theorem bulk_law {H : Type} : BulkLaw (H := H) Rows.uptoBulk Rows.uptoBulkAll :=
  ⟨bulk_one, fun l => by simp [Rows.uptoBulk], fun e s => by simp only [Rows.uptoBulk]; omega, fun l => by simp [Rows.uptoBulk], fun d l => by simp [Rows.uptoBulkAll]⟩

theorem ofArg : OfTy Tryz.prog 35 sFs := ofTy_ok (n := 60) (by kernel_rfl)
theorem underArg : isStruct? (Tryz.prog.underlying 35) = true := by kernel_rfl

/-- What is left to show of the law: its call answers true. -/
def LawPure : Prop := ∀ (pl : List PV) (m : Nat), Fits sFs pl m → m ≤ 1048576 → ∃ n r fl, pcall env n 4 [.c .agg (pl.map argC)] [] = some r ∧ r.res = .c .one [.sh fl (.b true)]

set_option maxRecDepth 100000 in
theorem law_ok (n : Nat) (hn : Big + 2000004 ≤ n) (x : TFs) (hx : x.ok) : pcall env n 4 [.c .agg (x.pv.map argC')] [] = some ⟨pvSV (.b true), []⟩ := by
  obtain ⟨m, rfl⟩ := ex_pred hn
  obtain ⟨g, c0⟩ := szFs_ok m (deep hn (by decide)) x hx
  have c1 := toFs_ok m (deep hn (by decide)) x hx
  have c2 := fsTextSpec_ok m (deep hn (by decide)) x hx
  have c3 := fsTextImpl_ok m (deep hn (by decide)) x hx
  have c4 := eqFs_ok m (deep hn (by decide)) x hx
  simp only [go_sem] at c0 c1 c2 c3 c4
  refine wq_eq (wq_pcall (fn := Tryz.f4) rfl rfl rfl (Nat.le_of_ble_eq_true rfl) ?_)
  unfold Tryz.f4
  simp only [go_sem, Nat.reduceLT, Nat.reduceAdd, Nat.reduceSub, Nat.reduceEqDiff, Nat.reduceLeDiff, c0, c1, c2, c3, c4]
  refine bq_mk (fun h => ?_) (fun h => ?_) <;> simp only [go_sem, Nat.reduceLT, Nat.reduceAdd, Nat.reduceSub, Nat.reduceEqDiff, Nat.reduceLeDiff, c0, c1, c2, c3, c4]
  exact chk1 (by kernel_rfl)

theorem lawPure : LawPure := fun pl m hf hm => by
  obtain ⟨x, rfl, hx⟩ := TFs.of pl m hf hm
  exact ⟨_, _, false, law_ok (Big + 2000004) (Nat.le_refl _) x hx, rfl⟩

theorem ownTT : ownKnob Tryz.prog.godebug = none := by kernel_rfl
theorem laidOut : laidOutB Tryz.prog = true := by kernel_rfl

set_option maxRecDepth 100000 in
theorem contract (hp : LawPure) (H : Type) (enc : TypeId × Value → H) (W : World) (base : Nat) (args : Array Value) (ds gs : List (DataW H)) (before : List MemPlace)
    (hval : ∀ (j : Nat) t v, Tryz.f4.params[j]? = some t → args[j]? = some v → Value.okWide Tryz.prog W .any base t v)
    (hW : DataW.Whole enc Tryz.prog Tryz.f4.params.toList Rows.fnExactFsTextSpec.vars false W args.toList ds gs before) (hk : Rows.uptoSmall H (ds ++ gs) = true) :
    Calls Tryz.prog 4 args W fun e W' => ∃ v, e = .returned v ∧ Rows.fnExactFsTextSpec.post enc Tryz.prog Tryz.f4 false true false false W args v W' := by
  have hW' := hW
  obtain ⟨p, q, hA0, hV, rfl, hfz, hnd⟩ := hW
  have hA : DataW.TrodAll enc Tryz.prog W 0 (fun _ => true) true Tryz.f4.params.toList args.toList ds p := hA0
  rw [Tryz.params4] at hA hval
  obtain ⟨v0, vs0, d0, ds0, p0, q0, hargs, rfl, rfl, h0, r0⟩ := trodAll_cons hA
  obtain ⟨rfl, rfl, rfl⟩ := trodAll_nil r0
  obtain rfl : args = #[v0] := by cases args; simp_all
  obtain ⟨rfl, rfl⟩ := trodVars_none hV
  simp only [List.append_nil] at hW' hk
  have hb : Rows.uptoBulkAll [d0] ≤ 1048576 := of_decide_eq_true hk
  have lt0 : ∀ x ∈ p0, x.block < W.heap.size := by obtain ⟨m, hm⟩ := h0; exact DataW.trod_lt m _ _ _ hm
  obtain ⟨fs, hfs⟩ := struct_of underArg
  have hv := hval 0 35 v0 rfl rfl
  unfold Value.okWide at hv
  rw [hfs] at hv
  obtain ⟨cs, rfl, hcs, _⟩ := hv
  obtain ⟨fuel, hm⟩ := h0
  obtain ⟨pl, m, hf, hmle, hr⟩ := open_ok (B := Rows.uptoBulk) (BA := Rows.uptoBulkAll) bulk_law fuel ofArg hm
  obtain ⟨n, r, fl, hcall, hres⟩ := hp pl m hf (by simp only [Rows.uptoBulkAll] at hb; omega)
  have ho : OSVs (entry W) [.agg cs] [.c .agg (pl.map argC)] := .cons _ _ _ _ (arg_agg hr) .nil
  refine (law_calls tok envok orcok mixed (f := 4) (fn := Tryz.f4) rfl (code := _) rfl ho (fun N => rfl) hcall hres).mono fun e W' ⟨he, bel⟩ => ?_
  subst he
  exact ⟨_, rfl, _, _, _, [], _, [], hW', trodAll_mk1 (shut_bool Tryz.underlying4 _), trodAll_cons_mk (Below.trod laidOut (by kernel_rfl) (of_decide_eq_true (by kernel_rfl)) ⟨fuel, hm⟩ bel lt0) trodAll_mk0, rfl, bel.frame _, fun h => by cases h⟩

theorem laid_met (os : Os) : laidMetH Tryz.prog Rows.fnExactFsTextUptoRow.laid ((World.laidAll Tryz.prog os Rows.fnExactFsTextUptoRow.laid).forCall (fun _ _ => 0) ⟨#[], #[.agg #[.slice none 0 0, .int .i64 0]], []⟩).memory := by
  rw [MakeChecks.laidMetH_plain _ _ _ (by kernel_rfl)]
  exact laidMet_laidAll _ (by kernel_rfl) (by kernel_rfl)
theorem reads (os : Os) {H : Type} (enc : TypeId × Value → H) : ∃ places, DataW.whole enc Tryz.prog ((World.laidAll Tryz.prog os Rows.fnExactFsTextUptoRow.laid).forCall (fun _ _ => 0) ⟨#[], #[.agg #[.slice none 0 0, .int .i64 0]], []⟩).memory Tryz.f4.params.toList Rows.fnExactFsTextSpec.vars false #[Value.agg #[.slice none 0 0, .int .i64 0]].toList 16 = some ([.agg [.nil, .lit (.int .i64 0)]], [], places) :=
  ⟨[], by kernel_rfl⟩

set_option maxRecDepth 100000 in
theorem lifted (hp : LawPure) (os : Os) (started : os.Started) (H : Type) (enc : TypeId × Value → H) (F : Stop.Interp) :
    ReturnsInHanded {} Tryz.checked os 4 .any ((Rows.OpenSpec.upto Rows.fnExactFsTextSpec).preRow enc Tryz.prog Tryz.f4 Rows.fnExactFsTextUptoRow.domain false Rows.fnExactFsTextUptoRow.laid) (((Rows.OpenSpec.upto Rows.fnExactFsTextSpec).at F).post enc Tryz.prog Tryz.f4 false true false false) := by
  obtain ⟨places, hx⟩ := reads os enc
  refine returnsInHanded_of_row (C := Tryz.checked) (s := Rows.OpenSpec.upto Rows.fnExactFsTextSpec) ownTT started (by kernel_rfl) Tryz.func4
    (witness_row_at (enc := enc) (C := Tryz.checked) false (World.laidAll Tryz.prog os Rows.fnExactFsTextUptoRow.laid) #[.agg #[.slice none 0 0, .int .i64 0]] (World.laidAll_os _ _ _) (by kernel_rfl) (by kernel_rfl) (by kernel_rfl)
      (OpenSpec.preRow_of_cond 16 hx (by kernel_rfl) (fun k hk => by cases hk; kernel_rfl) (by kernel_rfl) (laid_met os))) ?_
  intro W base args ds gs before hval hW _ hk _ _ _ _
  exact contract hp H enc W base args ds gs before hval hW (hk _ rfl)

theorem said (hp : LawPure) : Rows.FnExactFsTextUptoSaid :=
  OpenClaim.holds_of_cond 4 Tryz.f4 rfl rfl rfl rfl rfl rfl rfl ⟨rfl, rfl, rfl, rfl, rfl⟩ rfl rfl rfl rfl rfl (by kernel_rfl) Tryz.func4 (by kernel_rfl)
    (of_decide_eq_true (by kernel_rfl)) (by unfold Func.isWrapper; first | (rw [if_pos (by decide +kernel)]; kernel_rfl) | (rw [if_neg (by decide +kernel)]; exact ⟨rfl, rfl⟩))
    (fun os started H enc _ F => by rw [OpenClaim.pre_eq_preRow]; exact lifted hp os started H enc F)

theorem noStandIn (f : FuncId) (fn : Func) (hf : Tryz.pinned.checked.prog.funcNamed "loop.example/g00285/laws.FnExactFsText" = some f) (hfn : Tryz.pinned.checked.prog.funcs[f]? = some fn) :
    false = Tryz.pinned.checked.prog.looks [] ∧ ∀ (j : Nat) t, fn.params[j]? = some t → Tryz.pinned.checked.prog.wantsStandIn t = false := by
  obtain rfl : f = 4 := Option.some.inj ((show Tryz.prog.funcNamed "loop.example/g00285/laws.FnExactFsText" = some 4 by kernel_rfl).symm.trans hf) |>.symm
  obtain rfl : fn = Tryz.f4 := (Option.some.inj (Tryz.func4.symm.trans hfn)).symm
  refine ⟨by kernel_rfl, fun j t ht => ?_⟩
  rw [Tryz.params4] at ht
  obtain rfl : t = 35 := by simpa using Array.mem_of_getElem? ht
  exact (show Tryz.prog.wantsStandIn 35 = false by kernel_rfl)

theorem card (hp : LawPure) : Rows.FnExactFsTextUptoCardSaid :=
  Claim7.holds_tied_plain_at .later [] _ _ _ _ (said hp) (fun _ h => by cases h) (by kernel_rfl) (fun _ h => by cases h) fnExactFsTextUpto_row_tie rfl ⟨rfl, rfl⟩ (by kernel_rfl) rfl noStandIn (by kernel_rfl)

end Go.Proofs.YticgilhndadkiaaGreatDoor.R

namespace Go.Proofs.YticgilhndadkiaaGreatDoor
open Go
/-- The law FnExactFsText, of arguments of at most 1048576 values and letters. -/
theorem fsText : Rows.FnExactFsTextUptoCardSaid := R.card R.lawPure
end Go.Proofs.YticgilhndadkiaaGreatDoor

