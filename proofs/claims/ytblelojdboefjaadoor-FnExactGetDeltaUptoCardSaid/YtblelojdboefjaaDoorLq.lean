/- The row of the law FnExactGetDelta: from its call, as the evaluator has it, to the statement. -/
import Derived.Test.YtblelojdboefjaaDoorK
import Derived.Test.YtblelojdboefjaaDoorGh
import Derived.Test.YtblelojdboefjaaDoorRows
import Derived.Test.YtblelojdboefjaaDoorCards
import Derived.Test.YtblelojdboefjaaDoorTie
import Derived.WalkKit
import Derived.ProofKit
import Derived.OpenShut
import Derived.Deep.DeepHandedRow
import Derived.Lay
import Derived.LaidMore
import Derived.SevenTiedAt
import Derived.Stop.Joined
import Derived.MakeChecks
import Derived.JoinedCond
set_option linter.unusedVariables false
set_option linter.unusedSimpArgs false
namespace Go.Proofs.YtblelojdboefjaaDoor.R
open Go Go.ChangeShapes Go.WideShapes Go.ChangeAt Go.RowKit

theorem bulk_one {H : Type} (d : DataW H) : 1 ≤ Rows.uptoBulk d := by
  cases d with
  | lit l => cases l <;> simp [Rows.uptoBulk]
  | _ => simp [Rows.uptoBulk]
theorem bulk_law {H : Type} : BulkLaw (H := H) Rows.uptoBulk Rows.uptoBulkAll :=
  ⟨bulk_one, fun l => by simp [Rows.uptoBulk], fun e s => by simp only [Rows.uptoBulk]; omega, fun l => by simp [Rows.uptoBulk], fun d l => by simp [Rows.uptoBulkAll]⟩

theorem ofArg : OfTy Tryd.prog 28 (.sl (.int .u8)) := ofTy_ok (n := 60) (by kernel_rfl)

def isSlice? : Option TypeDesc → Bool
  | some (.slice _) => true
  | _ => false
theorem slice_of {P : Program} {t : TypeId} (h : isSlice? (P.underlying t) = true) : ∃ e, P.underlying t = some (.slice e) := by
  cases e : P.underlying t with
  | none => rw [e] at h; simp [isSlice?] at h
  | some d =>
    rw [e] at h
    cases d <;> simp [isSlice?] at h
    exact ⟨_, rfl⟩
theorem underArg : isSlice? (Tryd.prog.underlying 28) = true := by kernel_rfl
theorem one_cell {P : Program} {W : World} {base : Nat} {t : TypeId} {v : Value} (hu : isSlice? (P.underlying t) = true) (hv : Value.okWide P W .any base t v) : v.cells.toList = [v] := by
  obtain ⟨e, hu⟩ := slice_of hu
  unfold Value.okWide at hv
  rw [hu] at hv
  unfold Cell.okWide Cell.ok at hv
  rw [hu] at hv
  cases v <;> first | rfl | exact hv.elim
/-- What is left to show of the law: its call answers true. -/
def LawPure : Prop := ∀ (pl : List PV) (m : Nat), Fits (.sl (.int .u8)) pl m → m ≤ 1048576 → ∃ n r fl, pcall env n 4 [.c .one (pl.map argC)] [] = some r ∧ r.res = .c .one [.sh fl (.b true)]

theorem lawPure : LawPure := fun pl m hf hm => by
  obtain ⟨rows, k, rfl, g, hk⟩ := fits_sl hf
  obtain ⟨b, rfl, o⟩ := of_bytes g (by have hb : Bd = 1048576 := rfl; omega)
  exact ⟨_, _, false, law_ok (Big + 2000001) (Nat.le_refl _) b o.2, rfl⟩

theorem own : ownKnob Tryd.prog.godebug = none := by kernel_rfl
theorem laidOut : laidOutB Tryd.prog = true := by kernel_rfl

set_option maxRecDepth 100000 in
theorem contract (hp : LawPure) (H : Type) (enc : TypeId × Value → H) (W : World) (base : Nat) (args : Array Value) (ds gs : List (DataW H)) (before : List MemPlace)
    (hval : ∀ (j : Nat) t v, Tryd.f4.params[j]? = some t → args[j]? = some v → Value.okWide Tryd.prog W .any base t v)
    (hW : DataW.Whole enc Tryd.prog Tryd.f4.params.toList Rows.fnExactGetDeltaSpec.vars false W args.toList ds gs before) (hk : Rows.uptoSmall H (ds ++ gs) = true) :
    Calls Tryd.prog 4 args W fun e W' => ∃ v, e = .returned v ∧ Rows.fnExactGetDeltaSpec.post enc Tryd.prog Tryd.f4 false true false false W args v W' := by
  have hW' := hW
  obtain ⟨p, q, hA0, hV, rfl, hfz, hnd⟩ := hW
  have hA : DataW.TrodAll enc Tryd.prog W 0 (fun _ => true) true Tryd.f4.params.toList args.toList ds p := hA0
  rw [Tryd.params4] at hA hval
  obtain ⟨v0, vs0, d0, ds0, p0, q0, hargs, rfl, rfl, h0, r0⟩ := trodAll_cons hA
  obtain ⟨rfl, rfl, rfl⟩ := trodAll_nil r0
  obtain rfl : args = #[v0] := by cases args; simp_all
  obtain ⟨rfl, rfl⟩ := trodVars_none hV
  simp only [List.append_nil] at hW' hk
  have hb : Rows.uptoBulkAll [d0] ≤ 1048576 := of_decide_eq_true hk
  have lt0 : ∀ x ∈ p0, x.block < W.heap.size := by obtain ⟨m, hm⟩ := h0; exact DataW.trod_lt m _ _ _ hm
  have hv0 := one_cell underArg (hval 0 28 v0 rfl rfl)
  obtain ⟨fuel, hm⟩ := h0
  have hm' := hm
  rw [hv0] at hm'
  obtain ⟨pl, m, hf, hmle, hr⟩ := open_ok (B := Rows.uptoBulk) (BA := Rows.uptoBulkAll) bulk_law fuel ofArg hm'
  obtain ⟨n, r, fl, hcall, hres⟩ := hp pl m hf (by simp only [Rows.uptoBulkAll] at hb; omega)
  have ho : OSVs (entry W) [v0] [.c .one (pl.map argC)] := .cons _ _ _ _ (by obtain ⟨rows, k, rfl, _⟩ := fits_sl hf; exact arg_one hr) .nil
  refine (law_calls tok envok orcok mixed (f := 4) (fn := Tryd.f4) rfl (code := _) rfl ho (fun N => rfl) hcall hres).mono fun e W' ⟨he, bel⟩ => ?_
  subst he
  exact ⟨_, rfl, _, _, _, [], _, [], hW', trodAll_mk1 (shut_bool Tryd.underlying4 _), trodAll_cons_mk (Below.trod laidOut (by kernel_rfl) (of_decide_eq_true (by kernel_rfl)) ⟨fuel, hm⟩ bel lt0) trodAll_mk0, rfl, bel.frame _, fun h => by cases h⟩

theorem laid_met (os : Os) : laidMetH Tryd.prog Rows.fnExactGetDeltaUptoRow.laid ((World.laidAll Tryd.prog os Rows.fnExactGetDeltaUptoRow.laid).forCall (fun _ _ => 0) ⟨#[], #[.slice none 0 0], []⟩).memory := by
  rw [MakeChecks.laidMetH_plain _ _ _ (by kernel_rfl)]
  exact laidMet_laidAll _ (by kernel_rfl) (by kernel_rfl)
theorem reads (os : Os) {H : Type} (enc : TypeId × Value → H) : ∃ places, DataW.whole enc Tryd.prog ((World.laidAll Tryd.prog os Rows.fnExactGetDeltaUptoRow.laid).forCall (fun _ _ => 0) ⟨#[], #[.slice none 0 0], []⟩).memory Tryd.f4.params.toList Rows.fnExactGetDeltaSpec.vars false #[Value.slice none 0 0].toList 16 = some ([.nil], [], places) :=
  ⟨[], by kernel_rfl⟩

set_option maxRecDepth 100000 in
theorem lifted (hp : LawPure) (os : Os) (started : os.Started) (H : Type) (enc : TypeId × Value → H) (F : Stop.Interp) :
    ReturnsInHanded {} Tryd.checked os 4 .any ((Rows.OpenSpec.upto Rows.fnExactGetDeltaSpec).preRow enc Tryd.prog Tryd.f4 Rows.fnExactGetDeltaUptoRow.domain false Rows.fnExactGetDeltaUptoRow.laid) (((Rows.OpenSpec.upto Rows.fnExactGetDeltaSpec).at F).post enc Tryd.prog Tryd.f4 false true false false) := by
  obtain ⟨places, hx⟩ := reads os enc
  refine returnsInHanded_of_row (C := Tryd.checked) (s := Rows.OpenSpec.upto Rows.fnExactGetDeltaSpec) own started (by kernel_rfl) Tryd.func4
    (witness_row_at (enc := enc) (C := Tryd.checked) false (World.laidAll Tryd.prog os Rows.fnExactGetDeltaUptoRow.laid) #[.slice none 0 0] (World.laidAll_os _ _ _) (by kernel_rfl) (by kernel_rfl) (by kernel_rfl)
      (OpenSpec.preRow_of_cond 16 hx (by kernel_rfl) (fun k hk => by cases hk; kernel_rfl) (by kernel_rfl) (laid_met os))) ?_
  intro W base args ds gs before hval hW _ hk _ _ _ _
  exact contract hp H enc W base args ds gs before hval hW (hk _ rfl)

theorem said (hp : LawPure) : Rows.FnExactGetDeltaUptoSaid :=
  OpenClaim.holds_of_cond 4 Tryd.f4 rfl rfl rfl rfl rfl rfl rfl ⟨rfl, rfl, rfl, rfl, rfl⟩ rfl rfl rfl rfl rfl (by kernel_rfl) Tryd.func4 (by kernel_rfl)
    (of_decide_eq_true (by kernel_rfl)) (by unfold Func.isWrapper; first | (rw [if_pos (by decide +kernel)]; kernel_rfl) | (rw [if_neg (by decide +kernel)]; exact ⟨rfl, rfl⟩))
    (fun os started H enc _ F => by rw [OpenClaim.pre_eq_preRow]; exact lifted hp os started H enc F)

theorem noStandIn (f : FuncId) (fn : Func) (hf : Tryd.pinned.checked.prog.funcNamed "loop.example/g00285/laws.FnExactGetDelta" = some f) (hfn : Tryd.pinned.checked.prog.funcs[f]? = some fn) :
    false = Tryd.pinned.checked.prog.looks [] ∧ ∀ (j : Nat) t, fn.params[j]? = some t → Tryd.pinned.checked.prog.wantsStandIn t = false := by
  obtain rfl : f = 4 := Option.some.inj ((show Tryd.prog.funcNamed "loop.example/g00285/laws.FnExactGetDelta" = some 4 by kernel_rfl).symm.trans hf) |>.symm
  obtain rfl : fn = Tryd.f4 := (Option.some.inj (Tryd.func4.symm.trans hfn)).symm
  refine ⟨by kernel_rfl, fun j t ht => ?_⟩
  rw [Tryd.params4] at ht
  obtain rfl : t = 28 := by simpa using Array.mem_of_getElem? ht
  exact (show Tryd.prog.wantsStandIn 28 = false by kernel_rfl)

theorem card (hp : LawPure) : Rows.FnExactGetDeltaUptoCardSaid :=
  Claim7.holds_tied_plain_at .later [] _ _ _ _ (said hp) (fun _ h => by cases h) (by kernel_rfl) (fun _ h => by cases h) fnExactGetDeltaUpto_row_tie rfl ⟨rfl, rfl⟩ (by kernel_rfl) rfl noStandIn (by kernel_rfl)

end Go.Proofs.YtblelojdboefjaaDoor.R

namespace Go.Proofs.YtblelojdboefjaaDoor
open Go
/-- The law FnExactGetDelta, of arguments of at most 1048576 values and letters. -/
theorem getDelta : Rows.FnExactGetDeltaUptoCardSaid := R.card R.lawPure
end Go.Proofs.YtblelojdboefjaaDoor

