/- The row of the law FnExactReads: from its call, as the evaluator has it, to the statement. -/
import Derived.Test.YtblelojdboefjaaGreatK
import Derived.Test.YtblelojdboefjaaGreatCh
import Derived.Test.YtblelojdboefjaaGreatRows
import Derived.WalkKit
import Derived.ProofKit
import Derived.OpenShut
import Derived.JoinedCond
set_option linter.unusedVariables false
set_option linter.unusedSimpArgs false
namespace Go.Proofs.YtblelojdboefjaaGreat.R
open Go Go.ChangeShapes Go.WideShapes Go.ChangeAt Go.RowKit

theorem bulk_one {H : Type} (d : DataW H) : 1 ≤ Rows.uptoBulk d := by
  cases d with
  | lit l => cases l <;> simp [Rows.uptoBulk]
  | _ => simp [Rows.uptoBulk]
theorem bulk_law {H : Type} : BulkLaw (H := H) Rows.uptoBulk Rows.uptoBulkAll :=
  ⟨bulk_one, fun l => by simp [Rows.uptoBulk], fun e s => by simp only [Rows.uptoBulk]; omega, fun l => by simp [Rows.uptoBulk], fun d l => by simp [Rows.uptoBulkAll]⟩

theorem ofArg : OfTy Tryz.prog 40 sEng := ofTy_ok (n := 60) (by kernel_rfl)
theorem underArg : isStruct? (Tryz.prog.underlying 40) = true := by kernel_rfl

/-- What is left to show of the law: its call answers true. -/
def LawPure : Prop := ∀ (pl : List PV) (m : Nat), Fits sEng pl m → m ≤ 1048576 → ∃ n r fl, pcall env n 4 [.c .agg (pl.map argC)] [] = some r ∧ r.res = .c .one [.sh fl (.b true)]

set_option maxRecDepth 100000 in
theorem law_ok (n : Nat) (hn : Big + 2000001 ≤ n) (x : TEng) (hx : x.ok) : pcall env n 4 [.c .agg (x.pv.map argC')] [] = some ⟨pvSV (.b true), []⟩ := by
  obtain ⟨m, rfl⟩ := ex_pred hn
  obtain ⟨g, c0⟩ := szEng_ok m (deep hn (by decide)) x hx
  have c1 := toEng_ok m (deep hn (by decide)) x hx
  have c2 := readsS_ok m (deep hn (by decide)) x hx
  have c3 := readsI_ok m (deep hn (by decide)) x hx
  have c4 := eqEng_ok m (deep hn (by decide)) x hx
  simp only [go_sem] at c0 c1 c2 c3 c4
  refine wq_eq (wq_pcall (fn := Tryz.f4) rfl rfl rfl (Nat.le_of_ble_eq_true rfl) ?_)
  unfold Tryz.f4
  simp only [go_sem, Nat.reduceLT, Nat.reduceAdd, Nat.reduceSub, Nat.reduceEqDiff, Nat.reduceLeDiff, c0, c1, c2, c3, c4]
  refine bq_mk (fun h => ?_) (fun h => ?_) <;> simp only [go_sem, Nat.reduceLT, Nat.reduceAdd, Nat.reduceSub, Nat.reduceEqDiff, Nat.reduceLeDiff, c0, c1, c2, c3, c4]
  exact chk1 (by kernel_rfl)

theorem lawPure : LawPure := fun pl m hf hm => by
  obtain ⟨x, rfl, hx⟩ := TEng.of pl m hf hm
  exact ⟨_, _, false, law_ok (Big + 2000001) (Nat.le_refl _) x hx, rfl⟩

theorem own : ownKnob Tryz.prog.godebug = none := by kernel_rfl
theorem laidOut : laidOutB Tryz.prog = true := by kernel_rfl

set_option maxRecDepth 100000 in
theorem contract (hp : LawPure) (H : Type) (enc : TypeId × Value → H) (W : World) (base : Nat) (args : Array Value) (ds gs : List (DataW H)) (before : List MemPlace)
    (hval : ∀ (j : Nat) t v, Tryz.f4.params[j]? = some t → args[j]? = some v → Value.okWide Tryz.prog W .any base t v)
    (hW : DataW.Whole enc Tryz.prog Tryz.f4.params.toList Rows.fnExactReadsSpec.vars false W args.toList ds gs before) (hk : Rows.uptoSmall H (ds ++ gs) = true) :
    Calls Tryz.prog 4 args W fun e W' => ∃ v, e = .returned v ∧ Rows.fnExactReadsSpec.post enc Tryz.prog Tryz.f4 false true false false W args v W' := by
  have hW' := hW
  obtain ⟨p, q, hA0, hV, rfl, hfz, hnd⟩ := hW
  have hA : DataW.TrodAll enc Tryz.prog W 0 (fun _ => true) true Tryz.f4.params.toList args.toList ds p := hA0
  rw [Tryz.params4] at hA hval
  obtain ⟨v0, vs0, d0, ds0, p0, q0, hargs, rfl, rfl, h0, r0⟩ := trodAll_cons hA
  obtain ⟨rfl, rfl, rfl⟩ := trodAll_nil r0
  obtain rfl : args = #[v0] := by cases args; simp_all
  obtain ⟨rfl, rfl⟩ := trodVars_none hV
  simp only [List.append_nil] at hW' hk
  have hb : Rows.uptoBulkAll [d0] ≤ 1048576 := of_decide_eq_true hk
  have lt0 : ∀ x ∈ p0, x.block < W.heap.size := by obtain ⟨m, hm⟩ := h0; exact DataW.trod_lt m _ _ _ hm
  obtain ⟨fs, hfs⟩ := struct_of underArg
  have hv := hval 0 40 v0 rfl rfl
  unfold Value.okWide at hv
  rw [hfs] at hv
  obtain ⟨cs, rfl, hcs, _⟩ := hv
  obtain ⟨fuel, hm⟩ := h0
  obtain ⟨pl, m, hf, hmle, hr⟩ := open_ok (B := Rows.uptoBulk) (BA := Rows.uptoBulkAll) bulk_law fuel ofArg hm
  obtain ⟨n, r, fl, hcall, hres⟩ := hp pl m hf (by simp only [Rows.uptoBulkAll] at hb; omega)
  have ho : OSVs (entry W) [.agg cs] [.c .agg (pl.map argC)] := .cons _ _ _ _ (arg_agg hr) .nil
  refine (law_calls tok envok orcok mixed (f := 4) (fn := Tryz.f4) rfl (code := _) rfl ho (fun N => rfl) hcall hres).mono fun e W' ⟨he, bel⟩ => ?_
  subst he
  exact ⟨_, rfl, _, _, _, [], _, [], hW', trodAll_mk1 (shut_bool Tryz.underlying4 _), trodAll_cons_mk (Below.trod laidOut (by kernel_rfl) (of_decide_eq_true (by kernel_rfl)) ⟨fuel, hm⟩ bel lt0) trodAll_mk0, rfl, bel.frame _, fun h => by cases h⟩

set_option maxRecDepth 100000 in
theorem lifted (hp : LawPure) (os : Os) (started : os.Started) (H : Type) (enc : TypeId × Value → H) (F : Stop.Interp) :
    ReturnsInHanded {} Tryz.checked os 4 .any ((Rows.OpenSpec.upto Rows.fnExactReadsSpec).pre6 enc Tryz.prog Tryz.f4 Rows.fnExactReadsUptoRow.domain false) (((Rows.OpenSpec.upto Rows.fnExactReadsSpec).at F).post enc Tryz.prog Tryz.f4 false true false false) := by
  refine returnsInHanded_of_cond (C := Tryz.checked) (s := Rows.OpenSpec.upto Rows.fnExactReadsSpec) (k := Rows.uptoSmall) rfl own started (by kernel_rfl) Tryz.func4
    (OpenSpec.witness (enc := enc) (C := Tryz.checked) (s := Rows.OpenSpec.upto Rows.fnExactReadsSpec) (k := Rows.uptoSmall) rfl false ⟨#[], #[.agg #[.slice none 0 0, .int .i64 0, .slice none 0 0, .int .i64 0, .int .i64 0, .slice none 0 0, .slice none 0 0, .int .i64 0, .int .i64 0, .slice none 0 0, .int .i64 0, .slice none 0 0, .bool false, .int .i64 0]], []⟩ 16 (by kernel_rfl) (by kernel_rfl) (by kernel_rfl)
      (x := ([.agg [.agg [.nil, .lit (.int .i64 0)], .agg [.agg [.nil, .lit (.int .i64 0)], .agg [.lit (.int .i64 0), .nil], .nil, .lit (.int .i64 0), .lit (.int .i64 0)], .agg [.agg [.agg [.nil], .lit (.int .i64 0), .nil, .lit (.bool false)], .lit (.int .i64 0)]]], [], [])) (by kernel_rfl) rfl (by kernel_rfl)) ?_
  intro W base args ds gs before hval hW _ hk _
  exact contract hp H enc W base args ds gs before hval hW hk

theorem said (hp : LawPure) : Rows.FnExactReadsUptoSaid :=
  OpenClaim.holds_of_cond 4 Tryz.f4 rfl rfl rfl rfl rfl rfl rfl ⟨rfl, rfl, rfl, rfl, rfl⟩ rfl rfl rfl rfl rfl (by kernel_rfl) Tryz.func4 (by kernel_rfl)
    (of_decide_eq_true (by kernel_rfl)) (by unfold Func.isWrapper; first | (rw [if_pos (by decide +kernel)]; kernel_rfl) | (rw [if_neg (by decide +kernel)]; exact ⟨rfl, rfl⟩))
    (fun os started H enc _ F => lifted hp os started H enc F)

end Go.Proofs.YtblelojdboefjaaGreat.R

namespace Go.Proofs.YtblelojdboefjaaGreat
open Go
/-- The law FnExactReads, of arguments of at most 1048576 values and letters. -/
theorem reads : Rows.FnExactReadsUptoSaid := R.said R.lawPure
end Go.Proofs.YtblelojdboefjaaGreat

