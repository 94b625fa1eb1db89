/- A law's call. -/
import Derived.Test.YtlbigobmhglppaaR34
import Derived.Below
set_option linter.unusedVariables false
set_option linter.unusedSimpArgs false
namespace Go.Proofs.Ytlbigobmhglppaa.R
open Go Go.RowKit

theorem goes_below {W : World} {X' : Ctx} (h : Goes (entry W) X') : Below W.heap.size W X'.w :=
  ⟨h.os, h.tape, h.output, h.size, fun k hk => h.keep k hk rfl⟩

/-- An argument, as the called function has it. -/
def argC (p : PV) : CV := .sh (!p.scalar) p

theorem arg_cv {W : World} {v : Value} {p : PV} (h : Rd W.heap ((entry W).V true) v p) : ∀ k j, CVRel (entry W) k j v (argC p) := fun k j => by
  refine .sh _ p v ?_
  cases hs : p.scalar with
  | true => exact h.scalar hs
  | false => exact h
theorem arg_cells {W : World} : ∀ {vs : List Value} {ps : List PV}, RdL (entry W) true vs ps → VCells (entry W) vs (ps.map argC)
  | _, _, .nil => .nil
  | _, _, .cons v p vs ps h t => .cons v _ vs _ (arg_cv h) (arg_cells t)

theorem arg_agg {W : World} {cs : Array Value} {ps : List PV} (h : RdL (entry W) true cs.toList ps) : OSV (entry W) (.agg cs) (.c .agg (ps.map argC)) := osv_mk (.agg cs) (arg_cells h)
theorem arg_one {W : World} {v : Value} {p : PV} (h : RdL (entry W) true [v] [p]) : OSV (entry W) v (.c .one [argC p]) := by
  have hc := arg_cells h
  cases h with
  | cons _ _ _ _ h _ => exact osv_mk (.one v (not_agg_of_rd h)) hc

theorem law_calls {P : Program} {E : Env} (hT : TOk P E.T) (hE : EnvOk P E) (hO : OrcOk P E) (hm : P.follows .mixedOrders = true) {f : FuncId} {fn : Func} (hf : E.fns f = some fn) {code : Code} (hb : fn.body = some code) {W : World} {argv : List Value} {args : List SV} (ho : OSVs (entry W) argv args)
    (hs : ∀ N, args.map (shiftSV N) = args) {n : Nat} {r : Ret} (h : pcall E n f args [] = some r) {fl : Bool} (hr : r.res = .c .one [.sh fl (.b true)]) :
    Calls P f argv.toArray W fun e w' => e = .returned (.bool true) ∧ Below W.heap.size W w' := by
  obtain ⟨N, hN, H⟩ := pcall_ok hT hE hO hm n f args [] r h
  have hlen := ho.length
  have hg : Good (entry W) (argv ++ List.replicate (N - args.length) undef ++ []) (args.map (shiftSV N) ++ List.replicate (N - args.length) .undef ++ [].map (SV.c .box)) NoE := by
    rw [hs]
    refine ⟨entry_inv W, ⟨by simp [hlen], fun k v sv hv hsv => ?_⟩, fun b s p base tip h => by simp [entry] at h, fun b s base tip h => by simp [entry] at h⟩
    simp only [List.append_nil, List.map_nil] at hv hsv
    by_cases hk : k < args.length
    · rw [List.getElem?_append_left (by omega)] at hv
      rw [List.getElem?_append_left hk] at hsv
      exact ho.get k v sv hv hsv k
    · rw [List.getElem?_append_right (by omega), List.getElem?_replicate] at hsv
      split at hsv
      · injection hsv with hsv; subst hsv; exact .undef v
      · simp at hsv
  have hL := H (entry W) argv [] hlen hg
  obtain ⟨h1, h2⟩ := hE f fn hf
  unfold Lands at hL
  rw [run_enter h1 h2 hb] at hL
  refine Calls.mono hL ?_
  intro e w' he
  cases e with
  | returned v =>
    obtain ⟨X', hw, G, hg'⟩ := he
    have hres := hg'.frame.2 0 v _ rfl rfl
    rw [hr] at hres
    cases hres with
    | c _ _ vs _ hfl hc =>
      cases hfl with
      | one _ _ =>
        cases hc with
        | cons _ _ _ _ _ hc _ =>
          cases hc with
          | sh _ _ _ hrd =>
            cases hrd with
            | b x => exact ⟨rfl, by rw [← hw]; exact goes_below G⟩
  | panicked c => exact he.elim
  | outgrown => exact he.elim

end Go.Proofs.Ytlbigobmhglppaa.R
