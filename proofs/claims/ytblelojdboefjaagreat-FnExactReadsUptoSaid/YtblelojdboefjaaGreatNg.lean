/- What an image needs, as the program tells it. -/
import Derived.Test.YtblelojdboefjaaGreatNf
set_option maxRecDepth 100000
set_option linter.unusedVariables false
set_option linter.unusedSimpArgs false
namespace Go.Proofs.YtblelojdboefjaaGreat.R
open Go

theorem ints_map' {l : List Int} : ints? (l.map fun x => [PV.i .i64 x]) = some l := by
  induction l with
  | nil => rfl
  | cons x l ih => simp only [List.map_cons, ints?] at ih ⊢; rw [ih]; rfl
theorem ints_map {l : List Int} : ints? (l.map ipv) = some l := by
  induction l with
  | nil => rfl
  | cons x l ih => simp only [List.map_cons, ipv, ints?] at ih ⊢; rw [ih]; rfl
theorem sortInts_len {l : List Int} : (sortInts l).length = l.length := (sortBy_perm _ l).length_eq
theorem sqF_le : ∀ (l : List Int) (a : Int), (squeezeFrom a l).length ≤ l.length
  | [], _ => Nat.le_refl _
  | y :: l, a => by
    unfold squeezeFrom
    split
    · exact Nat.le_succ_of_le (sqF_le l a)
    · simp only [List.length_cons]; exact Nat.succ_le_succ (sqF_le l y)
theorem sq_le : ∀ l : List Int, (squeeze l).length ≤ l.length
  | [] => Nat.le_refl _
  | x :: l => Nat.succ_le_succ (sqF_le l x)
theorem sq_add {l : List Int} : (squeeze l).length + (l.length - (squeeze l).length) = l.length := by have := sq_le l; omega

/-- All addresses that an image leads to, as the program lists them. -/
def allL (x : TImage) : List Int := (leadG x x.T.Rows.length x.Maps.length ++ [[x.Root, x.At]]).flatten
def liveL (x : TImage) : List Int := keepL (squeeze (sortInts (allL x)))

theorem all_len {x : TImage} (hx : x.ok) : (allL x).length ≤ 4398046511104 := by
  have h1 : ∀ l ∈ leadG x x.T.Rows.length x.Maps.length, l.length ≤ 1 + Bd := by
    intro l hl
    unfold leadG at hl
    obtain ⟨i, _, rfl⟩ := List.mem_map.1 hl
    have a1 : (byRow x i).length ≤ 1 := by unfold byRow; split <;> simp
    have a2 : (byMap x i).length ≤ Bd := by
      unfold byMap
      split
      · rename_i p e
        rw [List.length_map]; exact (hx.Maps.1 _ (List.mem_of_getElem? e)).Places.2
      · simp
    rw [List.length_append]
    have b1 : (if i < x.T.Rows.length then byRow x i else []).length ≤ 1 := by split <;> simp [a1]
    have b2 : (if i < x.Maps.length then byMap x i else []).length ≤ Bd := by split <;> simp [a2]
    omega
  have h2 : ∀ ls : List (List Int), (∀ l ∈ ls, l.length ≤ 1 + Bd) → ls.flatten.length ≤ ls.length * (1 + Bd) := by
    intro ls
    induction ls with
    | nil => intro _; simp
    | cons l ls ih =>
      intro h
      rw [List.flatten_cons, List.length_append, List.length_cons, Nat.add_mul, Nat.one_mul]
      have := h l (List.mem_cons_self ..)
      have := ih fun m hm => h m (List.mem_cons_of_mem _ hm)
      omega
  unfold allL
  rw [List.flatten_append, List.length_append]
  have h3 := h2 _ h1
  rw [leadG_len] at h3
  have h4 : max x.T.Rows.length x.Maps.length ≤ Bd := by have := hx.T.Rows.2; have := hx.Maps.2; omega
  have h5 : max x.T.Rows.length x.Maps.length * (1 + Bd) ≤ Bd * (1 + Bd) := Nat.mul_le_mul_right _ h4
  have h6 : Bd * (1 + Bd) = 1099512676352 := by decide
  have h7 : ([[x.Root, x.At]] : List (List Int)).flatten.length = 2 := rfl
  omega

set_option maxHeartbeats 4000000 in
theorem liveI_ok (n : Nat) (hn : Big + 5 ≤ n) (x : TImage) (hx : x.ok) : ∃ c : CV, (c = .ow false 1 ((liveL x).map ipv) ∨ c = .sh false (.s 1 ((liveL x).map ipv))) ∧ pcall env n 19 [.c .agg (x.pv.map argC')] [] = some ⟨.c .one [c], []⟩ := by
  obtain ⟨m, rfl⟩ := ex_pred hn
  have hB : 4398046511104 < Big := by decide
  have hlim : LIM = 70368744177664 := rfl
  have hb : Bd = 1048576 := rfl
  have hal := all_len hx
  have hle := leads_ok m (deep hn (by decide)) x hx
  have hlen : (leadG x x.T.Rows.length x.Maps.length).length ≤ Bd := by rw [leadG_len]; have := hx.T.Rows.2; have := hx.Maps.2; omega
  obtain ⟨fl, hco⟩ := concat_ok m (deep hn (by decide)) (leadG x x.T.Rows.length x.Maps.length ++ [[x.Root, x.At]]) (by rw [List.length_append]; simp only [List.length_cons, List.length_nil]; omega) hal
  have hrows : ∀ L : List (List Int), L.map lpv ++ [[.s 1 [[.i .i64 x.Root], [.i .i64 x.At]]]] = (L ++ [[x.Root, x.At]]).map lpv := fun L => by rw [List.map_append]; rfl
  change pcall env m _ _ _ = some ⟨.c .one [.ow fl 1 ((allL x).map ipv)], []⟩ at hco
  generalize leadG x x.T.Rows.length x.Maps.length = L at hle hco hlen
  have h8 : (L.length + 1) * 24 ≤ LIM := by omega
  simp only [go_sem] at hle hco
  suffices H : @Wq _ (pcall env (m + 1) 19 [.c .agg (x.pv.map argC')] []) ⟨fun r => ∃ c : CV, (c = .ow false 1 ((liveL x).map ipv) ∨ c = .sh false (.s 1 ((liveL x).map ipv))) ∧ r = ⟨.c .one [c], []⟩⟩ by
    obtain ⟨r, h1, c, h2, h3⟩ := H
    exact ⟨c, h2, by rw [h1, h3]⟩
  refine wq_pcall (fn := Tryz.f19) rfl rfl rfl (Nat.le_of_ble_eq_true rfl) ?_
  unfold Tryz.f19
  have hil := ints_map (l := allL x)
  have hsl := sortInts_len (l := allL x)
  have his := ints_map' (l := sortInts (allL x))
  have hsq : (squeeze (sortInts (allL x))).length + ((allL x).length - (squeeze (sortInts (allL x))).length) = (allL x).length := by rw [← hsl]; exact sq_add
  have hqb : (squeeze (sortInts (allL x))).length ≤ 4398046511104 := by have := sq_le (sortInts (allL x)); omega
  have hne : ¬ (allL x).length = 0 := by unfold allL; simp
  have hlt : (allL x).length < 4611686018427387904 := by omega
  cases fl
  all_goals
    simp only [go_sem, Nat.reduceLT, Nat.reduceAdd, Nat.reduceSub, Nat.reduceEqDiff, Nat.reduceLeDiff, Int.reduceEq, Int.reduceBEq, Int.reduceBNe, Int.reduceNeg, UInt8.reduceToNat, Nat.reduceBEq, hle, hrows, hco, h8]
    refine chk (by kernel_rfl) ?_
    simp only [go_sem, Nat.reduceLT, Nat.reduceAdd, Nat.reduceSub, Nat.reduceEqDiff, Nat.reduceLeDiff, Int.reduceEq, Int.reduceBEq, Int.reduceBNe, Int.reduceNeg, UInt8.reduceToNat, Nat.reduceBEq, hle, hrows, hco, h8, sortIntOrc, compactIntOrc, hil, hsl, hne, hlt, his, hsq]
  all_goals
    refine delNeg_q (deep hn (by decide)) (l := squeeze (sortInts (allL x))) hqb (Nat.le_of_ble_eq_true rfl) rfl rfl ?_ fun R hR => ?_
    · simp only [go_sem, Nat.reduceLT, Nat.reduceAdd, Nat.reduceSub, Nat.reduceEqDiff, Nat.reduceLeDiff, Int.reduceEq, Int.reduceBEq, Int.reduceBNe, Int.reduceNeg, UInt8.reduceToNat, Nat.reduceBEq]
      first | exact ⟨_, .inl rfl, rfl⟩ | exact ⟨_, .inr rfl, rfl⟩
    · simp only [go_sem, Nat.reduceLT, Nat.reduceAdd, Nat.reduceSub, Nat.reduceEqDiff, Nat.reduceLeDiff, Int.reduceEq, Int.reduceBEq, Int.reduceBNe, Int.reduceNeg, UInt8.reduceToNat, Nat.reduceBEq, hR]
      first | exact ⟨_, .inl rfl, rfl⟩ | exact ⟨_, .inr rfl, rfl⟩
end Go.Proofs.YtblelojdboefjaaGreat.R
