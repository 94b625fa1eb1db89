/- Paths, attributes: what both programs ask of them. -/
import Derived.Test.YtblelojdboefjaaDoorYd
set_option maxRecDepth 100000
set_option linter.unusedVariables false
set_option linter.unusedSimpArgs false
namespace Go.Proofs.YtblelojdboefjaaDoor.R
open Go

/-- Is it a path, and not the root's? -/
def innerL (l : List UInt8) : Bool := match pathL l with
  | some (_ :: _) => true
  | _ => false
def innerB (s : ByteArray) : Bool := innerL s.data.toList
theorem pathL_names {l : List UInt8} {ps : List (List UInt8)} (h : pathL l = some ps) : ps.length ≤ 30 ∧ ∀ p ∈ ps, p.length ≤ 14 := by
  unfold pathL at h
  split at h
  · injection h with h; subst h; exact ⟨Nat.zero_le _, by simp⟩
  · split at h
    · split at h
      · rename_i hb
        injection h with h; subst h
        simp only [Bool.and_eq_true, decide_eq_true_eq, List.all_eq_true] at hb
        refine ⟨hb.1, fun q hq => ?_⟩
        have := hb.2 q hq
        simp only [nameL, nameEnd, Bool.and_eq_true, decide_eq_true_eq] at this
        exact this.2.1.1.2
      · simp at h
    · simp at h

theorem isInner_ok (n : Nat) (hn : Big + 8 ≤ n) (s : ByteArray) (hs : s.size ≤ Bd) : pcall env n 60 [pvSV (.t s)] [] = some ⟨pvSV (.b (innerB s)), []⟩ := by
  obtain ⟨m, rfl⟩ := ex_pred hn
  obtain ⟨⟨l⟩⟩ := s
  have hc := splitImpl_ok m (deep hn (by decide)) l hs
  rw [show innerB ⟨⟨l⟩⟩ = innerL l from rfl]
  unfold innerL
  cases hp : pathL l with
  | none =>
    rw [hp] at hc
    simp only [go_sem, splitI] at hc
    refine wq_eq (wq_pcall (fn := Tryd.f60) rfl rfl rfl (Nat.le_of_ble_eq_true rfl) ?_)
    unfold Tryd.f60
    simp only [go_sem, Nat.reduceLT, Nat.reduceAdd, Nat.reduceSub, Nat.reduceEqDiff, Nat.reduceLeDiff, Int.reduceEq, Int.reduceBEq, Int.reduceBNe, Int.reduceNeg, UInt8.reduceToNat, hc]
  | some ps =>
    rw [hp] at hc
    cases ps with
    | nil =>
      simp only [go_sem, splitI] at hc
      refine wq_eq (wq_pcall (fn := Tryd.f60) rfl rfl rfl (Nat.le_of_ble_eq_true rfl) ?_)
      unfold Tryd.f60
      simp only [go_sem, Nat.reduceLT, Nat.reduceAdd, Nat.reduceSub, Nat.reduceEqDiff, Nat.reduceLeDiff, Int.reduceEq, Int.reduceBEq, Int.reduceBNe, Int.reduceNeg, UInt8.reduceToNat, hc]
    | cons p ps =>
      simp only [go_sem, splitI] at hc
      have hgt : (((ps.length + 1 : Nat) : Int) > 0) := by omega
      refine wq_eq (wq_pcall (fn := Tryd.f60) rfl rfl rfl (Nat.le_of_ble_eq_true rfl) ?_)
      unfold Tryd.f60
      simp only [go_sem, Nat.reduceLT, Nat.reduceAdd, Nat.reduceSub, Nat.reduceEqDiff, Nat.reduceLeDiff, Int.reduceEq, Int.reduceBEq, Int.reduceBNe, Int.reduceNeg, UInt8.reduceToNat, hc, hgt]

theorem joinPath_ok (n : Nat) (hn : Big + 3 ≤ n) (l : List (List UInt8)) (hl : l.length ≤ 30) (ho : ∀ p ∈ l, p.length ≤ 14) : ∃ t : ByteArray, pcall env n 77 [.c .one [.sh true (.s 1 (l.map ppv))]] [] = some ⟨pvSV (.t t), []⟩ := by
  obtain ⟨m, rfl⟩ := ex_pred hn
  have hB := big_bd
  have hbd : Bd = 1048576 := rfl
  suffices h : @Wq _ (pcall env (m + 1) 77 [.c .one [.sh true (.s 1 (l.map ppv))]] []) ⟨fun r => ∃ t, r = ⟨pvSV (.t t), []⟩⟩ by
    obtain ⟨r, h1, t, h2⟩ := h; exact ⟨t, by rw [h1, h2]⟩
  refine wq_pcall (fn := Tryd.f77) rfl rfl rfl (Nat.le_of_ble_eq_true rfl) ?_
  unfold Tryd.f77
  by_cases h0 : l.length = 0
  · have h0' : ((l.length : Int) == 0) = true := by rw [beq_iff_eq]; omega
    simp only [go_sem, Nat.reduceLT, Nat.reduceAdd, Nat.reduceSub, Nat.reduceEqDiff, Nat.reduceLeDiff, Int.reduceEq, Int.reduceBEq, Int.reduceBNe, Int.reduceNeg, UInt8.reduceToNat, h0']
    exact ⟨_, rfl⟩
  · have h0' : ((l.length : Int) == 0) = false := by rw [beq_eq_false_iff_ne]; omega
    simp only [go_sem, Nat.reduceLT, Nat.reduceAdd, Nat.reduceSub, Nat.reduceEqDiff, Nat.reduceLeDiff, Int.reduceEq, Int.reduceBEq, Int.reduceBNe, Int.reduceNeg, UInt8.reduceToNat, h0']
    refine wq_loop_at (fun k σ => ∃ (j : Nat) (s : ByteArray), j ≤ l.length ∧ k = l.length - j ∧ s.size ≤ j * 15 ∧ σ = slots 33 [(0, .c .one [.sh true (.s 1 (l.map ppv))]), (3, .c .one [.sh false (.t s)]), (4, .c .one [.sh false (.i .i64 (j : Nat))])]) l.length (by omega) ?_ ?_
    · simp only [go_sem, Nat.reduceLT, Nat.reduceAdd, Nat.reduceSub, Nat.reduceEqDiff, Nat.reduceLeDiff, Int.reduceEq, Int.reduceBEq, Int.reduceBNe, Int.reduceNeg, UInt8.reduceToNat]
      exact ⟨0, ⟨⟨[]⟩⟩, Nat.zero_le _, rfl, Nat.le_refl _, rfl⟩
    · rintro k σ ⟨j, s, hj, rfl, hs, rfl⟩
      by_cases hlt : j < l.length
      · have h1 : ((j : Int) < (l.length : Int)) := by omega
        have hx : l[j]? = some l[j] := List.getElem?_eq_getElem hlt
        have hok := ho _ (List.getElem_mem hlt)
        generalize l[j] = p at hx hok
        have hc := nameSpec_ok m (deep hn (by decide)) ⟨⟨p⟩⟩ (by show p.length ≤ Bd; omega)
        simp only [go_sem, nameB] at hc
        have h30 : ¬ ((l.length : Int) > 30) := by omega
        cases hb : nameL p
        · simp only [go_sem, Nat.reduceLT, Nat.reduceAdd, Nat.reduceSub, Nat.reduceEqDiff, Nat.reduceLeDiff, Int.reduceEq, Int.reduceBEq, Int.reduceBNe, Int.reduceNeg, UInt8.reduceToNat, h1, hx, hc, hb]
          exact ⟨_, rfl⟩
        · simp only [go_sem, Nat.reduceLT, Nat.reduceAdd, Nat.reduceSub, Nat.reduceEqDiff, Nat.reduceLeDiff, Int.reduceEq, Int.reduceBEq, Int.reduceBNe, Int.reduceNeg, UInt8.reduceToNat, h1, hx, hc, hb, h30, wrap_succ hlt (by omega)]
          repeat (first | (refine bq_pos (by omega) ?_; simp only [go_sem, Nat.reduceLT, Nat.reduceAdd, Nat.reduceSub, Nat.reduceEqDiff, Nat.reduceLeDiff, Int.reduceEq, Int.reduceBEq, Int.reduceBNe, Int.reduceNeg, UInt8.reduceToNat, h1, hx, hc, hb, h30, wrap_succ hlt (by omega)]) | (refine bq_neg (by omega) ?_; simp only [go_sem, Nat.reduceLT, Nat.reduceAdd, Nat.reduceSub, Nat.reduceEqDiff, Nat.reduceLeDiff, Int.reduceEq, Int.reduceBEq, Int.reduceBNe, Int.reduceNeg, UInt8.reduceToNat, h1, hx, hc, hb, h30, wrap_succ hlt (by omega)]) | (refine bq_neg (by simp only [ByteArray.size_append, size_lit, List.length_cons, List.length_nil, i64max]; omega) ?_; simp only [go_sem, Nat.reduceLT, Nat.reduceAdd, Nat.reduceSub, Nat.reduceEqDiff, Nat.reduceLeDiff, Int.reduceEq, Int.reduceBEq, Int.reduceBNe, Int.reduceNeg, UInt8.reduceToNat, h1, hx, hc, hb, h30, wrap_succ hlt (by omega)]))
          exact ⟨_, by omega, j + 1, _, hlt, rfl, by simp only [ByteArray.size_append, size_lit, List.length_cons, List.length_nil]; omega, rfl⟩
      · have h1 : ¬ ((j : Int) < (l.length : Int)) := by omega
        simp only [go_sem, Nat.reduceLT, Nat.reduceAdd, Nat.reduceSub, Nat.reduceEqDiff, Nat.reduceLeDiff, Int.reduceEq, Int.reduceBEq, Int.reduceBNe, Int.reduceNeg, UInt8.reduceToNat, h1]
        exact ⟨_, rfl⟩

theorem parentOf_ok (n : Nat) (hn : Big + 4 ≤ n) (s : ByteArray) (hs : s.size ≤ Bd) : ∃ a b : ByteArray, pcall env n 56 [pvSV (.t s)] [] = some ⟨.c (.tup [(false, 1), (false, 1), (false, 1)]) [.sh false (.t a), .sh false (.t b), .sh false (.b (innerB s))], []⟩ := by
  obtain ⟨m, rfl⟩ := ex_pred hn
  obtain ⟨⟨l⟩⟩ := s
  have hc := splitSpec_ok m (deep hn (by decide)) l hs
  simp only [show innerB ⟨⟨l⟩⟩ = innerL l from rfl]
  unfold innerL
  cases hp : pathL l with
  | none =>
    rw [hp] at hc
    simp only [go_sem, splitS] at hc
    refine ⟨⟨⟨[]⟩⟩, ⟨⟨[]⟩⟩, ?_⟩
    refine wq_eq (wq_pcall (fn := Tryd.f56) rfl rfl rfl (Nat.le_of_ble_eq_true rfl) ?_)
    unfold Tryd.f56
    simp only [go_sem, Nat.reduceLT, Nat.reduceAdd, Nat.reduceSub, Nat.reduceEqDiff, Nat.reduceLeDiff, Int.reduceEq, Int.reduceBEq, Int.reduceBNe, Int.reduceNeg, UInt8.reduceToNat, hc]
  | some ps =>
    rw [hp] at hc
    obtain ⟨h30, h14⟩ := pathL_names hp
    cases ps with
    | nil =>
      simp only [go_sem, splitS] at hc
      refine ⟨⟨⟨[]⟩⟩, ⟨⟨[]⟩⟩, ?_⟩
      refine wq_eq (wq_pcall (fn := Tryd.f56) rfl rfl rfl (Nat.le_of_ble_eq_true rfl) ?_)
      unfold Tryd.f56
      simp only [go_sem, Nat.reduceLT, Nat.reduceAdd, Nat.reduceSub, Nat.reduceEqDiff, Nat.reduceLeDiff, Int.reduceEq, Int.reduceBEq, Int.reduceBNe, Int.reduceNeg, UInt8.reduceToNat, hc]
    | cons p ps =>
      obtain ⟨q, hq⟩ : ∃ q, (p :: ps)[ps.length]? = some q := ⟨_, List.getElem?_eq_getElem (by simp)⟩
      obtain ⟨tj, hj⟩ := joinPath_ok m (deep hn (by decide)) ((p :: ps).take ps.length) (by rw [List.length_take]; omega) (fun r hr => h14 r (List.mem_of_mem_take hr))
      obtain ⟨c1, hc1⟩ : ∃ c1, c1 = ps.length + 1 := ⟨_, rfl⟩
      have hlen : (p :: ps).length = c1 := by rw [hc1]; rfl
      dsimp only
      generalize p :: ps = pl at hc hj hq hlen h30
      simp only [go_sem, splitS] at hc hj
      have hz : ((c1 : Int) == 0) = false := by rw [beq_eq_false_iff_ne]; omega
      have hw : IntKind.i64.wrap ((c1 : Int) - 1) = ((ps.length : Nat) : Int) := by rw [wrap_in (by omega) (by omega)]; omega
      have hle : ((ps.length : Int) ≤ (c1 : Int)) := by omega
      rw [List.map_take] at hj
      refine ⟨tj, ⟨⟨q⟩⟩, ?_⟩
      refine wq_eq (wq_pcall (fn := Tryd.f56) rfl rfl rfl (Nat.le_of_ble_eq_true rfl) ?_)
      unfold Tryd.f56
      simp only [go_sem, Nat.reduceLT, Nat.reduceAdd, Nat.reduceSub, Nat.reduceEqDiff, Nat.reduceLeDiff, Int.reduceEq, Int.reduceBEq, Int.reduceBNe, Int.reduceNeg, UInt8.reduceToNat, hc, hz, hlen, hw, hle, hj, hq]
      exact chk1 (by kernel_rfl)
end Go.Proofs.YtblelojdboefjaaDoor.R
