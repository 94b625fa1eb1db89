/- What an image needs: the reference's walk. -/
import Derived.Test.YtblelojdboefjaaGreatNh
set_option maxRecDepth 100000
set_option linter.unusedVariables false
set_option linter.unusedSimpArgs false
namespace Go.Proofs.YtblelojdboefjaaGreat.R
open Go

def rowsA (x : TImage) (j : Nat) : List Int := (x.T.Rows.take j).map TRow.Map
def mapsA (x : TImage) (j : Nat) : List Int := ((x.Maps.take j).map fun p => p.Places.map TPlace.Addr).flatten
theorem rowsA_succ {x : TImage} {j : Nat} {r : TRow} (h : x.T.Rows[j]? = some r) : rowsA x (j + 1) = rowsA x j ++ [r.Map] := by
  obtain ⟨hj, e⟩ := List.getElem?_eq_some_iff.1 h
  unfold rowsA
  rw [List.take_succ_eq_append_getElem hj, e, List.map_append]; rfl
theorem mapsA_succ {x : TImage} {j : Nat} {p : TMap} (h : x.Maps[j]? = some p) : mapsA x (j + 1) = mapsA x j ++ p.Places.map TPlace.Addr := by
  obtain ⟨hj, e⟩ := List.getElem?_eq_some_iff.1 h
  unfold mapsA
  rw [List.take_succ_eq_append_getElem hj, e]; simp
theorem mapsA_len {x : TImage} (hx : x.ok) : ∀ j, (mapsA x j).length ≤ j * Bd
  | 0 => by simp [mapsA]
  | j + 1 => by
    by_cases h : j < x.Maps.length
    · have hy : x.Maps[j]? = some x.Maps[j] := List.getElem?_eq_getElem h
      rw [mapsA_succ hy, List.length_append, List.length_map, Nat.add_mul, Nat.one_mul]
      have h1 := mapsA_len hx j
      have h2 := (hx.Maps.1 _ (List.getElem_mem h)).Places.2
      omega
    · have e : mapsA x (j + 1) = mapsA x j := by
        unfold mapsA
        rw [List.take_of_length_le (by omega), List.take_of_length_le (by omega)]
      rw [e, Nat.add_mul]
      have h1 := mapsA_len hx j
      omega

theorem mapsA_bd {x : TImage} (hx : x.ok) {j : Nat} (hj : j ≤ x.Maps.length) : (mapsA x j).length ≤ 1099511627776 := by
  have h1 := mapsA_len hx j
  have h2 : j * Bd ≤ Bd * Bd := Nat.mul_le_mul_right _ (Nat.le_trans hj hx.Maps.2)
  have h3 : Bd * Bd = 1099511627776 := by decide
  omega
/-- What a slot holds in which the list lies. -/
def Holds1 (c : CV) (out : List Int) : Prop := c = .ow false 1 (out.map ipv) ∨ c = .sh false (.s 1 (out.map ipv))

set_option maxHeartbeats 8000000 in
theorem liveS_ok (n : Nat) (hn : Big + 5 ≤ n) (x : TImage) (hx : x.ok) : ∃ (c : CV) (out : List Int), Holds1 c out ∧ KeptL ([x.Root, x.At] ++ rowsA x x.T.Rows.length ++ mapsA x x.Maps.length) out ∧ pcall env n 15 [.c .agg (x.pv.map argC')] [] = some ⟨.c .one [c], []⟩ := by
  obtain ⟨m, rfl⟩ := ex_pred hn
  have hB : 4398046511104 < Big := by decide
  have hB2 := big_bd
  have hb : Bd = 1048576 := rfl
  have hr := hx.T.Rows.2
  have hm := hx.Maps.2
  have hput := fun (l : List Int) (hl : l.length ≤ 4398046511104) (k : Int) => l18Put_ok m (deep hn (by decide)) l hl k
  suffices H : @Wq _ (pcall env (m + 1) 15 [.c .agg (x.pv.map argC')] []) ⟨fun q => ∃ (c : CV) (out : List Int), Holds1 c out ∧ KeptL ([x.Root, x.At] ++ rowsA x x.T.Rows.length ++ mapsA x x.Maps.length) out ∧ q = ⟨.c .one [c], []⟩⟩ by
    obtain ⟨q, h1, c, out, h2, h3, h4⟩ := H
    exact ⟨c, out, h2, h3, by rw [h1, h4]⟩
  refine wq_pcall (fn := Tryz.f15) rfl rfl rfl (Nat.le_of_ble_eq_true rfl) ?_
  unfold Tryz.f15
  obtain ⟨c0, r0, hc0, hp0, e0⟩ := hput [] (by simp) x.Root
  have hK0 := KeptL.nil.put hp0
  have hl0 := hK0.len
  obtain ⟨c1, r1, hc1, hp1, e1⟩ := hput r0 (by simp at hl0; omega) x.At
  have hK1 := hK0.put hp1
  simp only [List.map_nil] at e0
  rcases hc0 with rfl | rfl <;> rcases hc1 with rfl | rfl
  all_goals
    simp only [go_sem, Nat.reduceLT, Nat.reduceAdd, Nat.reduceSub, Nat.reduceEqDiff, Nat.reduceLeDiff, Int.reduceEq, Int.reduceBEq, Int.reduceBNe, Int.reduceNeg, UInt8.reduceToNat, Nat.reduceBEq, e0, e1]
    refine chk (by kernel_rfl) ?_
    refine wq_loop_at (fun k τ => ∃ (j : Nat) (c : CV) (out : List Int), j ≤ x.T.Rows.length ∧ k = x.T.Rows.length - j ∧ Holds1 c out ∧ KeptL ([x.Root, x.At] ++ rowsA x j) out ∧ τ = slots 62 [(1, .c .box (x.pv.map argC')), (3, .c .one [c]), (4, .c .one [.sh false (.i .i64 (j : Nat))])]) x.T.Rows.length (by omega) ?_ ?_
    · simp only [go_sem, Nat.reduceLT, Nat.reduceAdd, Nat.reduceSub, Nat.reduceEqDiff, Nat.reduceLeDiff, Int.reduceEq, Int.reduceBEq, Int.reduceBNe, Int.reduceNeg, UInt8.reduceToNat, Nat.reduceBEq]
      first | exact ⟨0, _, r1, Nat.zero_le _, rfl, .inl rfl, by simpa [rowsA] using hK1, rfl⟩ | exact ⟨0, _, r1, Nat.zero_le _, rfl, .inr rfl, by simpa [rowsA] using hK1, rfl⟩
    · rintro k τ ⟨j, c, out, hj, rfl, hc, hK, rfl⟩
      have hle := hK.len
      have hra : (rowsA x j).length ≤ j := by unfold rowsA; simp; omega
      simp only [List.length_append, List.length_cons, List.length_nil] at hle
      by_cases hlt : j < x.T.Rows.length
      · have h1 : ((j : Int) < (x.T.Rows.length : Int)) := by omega
        have hy : x.T.Rows[j]? = some x.T.Rows[j] := List.getElem?_eq_getElem hlt
        generalize x.T.Rows[j] = y at hy
        obtain ⟨c', r', hc', hp', e'⟩ := hput out (by omega) y.Map
        have hK' : KeptL ([x.Root, x.At] ++ rowsA x (j + 1)) r' := by rw [rowsA_succ hy, ← List.append_assoc]; exact hK.put hp'
        rcases hc with rfl | rfl <;> rcases hc' with rfl | rfl
        all_goals
          simp only [go_sem, Nat.reduceLT, Nat.reduceAdd, Nat.reduceSub, Nat.reduceEqDiff, Nat.reduceLeDiff, Int.reduceEq, Int.reduceBEq, Int.reduceBNe, Int.reduceNeg, UInt8.reduceToNat, Nat.reduceBEq, h1, hy, e', wrap_succ hlt (by omega)]
          first | exact ⟨_, by omega, j + 1, _, r', hlt, rfl, .inl rfl, hK', rfl⟩ | exact ⟨_, by omega, j + 1, _, r', hlt, rfl, .inr rfl, hK', rfl⟩
      · have h1 : ¬ ((j : Int) < (x.T.Rows.length : Int)) := by omega
        obtain rfl : j = x.T.Rows.length := by omega
        simp only [go_sem, Nat.reduceLT, Nat.reduceAdd, Nat.reduceSub, Nat.reduceEqDiff, Nat.reduceLeDiff, Int.reduceEq, Int.reduceBEq, Int.reduceBNe, Int.reduceNeg, UInt8.reduceToNat, Nat.reduceBEq, h1]
        refine wq_loop_at (fun k τ => ∃ (j : Nat) (c : CV) (out : List Int), j ≤ x.Maps.length ∧ k = x.Maps.length - j ∧ Holds1 c out ∧ KeptL ([x.Root, x.At] ++ rowsA x x.T.Rows.length ++ mapsA x j) out ∧ τ = slots 62 [(1, .c .box (x.pv.map argC')), (3, .c .one [c]), (5, .c .one [.sh false (.i .i64 (j : Nat))])]) x.Maps.length (by omega) ?_ ?_
        · rcases hc with rfl | rfl
          all_goals
            simp only [go_sem, Nat.reduceLT, Nat.reduceAdd, Nat.reduceSub, Nat.reduceEqDiff, Nat.reduceLeDiff, Int.reduceEq, Int.reduceBEq, Int.reduceBNe, Int.reduceNeg, UInt8.reduceToNat, Nat.reduceBEq]
            first | exact ⟨0, _, out, Nat.zero_le _, rfl, .inl rfl, by simpa [mapsA] using hK, rfl⟩ | exact ⟨0, _, out, Nat.zero_le _, rfl, .inr rfl, by simpa [mapsA] using hK, rfl⟩
        · clear hK hc hle
          rintro k τ ⟨j, c, out, hj, rfl, hc, hK, rfl⟩
          have hle := hK.len
          have hmb := mapsA_bd hx hj
          simp only [List.length_append, List.length_cons, List.length_nil] at hle
          by_cases hlt : j < x.Maps.length
          · have h1 : ((j : Int) < (x.Maps.length : Int)) := by omega
            have hy : x.Maps[j]? = some x.Maps[j] := List.getElem?_eq_getElem hlt
            have hok := hx.Maps.1 _ (List.getElem_mem hlt)
            generalize x.Maps[j] = y at hy hok
            have hp := hok.Places.2
            have hM := mapsA_succ hy
            have init : KeptL ([x.Root, x.At] ++ rowsA x x.T.Rows.length ++ mapsA x j ++ (y.Places.take 0).map TPlace.Addr) out := by simpa using hK
            rcases hc with rfl | rfl
            all_goals
              simp only [go_sem, Nat.reduceLT, Nat.reduceAdd, Nat.reduceSub, Nat.reduceEqDiff, Nat.reduceLeDiff, Int.reduceEq, Int.reduceBEq, Int.reduceBNe, Int.reduceNeg, UInt8.reduceToNat, Nat.reduceBEq, h1, hy]
              refine wq_loop_at (fun k τ => ∃ (i : Nat) (c : CV) (out : List Int), i ≤ y.Places.length ∧ k = y.Places.length - i ∧ Holds1 c out ∧ KeptL ([x.Root, x.At] ++ rowsA x x.T.Rows.length ++ mapsA x j ++ (y.Places.take i).map TPlace.Addr) out ∧ τ = slots 62 [(1, .c .box (x.pv.map argC')), (3, .c .one [c]), (5, .c .one [.sh false (.i .i64 (j : Nat))]), (6, .c .one [.sh false (.i .i64 (i : Nat))])]) y.Places.length (by omega) ?_ ?_
              · simp only [go_sem, Nat.reduceLT, Nat.reduceAdd, Nat.reduceSub, Nat.reduceEqDiff, Nat.reduceLeDiff, Int.reduceEq, Int.reduceBEq, Int.reduceBNe, Int.reduceNeg, UInt8.reduceToNat, Nat.reduceBEq]
                first | exact ⟨0, _, out, Nat.zero_le _, rfl, .inl rfl, init, rfl⟩ | exact ⟨0, _, out, Nat.zero_le _, rfl, .inr rfl, init, rfl⟩
              · clear init hK hle
                rintro k τ ⟨i, c, out, hi, rfl, hc, hK, rfl⟩
                have hle := hK.len
                simp only [List.length_append, List.length_cons, List.length_nil, List.length_map, List.length_take] at hle
                by_cases hlt2 : i < y.Places.length
                · have h2 : ((i : Int) < (y.Places.length : Int)) := by omega
                  have hz : y.Places[i]? = some y.Places[i] := List.getElem?_eq_getElem hlt2
                  have htk := List.take_succ_eq_append_getElem hlt2
                  generalize y.Places[i] = z at hz htk
                  obtain ⟨c', r', hc', hp', e'⟩ := hput out (by omega) z.Addr
                  have hK' : KeptL ([x.Root, x.At] ++ rowsA x x.T.Rows.length ++ mapsA x j ++ (y.Places.take (i + 1)).map TPlace.Addr) r' := by
                    rw [htk, List.map_append, ← List.append_assoc]; exact hK.put hp'
                  rcases hc with rfl | rfl <;> rcases hc' with rfl | rfl
                  all_goals
                    simp only [go_sem, Nat.reduceLT, Nat.reduceAdd, Nat.reduceSub, Nat.reduceEqDiff, Nat.reduceLeDiff, Int.reduceEq, Int.reduceBEq, Int.reduceBNe, Int.reduceNeg, UInt8.reduceToNat, Nat.reduceBEq, h1, h2, hy, hz, e', wrap_succ hlt2 (by omega)]
                    first | exact ⟨_, by omega, i + 1, _, r', hlt2, rfl, .inl rfl, hK', rfl⟩ | exact ⟨_, by omega, i + 1, _, r', hlt2, rfl, .inr rfl, hK', rfl⟩
                · have h2 : ¬ ((i : Int) < (y.Places.length : Int)) := by omega
                  obtain rfl : i = y.Places.length := by omega
                  have hK' : KeptL ([x.Root, x.At] ++ rowsA x x.T.Rows.length ++ mapsA x (j + 1)) out := by
                    rw [hM, ← List.append_assoc]; rw [List.take_length] at hK; exact hK
                  rcases hc with rfl | rfl
                  all_goals
                    simp only [go_sem, Nat.reduceLT, Nat.reduceAdd, Nat.reduceSub, Nat.reduceEqDiff, Nat.reduceLeDiff, Int.reduceEq, Int.reduceBEq, Int.reduceBNe, Int.reduceNeg, UInt8.reduceToNat, Nat.reduceBEq, h1, h2, hy, wrap_succ hlt (by omega)]
                    first | exact ⟨_, by omega, j + 1, _, out, hlt, rfl, .inl rfl, hK', rfl⟩ | exact ⟨_, by omega, j + 1, _, out, hlt, rfl, .inr rfl, hK', rfl⟩
          · have h1 : ¬ ((j : Int) < (x.Maps.length : Int)) := by omega
            obtain rfl : j = x.Maps.length := by omega
            rcases hc with rfl | rfl
            all_goals
              simp only [go_sem, Nat.reduceLT, Nat.reduceAdd, Nat.reduceSub, Nat.reduceEqDiff, Nat.reduceLeDiff, Int.reduceEq, Int.reduceBEq, Int.reduceBNe, Int.reduceNeg, UInt8.reduceToNat, Nat.reduceBEq, h1]
              first | exact ⟨_, out, .inl rfl, hK, rfl⟩ | exact ⟨_, out, .inr rfl, hK, rfl⟩
end Go.Proofs.YtblelojdboefjaaGreat.R
