/- A difference put into bytes. -/
import Derived.Test.YtblelojdboefjaaDoorDb
import Derived.Test.YtblelojdboefjaaDoorCk
set_option maxRecDepth 100000
set_option linter.unusedVariables false
set_option linter.unusedSimpArgs false
namespace Go.Proofs.YtblelojdboefjaaDoor.R
open Go

/-- An entry behind bytes, a difference. -/
def putE (b : List UInt8) (e : TEntry) : List UInt8 := putT (putAs (putT (putN (putT b e.Path) e.Kind) ⟨⟨e.Data⟩⟩) e.Attrs) e.First
def putG (d : TDelta) : List UInt8 := d.Gone.foldl putT (putN (putAs (putN [] 7) d.Attrs) d.Gone.length)
def putX (d : TDelta) : List UInt8 := d.Fresh.foldl putE (putN (putG d) d.Fresh.length)
def putD (d : TDelta) : List UInt8 := if deltaB d = true then (if (putX d ++ be4 (crcN (putX d))).length > 20000 then [] else putX d ++ be4 (crcN (putX d))) else []
theorem attrsB_4 {l : List TAttr} (h : attrsB l = true) : l.length ≤ 4 := by
  unfold attrsB at h
  simp only [Bool.and_eq_true, decide_eq_true_eq] at h
  omega
theorem allB_at {n : Nat} {f : Nat → Bool} (h : allB n f = true) {j : Nat} (hj : j < n) : f j = true := by
  cases e : f j with
  | true => rfl
  | false => rw [allB_bad hj e] at h; exact absurd h (by decide)
theorem deltaB_s {d : TDelta} (h : deltaB d = true) : d.Attrs.length ≤ 4 ∧ d.Gone.length ≤ 200 ∧ d.Fresh.length ≤ 200 ∧ ∀ e ∈ d.Fresh, e.Attrs.length ≤ 4 := by
  unfold deltaB at h
  simp only [Bool.and_eq_true, Bool.not_eq_true', decide_eq_false_iff_not] at h
  obtain ⟨⟨⟨⟨⟨h1, h2⟩, h3⟩, h4⟩, h5⟩, h6⟩ := h
  refine ⟨attrsB_4 h1, by omega, by omega, fun e he => ?_⟩
  obtain ⟨j, hj, rfl⟩ := List.getElem_of_mem he
  have := allB_at h5 hj
  rw [freshAt_s (List.getElem?_eq_getElem hj)] at this
  unfold entryB at this
  simp only [Bool.and_eq_true] at this
  exact attrsB_4 this.1.1.1.2
theorem putE_len (b : List UInt8) {e : TEntry} (h : e.ok) (h4 : e.Attrs.length ≤ 4) : (putE b e).length ≤ b.length + 12000000 := by
  unfold putE
  have h1 := putT_len b h.Path
  have h2 := putN_len (putT b e.Path) e.Kind
  have h3 := putT_len (putN (putT b e.Path) e.Kind) (s := ⟨⟨e.Data⟩⟩) h.Data.2
  have h5 := putAs_len (putT (putN (putT b e.Path) e.Kind) ⟨⟨e.Data⟩⟩) h.Attrs.1 h4
  have h6 := putT_len (putAs (putT (putN (putT b e.Path) e.Kind) ⟨⟨e.Data⟩⟩) e.Attrs) h.First
  omega
theorem foldl_le {α : Type} (f : List UInt8 → α → List UInt8) {c k B : Nat} {l : List α} {b : List UInt8} (h : ∀ b, ∀ a ∈ l, (f b a).length ≤ b.length + c) (hl : l.length ≤ k) (hb : b.length ≤ B) : ∀ j, ((l.take j).foldl f b).length ≤ B + k * c := fun j => by
  have h1 := foldl_len f c (l.take j) b fun b a ha => h b a (List.mem_of_mem_take ha)
  have h2 : (l.take j).length * c ≤ k * c := Nat.mul_le_mul_right _ (by rw [List.length_take]; omega)
  omega
set_option maxHeartbeats 2000000 in
theorem putDeltaI_ok (n : Nat) (hn : Big + 11 ≤ n) (d : TDelta) (ho : d.ok) : pcall env n 8 [.c .agg (d.pv.map argC')] [] = some ⟨.c .one [.ow false 1 ((putD d).map bpv)], []⟩ := by
  refine walk (fn := Tryd.f8) (d := 10) hn rfl rfl rfl (Nat.le_of_ble_eq_true rfl) fun m hd => ?_
  unfold Tryd.f8
  have hdel := deltaImpl_ok m (hd (by decide)) d ho
  simp only [go_sem] at hdel
  cases hb : deltaB d with
  | false =>
    have hG : putD d = [] := by unfold putD; rw [if_neg (by rw [hb]; decide)]
    rw [hG]
    simp only [go_sem, Nat.reduceLT, Nat.reduceAdd, Nat.reduceSub, Nat.reduceEqDiff, Nat.reduceLeDiff, Int.reduceEq, Int.reduceBEq, Int.reduceBNe, Int.reduceNeg, UInt8.reduceToNat, Nat.reduceBEq, hdel, hb]
  | true =>
    obtain ⟨hA, hGo, hF, hFA⟩ := deltaB_s hb
    have hn0 := putNumI_ok m (hd (by decide)) [] (by decide) 7
    have hl0 := putN_len [] 7
    have ha0 := putAttrsI_ok m (hd (by decide)) (putN [] 7) (by rw [List.length_nil] at hl0; omega) d.Attrs ho.Attrs.1 hA
    have hl1 := putAs_len (putN [] 7) ho.Attrs.1 hA
    have hn1 := putNumI_ok m (hd (by decide)) (putAs (putN [] 7) d.Attrs) (by rw [List.length_nil] at hl0; omega) d.Gone.length
    have hl2 := putN_len (putAs (putN [] 7) d.Attrs) d.Gone.length
    have hlG := foldl_le (c := 1048579) (k := 200) (l := d.Gone) (b := putN (putAs (putN [] 7) d.Attrs) d.Gone.length) (B := 10000000) putT (fun b a ha => putT_len b (ho.Gone.1 a ha)) hGo (by rw [List.length_nil] at hl0; omega)
    have ht := fun b hb s hs => putTextI_ok m (hd (by decide)) b hb s hs
    have hnn := fun b hb v => putNumI_ok m (hd (by decide)) b hb v
    have haa := fun b hb l ho hl => putAttrsI_ok m (hd (by decide)) b hb l ho hl
    rw [List.map_nil] at hn0
    simp only [go_sem, Nat.reduceLT, Nat.reduceAdd, Nat.reduceSub, Nat.reduceEqDiff, Nat.reduceLeDiff, Int.reduceEq, Int.reduceBEq, Int.reduceBNe, Int.reduceNeg, UInt8.reduceToNat, Nat.reduceBEq, hdel, hb, hn0, ha0, hn1]
    refine chk (by kernel_rfl) ?_
    have hBx : (putN (putAs (putN [] 7) d.Attrs) ↑d.Gone.length).length ≤ 10000000 := by rw [List.length_nil] at hl0; omega
    refine wq_each d.Gone (fun j => slots 68 [(1, .c .box (d.pv.map argC')), (3, .c .one [.ow false 1 (((d.Gone.take j).foldl putT (putN (putAs (putN [] 7) d.Attrs) d.Gone.length)).map bpv)]), (21, .c .one [.sh true (.s 1 (d.Gone.map spv))]), (22, .c .one [.sh false (.i .i64 ((d.Gone.length : Nat)))]), (23, .c .one [.sh false (.i .i64 (j : Nat))])]) (fun _ => True) (hd (Nat.zero_le _)) (by omega) ?_ (fun j x hx hm hj h1 hw _ => ?_) (fun _ => ?_)
    · simp only [go_sem, Nat.reduceLT, Nat.reduceAdd, Nat.reduceSub, Nat.reduceEqDiff, Nat.reduceLeDiff, Int.reduceEq, Int.reduceBEq, Int.reduceBNe, Int.reduceNeg, UInt8.reduceToNat, Nat.reduceBEq]; exact fin' rfl
    · have hk := hlG j
      have e := foldl_take putT (putN (putAs (putN [] 7) d.Attrs) d.Gone.length) hx
      rw [e]
      generalize (d.Gone.take j).foldl putT (putN (putAs (putN [] 7) d.Attrs) d.Gone.length) = B at hk ⊢
      have t1 := ht B (by omega) x (ho.Gone.1 x hm)
      simp only [go_sem, Nat.reduceLT, Nat.reduceAdd, Nat.reduceSub, Nat.reduceEqDiff, Nat.reduceLeDiff, Int.reduceEq, Int.reduceBEq, Int.reduceBNe, Int.reduceNeg, UInt8.reduceToNat, Nat.reduceBEq, h1, hx, t1, hw]
      exact fin' rfl
    · rw [List.take_length]
      have hk := hlG d.Gone.length
      rw [List.take_length] at hk
      have e0 : d.Gone.foldl putT (putN (putAs (putN [] 7) d.Attrs) d.Gone.length) = putG d := rfl
      rw [e0] at hk
      have hn2 := hnn (putG d) (by omega) d.Fresh.length
      have hl3 := putN_len (putG d) d.Fresh.length
      have hlF := foldl_le (c := 12000000) (k := 200) (l := d.Fresh) (b := putN (putG d) d.Fresh.length) (B := 300000000) putE (fun b a ha => putE_len b (ho.Fresh.1 a ha) (hFA a ha)) hF (by omega)
      simp only [go_sem, Nat.reduceLT, Nat.reduceAdd, Nat.reduceSub, Nat.reduceEqDiff, Nat.reduceLeDiff, Int.reduceEq, Int.reduceBEq, Int.reduceBNe, Int.reduceNeg, UInt8.reduceToNat, Nat.reduceBEq, e0, hn2]
      refine wq_each d.Fresh (fun j => slots 68 [(1, .c .box (d.pv.map argC')), (3, .c .one [.ow false 1 (((d.Fresh.take j).foldl putE (putN (putG d) d.Fresh.length)).map bpv)]), (37, .c .one [.sh true (.s 5 (d.Fresh.map TEntry.pv))]), (38, .c .one [.sh false (.i .i64 ((d.Fresh.length : Nat)))]), (39, .c .one [.sh false (.i .i64 (j : Nat))])]) (fun _ => True) (hd (Nat.zero_le _)) (by omega) ?_ (fun j x hx hm hj h1 hw _ => ?_) (fun _ => ?_)
      · simp only [go_sem, Nat.reduceLT, Nat.reduceAdd, Nat.reduceSub, Nat.reduceEqDiff, Nat.reduceLeDiff, Int.reduceEq, Int.reduceBEq, Int.reduceBNe, Int.reduceNeg, UInt8.reduceToNat, Nat.reduceBEq]; exact fin' rfl
      · have hk := hlF j
        have e := foldl_take putE (putN (putG d) d.Fresh.length) hx
        rw [e]
        generalize (d.Fresh.take j).foldl putE (putN (putG d) d.Fresh.length) = B at hk ⊢
        have ok := ho.Fresh.1 x hm
        have l1 := putT_len B ok.Path
        have l2 := putN_len (putT B x.Path) x.Kind
        have l3 := putT_len (putN (putT B x.Path) x.Kind) (s := ⟨⟨x.Data⟩⟩) ok.Data.2
        have l4 := putAs_len (putT (putN (putT B x.Path) x.Kind) ⟨⟨x.Data⟩⟩) ok.Attrs.1 (hFA x hm)
        have t1 := ht B (by omega) x.Path ok.Path
        have t2 := hnn (putT B x.Path) (by omega) x.Kind
        have t3 := ht (putN (putT B x.Path) x.Kind) (by omega) ⟨⟨x.Data⟩⟩ ok.Data.2
        have t4 := haa (putT (putN (putT B x.Path) x.Kind) ⟨⟨x.Data⟩⟩) (by omega) x.Attrs ok.Attrs.1 (hFA x hm)
        have t5 := ht (putAs (putT (putN (putT B x.Path) x.Kind) ⟨⟨x.Data⟩⟩) x.Attrs) (by omega) x.First ok.First
        simp only [go_sem, Nat.reduceLT, Nat.reduceAdd, Nat.reduceSub, Nat.reduceEqDiff, Nat.reduceLeDiff, Int.reduceEq, Int.reduceBEq, Int.reduceBNe, Int.reduceNeg, UInt8.reduceToNat, Nat.reduceBEq, h1, hx, t1, t2, t3, t4, t5, hw, bytes_map]
        exact chk (by kernel_rfl) (chk (by kernel_rfl) (fin' rfl))
      · rw [List.take_length]
        have hk := hlF d.Fresh.length
        rw [List.take_length] at hk
        have e0 : d.Fresh.foldl putE (putN (putG d) d.Fresh.length) = putX d := rfl
        rw [e0] at hk ⊢
        have hs := sealed_ok m (hd (by decide)) (putX d) (by omega)
        have hlen : (putX d ++ be4 (crcN (putX d))).length ≤ 3000000000 := by rw [List.length_append]; have : (be4 (crcN (putX d))).length = 4 := rfl; omega
        unfold putD
        rw [if_pos hb]
        generalize putX d ++ be4 (crcN (putX d)) = Z at hs hlen ⊢
        by_cases h2 : Z.length > 20000
        · have h2' : ((Z.length : Int) > 20000) = True := by simp only [eq_iff_iff, iff_true]; omega
          rw [if_pos h2]
          simp only [go_sem, Nat.reduceLT, Nat.reduceAdd, Nat.reduceSub, Nat.reduceEqDiff, Nat.reduceLeDiff, Int.reduceEq, Int.reduceBEq, Int.reduceBNe, Int.reduceNeg, UInt8.reduceToNat, Nat.reduceBEq, hs, h2']
        · have h2' : ((Z.length : Int) > 20000) = False := by simp only [eq_iff_iff, iff_false]; omega
          rw [if_neg h2]
          simp only [go_sem, Nat.reduceLT, Nat.reduceAdd, Nat.reduceSub, Nat.reduceEqDiff, Nat.reduceLeDiff, Int.reduceEq, Int.reduceBEq, Int.reduceBNe, Int.reduceNeg, UInt8.reduceToNat, Nat.reduceBEq, hs, h2']
set_option maxHeartbeats 2000000 in
theorem putDeltaS_ok (n : Nat) (hn : Big + 11 ≤ n) (d : TDelta) (ho : d.ok) : pcall env n 6 [.c .agg (d.pv.map argC')] [] = some ⟨.c .one [.ow false 1 ((putD d).map bpv)], []⟩ := by
  refine walk (fn := Tryd.f6) (d := 10) hn rfl rfl rfl (Nat.le_of_ble_eq_true rfl) fun m hd => ?_
  unfold Tryd.f6
  have hdel := deltaSpec_ok m (hd (by decide)) d ho
  simp only [go_sem] at hdel
  cases hb : deltaB d with
  | false =>
    have hG : putD d = [] := by unfold putD; rw [if_neg (by rw [hb]; decide)]
    rw [hG]
    simp only [go_sem, Nat.reduceLT, Nat.reduceAdd, Nat.reduceSub, Nat.reduceEqDiff, Nat.reduceLeDiff, Int.reduceEq, Int.reduceBEq, Int.reduceBNe, Int.reduceNeg, UInt8.reduceToNat, Nat.reduceBEq, hdel, hb]
  | true =>
    obtain ⟨hA, hGo, hF, hFA⟩ := deltaB_s hb
    have hn0 := putNumS_ok m (hd (by decide)) [] (by decide) 7
    have hl0 := putN_len [] 7
    have ha0 := putAttrsS_ok m (hd (by decide)) (putN [] 7) (by rw [List.length_nil] at hl0; omega) d.Attrs ho.Attrs.1 hA
    have hl1 := putAs_len (putN [] 7) ho.Attrs.1 hA
    have hn1 := putNumS_ok m (hd (by decide)) (putAs (putN [] 7) d.Attrs) (by rw [List.length_nil] at hl0; omega) d.Gone.length
    have hl2 := putN_len (putAs (putN [] 7) d.Attrs) d.Gone.length
    have hlG := foldl_le (c := 1048579) (k := 200) (l := d.Gone) (b := putN (putAs (putN [] 7) d.Attrs) d.Gone.length) (B := 10000000) putT (fun b a ha => putT_len b (ho.Gone.1 a ha)) hGo (by rw [List.length_nil] at hl0; omega)
    have ht := fun b hb s hs => putTextS_ok m (hd (by decide)) b hb s hs
    have hnn := fun b hb v => putNumS_ok m (hd (by decide)) b hb v
    have haa := fun b hb l ho hl => putAttrsS_ok m (hd (by decide)) b hb l ho hl
    rw [List.map_nil] at hn0
    simp only [go_sem, Nat.reduceLT, Nat.reduceAdd, Nat.reduceSub, Nat.reduceEqDiff, Nat.reduceLeDiff, Int.reduceEq, Int.reduceBEq, Int.reduceBNe, Int.reduceNeg, UInt8.reduceToNat, Nat.reduceBEq, hdel, hb, hn0, ha0, hn1]
    refine chk (by kernel_rfl) ?_
    have hBx : (putN (putAs (putN [] 7) d.Attrs) ↑d.Gone.length).length ≤ 10000000 := by rw [List.length_nil] at hl0; omega
    refine wq_each d.Gone (fun j => slots 91 [(1, .c .box (d.pv.map argC')), (3, .c .one [.ow false 1 (((d.Gone.take j).foldl putT (putN (putAs (putN [] 7) d.Attrs) d.Gone.length)).map bpv)]), (4, .c .one [.sh false (.i .i64 (j : Nat))])]) (fun _ => True) (hd (Nat.zero_le _)) (by omega) ?_ (fun j x hx hm hj h1 hw _ => ?_) (fun _ => ?_)
    · simp only [go_sem, Nat.reduceLT, Nat.reduceAdd, Nat.reduceSub, Nat.reduceEqDiff, Nat.reduceLeDiff, Int.reduceEq, Int.reduceBEq, Int.reduceBNe, Int.reduceNeg, UInt8.reduceToNat, Nat.reduceBEq]; exact fin' rfl
    · have hk := hlG j
      have e := foldl_take putT (putN (putAs (putN [] 7) d.Attrs) d.Gone.length) hx
      rw [e]
      generalize (d.Gone.take j).foldl putT (putN (putAs (putN [] 7) d.Attrs) d.Gone.length) = B at hk ⊢
      have t1 := ht B (by omega) x (ho.Gone.1 x hm)
      simp only [go_sem, Nat.reduceLT, Nat.reduceAdd, Nat.reduceSub, Nat.reduceEqDiff, Nat.reduceLeDiff, Int.reduceEq, Int.reduceBEq, Int.reduceBNe, Int.reduceNeg, UInt8.reduceToNat, Nat.reduceBEq, h1, hx, t1, hw]
      exact fin' rfl
    · rw [List.take_length]
      have hk := hlG d.Gone.length
      rw [List.take_length] at hk
      have e0 : d.Gone.foldl putT (putN (putAs (putN [] 7) d.Attrs) d.Gone.length) = putG d := rfl
      rw [e0] at hk
      have hn2 := hnn (putG d) (by omega) d.Fresh.length
      have hl3 := putN_len (putG d) d.Fresh.length
      have hlF := foldl_le (c := 12000000) (k := 200) (l := d.Fresh) (b := putN (putG d) d.Fresh.length) (B := 300000000) putE (fun b a ha => putE_len b (ho.Fresh.1 a ha) (hFA a ha)) hF (by omega)
      simp only [go_sem, Nat.reduceLT, Nat.reduceAdd, Nat.reduceSub, Nat.reduceEqDiff, Nat.reduceLeDiff, Int.reduceEq, Int.reduceBEq, Int.reduceBNe, Int.reduceNeg, UInt8.reduceToNat, Nat.reduceBEq, e0, hn2]
      refine wq_each d.Fresh (fun j => slots 91 [(1, .c .box (d.pv.map argC')), (3, .c .one [.ow false 1 (((d.Fresh.take j).foldl putE (putN (putG d) d.Fresh.length)).map bpv)]), (5, .c .one [.sh false (.i .i64 (j : Nat))])]) (fun _ => True) (hd (Nat.zero_le _)) (by omega) ?_ (fun j x hx hm hj h1 hw _ => ?_) (fun _ => ?_)
      · simp only [go_sem, Nat.reduceLT, Nat.reduceAdd, Nat.reduceSub, Nat.reduceEqDiff, Nat.reduceLeDiff, Int.reduceEq, Int.reduceBEq, Int.reduceBNe, Int.reduceNeg, UInt8.reduceToNat, Nat.reduceBEq]; exact fin' rfl
      · have hk := hlF j
        have e := foldl_take putE (putN (putG d) d.Fresh.length) hx
        rw [e]
        generalize (d.Fresh.take j).foldl putE (putN (putG d) d.Fresh.length) = B at hk ⊢
        have ok := ho.Fresh.1 x hm
        have l1 := putT_len B ok.Path
        have l2 := putN_len (putT B x.Path) x.Kind
        have l3 := putT_len (putN (putT B x.Path) x.Kind) (s := ⟨⟨x.Data⟩⟩) ok.Data.2
        have l4 := putAs_len (putT (putN (putT B x.Path) x.Kind) ⟨⟨x.Data⟩⟩) ok.Attrs.1 (hFA x hm)
        have t1 := ht B (by omega) x.Path ok.Path
        have t2 := hnn (putT B x.Path) (by omega) x.Kind
        have t3 := ht (putN (putT B x.Path) x.Kind) (by omega) ⟨⟨x.Data⟩⟩ ok.Data.2
        have t4 := haa (putT (putN (putT B x.Path) x.Kind) ⟨⟨x.Data⟩⟩) (by omega) x.Attrs ok.Attrs.1 (hFA x hm)
        have t5 := ht (putAs (putT (putN (putT B x.Path) x.Kind) ⟨⟨x.Data⟩⟩) x.Attrs) (by omega) x.First ok.First
        simp only [go_sem, Nat.reduceLT, Nat.reduceAdd, Nat.reduceSub, Nat.reduceEqDiff, Nat.reduceLeDiff, Int.reduceEq, Int.reduceBEq, Int.reduceBNe, Int.reduceNeg, UInt8.reduceToNat, Nat.reduceBEq, h1, hx, t1, t2, t3, t4, t5, hw, bytes_map]
        exact chk (by kernel_rfl) (chk (by kernel_rfl) (fin' rfl))
      · rw [List.take_length]
        have hk := hlF d.Fresh.length
        rw [List.take_length] at hk
        have e0 : d.Fresh.foldl putE (putN (putG d) d.Fresh.length) = putX d := rfl
        rw [e0] at hk ⊢
        have hs := crcS_ok m (hd (by decide)) (putX d) (by omega)
        have hlt := crcN_lt (putX d)
        have e1 : shiftOp .shr .i64 (crcN (putX d) : Int) 24 = some (.i .i64 ((crcN (putX d) / 16777216 : Nat) : Int)) := shr64 (s := 24) (by decide) (by omega)
        have e2 : shiftOp .shr .i64 (crcN (putX d) : Int) 16 = some (.i .i64 ((crcN (putX d) / 65536 : Nat) : Int)) := shr64 (s := 16) (by decide) (by omega)
        have e3 : shiftOp .shr .i64 (crcN (putX d) : Int) 8 = some (.i .i64 ((crcN (putX d) / 256 : Nat) : Int)) := shr64 (s := 8) (by decide) (by omega)
        have hlen : (putX d ++ be4 (crcN (putX d))).length ≤ 3000000000 := by rw [List.length_append]; have : (be4 (crcN (putX d))).length = 4 := rfl; omega
        have hlim : LIM = 70368744177664 := rfl
        have g2 : (putX d).length + 4 ≤ LIM := by omega
        have e4 := be4_map (putX d) (crcN (putX d))
        unfold putD
        rw [if_pos hb]
        generalize crcN (putX d) = c at hs hlt e1 e2 e3 e4 hlen ⊢
        generalize putX d = X at hs g2 e4 hlen ⊢
        generalize hZ : X ++ be4 c = Z at e4 hlen ⊢
        by_cases h2 : Z.length > 20000
        · have h2' : ((Z.length : Int) > 20000) = True := by simp only [eq_iff_iff, iff_true]; omega
          rw [if_pos h2]
          simp only [go_sem, Nat.reduceLT, Nat.reduceAdd, Nat.reduceSub, Nat.reduceEqDiff, Nat.reduceLeDiff, Int.reduceEq, Int.reduceBEq, Int.reduceBNe, Int.reduceNeg, UInt8.reduceToNat, Nat.reduceBEq, hs, e1, e2, e3, u8w, e4, g2, h2']
        · have h2' : ((Z.length : Int) > 20000) = False := by simp only [eq_iff_iff, iff_false]; omega
          rw [if_neg h2]
          simp only [go_sem, Nat.reduceLT, Nat.reduceAdd, Nat.reduceSub, Nat.reduceEqDiff, Nat.reduceLeDiff, Int.reduceEq, Int.reduceBEq, Int.reduceBNe, Int.reduceNeg, UInt8.reduceToNat, Nat.reduceBEq, hs, e1, e2, e3, u8w, e4, g2, h2']
end Go.Proofs.YtblelojdboefjaaDoor.R
