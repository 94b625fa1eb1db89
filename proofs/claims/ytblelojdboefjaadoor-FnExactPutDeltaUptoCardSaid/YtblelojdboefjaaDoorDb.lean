/- Texts and attributes put behind bytes. -/
import Derived.Test.YtblelojdboefjaaDoorDa
import Derived.Test.YtblelojdboefjaaDoorYg
set_option maxRecDepth 100000
set_option linter.unusedVariables false
set_option linter.unusedSimpArgs false
namespace Go.Proofs.YtblelojdboefjaaDoor.R
open Go

/-- A text behind bytes, an attribute, some. -/
def putT (b : List UInt8) (s : ByteArray) : List UInt8 := putN b s.size ++ s.data.toList
def putA (b : List UInt8) (a : TAttr) : List UInt8 := putT (putT b a.Name) a.Val
def putAs (b : List UInt8) (l : List TAttr) : List UInt8 := l.foldl putA (putN b l.length)
theorem putT_len (b : List UInt8) {s : ByteArray} (h : okS s) : (putT b s).length ≤ b.length + 1048579 := by
  unfold putT
  have h2 := putN_len b s.size
  have h3 : s.size ≤ 1048576 := h
  have h4 : s.data.toList.length = s.size := rfl
  rw [List.length_append]; omega
theorem putA_len (b : List UInt8) {a : TAttr} (h : a.ok) : (putA b a).length ≤ b.length + 2097158 := by
  unfold putA
  have h1 := putT_len b h.Name
  have h2 := putT_len (putT b a.Name) h.Val
  omega
theorem foldl_len {α : Type} (f : List UInt8 → α → List UInt8) (c : Nat) : ∀ (l : List α) (b : List UInt8), (∀ b, ∀ a ∈ l, (f b a).length ≤ b.length + c) → (l.foldl f b).length ≤ b.length + l.length * c
  | [], b, _ => by simp
  | x :: l, b, h => by
    have h1 := foldl_len f c l (f b x) fun b a ha => h b a (List.mem_cons_of_mem _ ha)
    have h2 := h b x List.mem_cons_self
    rw [List.foldl_cons, List.length_cons, Nat.succ_mul]
    omega
theorem foldl_take {α β : Type} (f : β → α → β) (b : β) {l : List α} {j : Nat} {x : α} (h : l[j]? = some x) : (l.take (j + 1)).foldl f b = f ((l.take j).foldl f b) x := by
  obtain ⟨hj, e⟩ := List.getElem?_eq_some_iff.1 h
  rw [List.take_succ_eq_append_getElem hj, e, List.foldl_append]; rfl
theorem putAs_len (b : List UInt8) {l : List TAttr} (h : ∀ a ∈ l, a.ok) {c : Nat} (hl : l.length ≤ c) : (putAs b l).length ≤ b.length + 3 + c * 2097158 := by
  unfold putAs
  have h1 := foldl_len putA 2097158 l (putN b l.length) fun b a ha => putA_len b (h a ha)
  have h2 := putN_len b l.length
  have h3 : l.length * 2097158 ≤ c * 2097158 := Nat.mul_le_mul_right _ hl
  omega
theorem putTextI_ok (n : Nat) (hn : Big + 3 ≤ n) (b : List UInt8) (hb : b.length ≤ 1099511627776) (s : ByteArray) (hs : okS s) : pcall env n 32 [.c .one [.sh true (.s 1 ((b).map bpv))], .c .one [.sh false (.t (s))]] [] = some ⟨.c .one [.ow false 1 ((putT b s).map bpv)], []⟩ := by
  refine walk (fn := Tryd.f32) (d := 2) hn rfl rfl rfl (Nat.le_of_ble_eq_true rfl) fun m hd => ?_
  unfold Tryd.f32
  have hlim : LIM = 70368744177664 := rfl
  have hc := putNumI_ok m (hd (by decide)) b (by omega) s.size
  have hl := putN_len b s.size
  have h3 : s.size ≤ 1048576 := hs
  have g0 : (rowsOf s).length = s.size := List.length_map ..
  have g1 : (putN b s.size).length + (rowsOf s).length ≤ LIM := by omega
  have e1 : (putN b s.size).map bpv ++ rowsOf s = (putT b s).map bpv := by unfold putT; rw [List.map_append]; rfl
  simp only [go_sem, Nat.reduceLT, Nat.reduceAdd, Nat.reduceSub, Nat.reduceEqDiff, Nat.reduceLeDiff, Int.reduceEq, Int.reduceBEq, Int.reduceBNe, Int.reduceNeg, UInt8.reduceToNat, Nat.reduceBEq, hc, g1, e1]
theorem putTextS_ok (n : Nat) (hn : Big + 2 ≤ n) (b : List UInt8) (hb : b.length ≤ 1099511627776) (s : ByteArray) (hs : okS s) : pcall env n 24 [.c .one [.sh true (.s 1 ((b).map bpv))], .c .one [.sh false (.t (s))]] [] = some ⟨.c .one [.ow false 1 ((putT b s).map bpv)], []⟩ := by
  refine walk (fn := Tryd.f24) (d := 1) hn rfl rfl rfl (Nat.le_of_ble_eq_true rfl) fun m hd => ?_
  unfold Tryd.f24
  have hlim : LIM = 70368744177664 := rfl
  have hc := putNumS_ok m (hd (by decide)) b (by omega) s.size
  have hl := putN_len b s.size
  have h3 : s.size ≤ 1048576 := hs
  have g0 : (rowsOf s).length = s.size := List.length_map ..
  have g1 : (putN b s.size).length + (rowsOf s).length ≤ LIM := by omega
  have e1 : (putN b s.size).map bpv ++ rowsOf s = (putT b s).map bpv := by unfold putT; rw [List.map_append]; rfl
  simp only [go_sem, Nat.reduceLT, Nat.reduceAdd, Nat.reduceSub, Nat.reduceEqDiff, Nat.reduceLeDiff, Int.reduceEq, Int.reduceBEq, Int.reduceBNe, Int.reduceNeg, UInt8.reduceToNat, Nat.reduceBEq, hc, g1, e1]
set_option maxHeartbeats 1000000 in
theorem putAttrsI_ok (n : Nat) (hn : Big + 4 ≤ n) (b : List UInt8) (hb : b.length ≤ 549755813888) (l : List TAttr) (ho : ∀ a ∈ l, a.ok) (hl : l.length ≤ 4) : pcall env n 30 [.c .one [.sh true (.s 1 ((b).map bpv))], .c .one [.sh true (.s 2 (l.map TAttr.pv))]] [] = some ⟨.c .one [.ow false 1 ((putAs b l).map bpv)], []⟩ := by
  refine walk (fn := Tryd.f30) (d := 3) hn rfl rfl rfl (Nat.le_of_ble_eq_true rfl) fun m hd => ?_
  unfold Tryd.f30
  have hc := putNumI_ok m (hd (by decide)) b (by omega) l.length
  have ht := fun b hb s hs => putTextI_ok m (hd (by decide)) b hb s hs
  have hpl := putN_len b l.length
  simp only [go_sem, Nat.reduceLT, Nat.reduceAdd, Nat.reduceSub, Nat.reduceEqDiff, Nat.reduceLeDiff, Int.reduceEq, Int.reduceBEq, Int.reduceBNe, Int.reduceNeg, UInt8.reduceToNat, Nat.reduceBEq, hc]
  refine wq_each l (fun j => slots 26 [(0, .c .one [.ow false 1 (((l.take j).foldl putA (putN b l.length)).map bpv)]), (11, .c .one [.sh true (.s 2 (l.map TAttr.pv))]), (12, .c .one [.sh false (.i .i64 ((l.length : Nat)))]), (13, .c .one [.sh false (.i .i64 (j : Nat))])]) (fun _ => True) (hd (Nat.zero_le _)) (by omega) ?_ (fun j x hx hm hj h1 hw _ => ?_) (fun _ => ?_)
  · simp only [go_sem, Nat.reduceLT, Nat.reduceAdd, Nat.reduceSub, Nat.reduceEqDiff, Nat.reduceLeDiff, Int.reduceEq, Int.reduceBEq, Int.reduceBNe, Int.reduceNeg, UInt8.reduceToNat, Nat.reduceBEq]; exact fin' rfl
  · have hk := foldl_len putA 2097158 (l.take j) (putN b l.length) fun b a ha => putA_len b (ho a (List.mem_of_mem_take ha))
    have ht2 : (l.take j).length ≤ 4 := by rw [List.length_take]; omega
    have e := foldl_take putA (putN b l.length) hx
    rw [e]
    generalize (l.take j).foldl putA (putN b l.length) = B at hk ⊢
    have h3 : B.length ≤ b.length + 3 + 4 * 2097158 := Nat.le_trans hk (by have : (l.take j).length * 2097158 ≤ 4 * 2097158 := Nat.mul_le_mul_right _ ht2; omega)
    have ok := ho x hm
    have t1 := ht B (by omega) x.Name ok.Name
    have h4 := putT_len B ok.Name
    have t2 := ht (putT B x.Name) (by omega) x.Val ok.Val
    simp only [go_sem, Nat.reduceLT, Nat.reduceAdd, Nat.reduceSub, Nat.reduceEqDiff, Nat.reduceLeDiff, Int.reduceEq, Int.reduceBEq, Int.reduceBNe, Int.reduceNeg, UInt8.reduceToNat, Nat.reduceBEq, h1, hx, t1, t2, hw]
    exact chk (by kernel_rfl) (fin' rfl)
  · rw [List.take_length]
    simp only [go_sem, Nat.reduceLT, Nat.reduceAdd, Nat.reduceSub, Nat.reduceEqDiff, Nat.reduceLeDiff, Int.reduceEq, Int.reduceBEq, Int.reduceBNe, Int.reduceNeg, UInt8.reduceToNat, Nat.reduceBEq]
    rfl
set_option maxHeartbeats 1000000 in
theorem putAttrsS_ok (n : Nat) (hn : Big + 3 ≤ n) (b : List UInt8) (hb : b.length ≤ 549755813888) (l : List TAttr) (ho : ∀ a ∈ l, a.ok) (hl : l.length ≤ 4) : pcall env n 23 [.c .one [.sh true (.s 1 ((b).map bpv))], .c .one [.sh true (.s 2 (l.map TAttr.pv))]] [] = some ⟨.c .one [.ow false 1 ((putAs b l).map bpv)], []⟩ := by
  refine walk (fn := Tryd.f23) (d := 2) hn rfl rfl rfl (Nat.le_of_ble_eq_true rfl) fun m hd => ?_
  unfold Tryd.f23
  have hc := putNumS_ok m (hd (by decide)) b (by omega) l.length
  have ht := fun b hb s hs => putTextS_ok m (hd (by decide)) b hb s hs
  have hpl := putN_len b l.length
  simp only [go_sem, Nat.reduceLT, Nat.reduceAdd, Nat.reduceSub, Nat.reduceEqDiff, Nat.reduceLeDiff, Int.reduceEq, Int.reduceBEq, Int.reduceBNe, Int.reduceNeg, UInt8.reduceToNat, Nat.reduceBEq, hc]
  refine wq_each l (fun j => slots 30 [(0, .c .one [.ow false 1 (((l.take j).foldl putA (putN b l.length)).map bpv)]), (1, .c .one [.sh true (.s 2 (l.map TAttr.pv))]), (5, .c .one [.sh false (.i .i64 (j : Nat))])]) (fun _ => True) (hd (Nat.zero_le _)) (by omega) ?_ (fun j x hx hm hj h1 hw _ => ?_) (fun _ => ?_)
  · simp only [go_sem, Nat.reduceLT, Nat.reduceAdd, Nat.reduceSub, Nat.reduceEqDiff, Nat.reduceLeDiff, Int.reduceEq, Int.reduceBEq, Int.reduceBNe, Int.reduceNeg, UInt8.reduceToNat, Nat.reduceBEq]; exact fin' rfl
  · have hk := foldl_len putA 2097158 (l.take j) (putN b l.length) fun b a ha => putA_len b (ho a (List.mem_of_mem_take ha))
    have ht2 : (l.take j).length ≤ 4 := by rw [List.length_take]; omega
    have e := foldl_take putA (putN b l.length) hx
    rw [e]
    generalize (l.take j).foldl putA (putN b l.length) = B at hk ⊢
    have h3 : B.length ≤ b.length + 3 + 4 * 2097158 := Nat.le_trans hk (by have : (l.take j).length * 2097158 ≤ 4 * 2097158 := Nat.mul_le_mul_right _ ht2; omega)
    have ok := ho x hm
    have t1 := ht B (by omega) x.Name ok.Name
    have h4 := putT_len B ok.Name
    have t2 := ht (putT B x.Name) (by omega) x.Val ok.Val
    simp only [go_sem, Nat.reduceLT, Nat.reduceAdd, Nat.reduceSub, Nat.reduceEqDiff, Nat.reduceLeDiff, Int.reduceEq, Int.reduceBEq, Int.reduceBNe, Int.reduceNeg, UInt8.reduceToNat, Nat.reduceBEq, h1, hx, t1, t2, hw]
    exact chk (by kernel_rfl) (fin' rfl)
  · rw [List.take_length]
    simp only [go_sem, Nat.reduceLT, Nat.reduceAdd, Nat.reduceSub, Nat.reduceEqDiff, Nat.reduceLeDiff, Int.reduceEq, Int.reduceBEq, Int.reduceBNe, Int.reduceNeg, UInt8.reduceToNat, Nat.reduceBEq]
    rfl
end Go.Proofs.YtblelojdboefjaaDoor.R
