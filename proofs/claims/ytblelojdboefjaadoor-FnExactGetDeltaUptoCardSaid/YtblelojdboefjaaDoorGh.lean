/- The law GetDelta walked. -/
import Derived.Test.YtblelojdboefjaaDoorGg
import Derived.Test.YtblelojdboefjaaDoorDd
import Derived.Test.YtblelojdboefjaaDoorG
set_option maxRecDepth 100000
set_option linter.unusedVariables false
set_option linter.unusedSimpArgs false
namespace Go.Proofs.YtblelojdboefjaaDoor.R
open Go

theorem mk_le {α : Type} {f : α → Nat → α × Nat} {c : Nat} : ∀ (l : List α) (k : Nat), (∀ x ∈ l, ∀ k, (f x k).2 ≤ k + c) → (mkL f l k).2 ≤ k + l.length * c
  | [], k, _ => by simp [mkL]
  | x :: l, k, hf => by
    have h1 := hf x List.mem_cons_self k
    have h2 := mk_le l (f x k).2 fun y hy => hf y (List.mem_cons_of_mem _ hy)
    simp only [mkL, List.length_cons, Nat.succ_mul]
    omega
theorem mk_bd {α : Type} {f : α → Nat → α × Nat} {c b : Nat} {l : List α} {k : Nat} (hf : ∀ x ∈ l, ∀ k, (f x k).2 ≤ k + c) (hl : l.length ≤ b) : (mkL f l k).2 ≤ k + b * c :=
  Nat.le_trans (mk_le l k hf) (Nat.add_le_add_left (Nat.mul_le_mul_right _ hl) _)
theorem mDelta_le {x : TDelta} (hx : x.ok) : mDelta x 1 ≤ 4611686018427387904 := by
  have ha : ∀ (l : List TAttr) (k : Nat), l.length ≤ 1048576 → (mkL mAttr l k).2 ≤ k + 1048576 * 2 := fun l k h => mk_bd (fun x _ k => Nat.le_refl _) h
  have h1 := ha x.Attrs 1 hx.Attrs.2
  have h2 : (mkL mS x.Gone (mkL mAttr x.Attrs 1).2).2 ≤ (mkL mAttr x.Attrs 1).2 + 1048576 * 1 := mk_bd (fun x _ k => Nat.le_refl _) hx.Gone.2
  have h3 : (mkL mEntry x.Fresh (mkL mS x.Gone (mkL mAttr x.Attrs 1).2).2).2 ≤ (mkL mS x.Gone (mkL mAttr x.Attrs 1).2).2 + 1048576 * 4194304 := mk_bd (fun e he k => by
    have h4 := mk_bd (f := mB) (c := 1) (l := e.Data) (k := k + 1 + 1) (fun x _ k => Nat.le_refl _) (hx.Fresh.1 e he).Data.2
    have h5 := ha e.Attrs (mkL mB e.Data (k + 1 + 1)).2 (hx.Fresh.1 e he).Attrs.2
    have hb : Bd = 1048576 := rfl
    simp only [mEntry]
    omega) hx.Fresh.2
  unfold mDelta
  omega
set_option maxHeartbeats 1000000 in
theorem heldDelta_ok (n : Nat) (hn : Big + 4 ≤ n) (x : TDelta) (hx : x.ok) (k : Nat) (hk : mDelta x k ≤ 4611686018427387904) :
    pcall env n 17 [.c .agg [.sh true (.s 2 ((mkL mAttr x.Attrs k).1.map TAttr.pv)), .sh true (.s 1 ((mkL mS x.Gone (mkL mAttr x.Attrs k).2).1.map spv)), .sh true (.s 5 ((mkL mEntry x.Fresh (mkL mS x.Gone (mkL mAttr x.Attrs k).2).2).1.map TEntry.pv))], .c .one [.sh false (.i .i64 (k : Nat))]] [] = some ⟨.c .one [.sh false (.i .i64 ((mDelta x k : Nat)))], []⟩ := by
  refine walk (fn := Tryd.f17) (d := 3) hn rfl rfl rfl (Nat.le_of_ble_eq_true rfl) fun m hd => ?_
  unfold Tryd.f17
  unfold mDelta at hk ⊢
  have ge1 := mkL_ge mo_mAttr (l := x.Attrs) (k := k)
  have ge2 := mkL_ge mo_mS (l := x.Gone) (k := (mkL mAttr x.Attrs k).2)
  have ge3 := mkL_ge mo_mEntry (l := x.Fresh) (k := (mkL mS x.Gone (mkL mAttr x.Attrs k).2).2)
  have h1 := heldAttrS_ok m (hd (by decide)) x.Attrs hx.Attrs.1 k hx.Attrs.2 (by omega)
  have h2 := heldStringS_ok m (hd (by decide)) x.Gone hx.Gone.1 (mkL mAttr x.Attrs k).2 hx.Gone.2 (by omega)
  have h3 := heldEntryS_ok m (hd (by decide)) x.Fresh hx.Fresh.1 (mkL mS x.Gone (mkL mAttr x.Attrs k).2).2 hx.Fresh.2 hk
  try simp only [go_sem] at h1
  try simp only [go_sem] at h2
  try simp only [go_sem] at h3
  simp only [go_sem, Nat.reduceLT, Nat.reduceAdd, Nat.reduceSub, Nat.reduceEqDiff, Nat.reduceLeDiff, Int.reduceEq, Int.reduceBEq, Int.reduceBNe, Int.reduceNeg, UInt8.reduceToNat, Nat.reduceBEq, h1, h2, h3, nat_neg]

theorem srcI_len (b : List UInt8) : (srcI b).1.length ≤ b.length := by
  unfold srcI
  cases e : openB b with
  | some x => exact openB_len e
  | none => exact Nat.zero_le _
/-- What both answer: a difference and whether it is one. -/
theorem get_forms {b : List UInt8} (hb : b.length ≤ 1048576) : ∃ (d : TDelta) (t : Bool), d.ok ∧ delCs (getDI b) = [.ow false 2 (d.Attrs.map TAttr.pv), .ow false 1 (d.Gone.map spv), .ow false 5 (d.Fresh.map TEntry.ov), .sh false (.b t)] ∧ delS (getDI b) = [.ow false 2 (d.Attrs.map TAttr.pv), .ow false 1 (d.Gone.map spv), .ow false 5 (d.Fresh.map TEntry.pv), .sh false (.b t)] := by
  cases e : getDI b with
  | none => exact ⟨⟨[], [], []⟩, false, ⟨⟨(fun _ h => nomatch h), Nat.zero_le _⟩, ⟨(fun _ h => nomatch h), Nat.zero_le _⟩, ⟨(fun _ h => nomatch h), Nat.zero_le _⟩⟩, rfl, rfl⟩
  | some d =>
    refine ⟨d, true, ?_, rfl, rfl⟩
    unfold getDI at e
    split at e
    · injection e with e
      subst e
      exact rDel_ok (by have := srcI_len b; have hb : Bd = 1048576 := rfl; omega) _
    · cases e
set_option maxHeartbeats 8000000 in
theorem law_ok (n : Nat) (hn : Big + 2000001 ≤ n) (b : List UInt8) (hb : b.length ≤ 1048576) : pcall env n 4 [.c .one [.sh true (.s 1 ((b).map bpv))]] [] = some ⟨pvSV (.b true), []⟩ := by
  refine walk (fn := Tryd.f4) (d := 2000000) hn rfl rfl rfl (Nat.le_of_ble_eq_true rfl) fun m hd => ?_
  unfold Tryd.f4
  have hbd : Bd = 1048576 := rfl
  obtain ⟨x, t, hx, e3, e2⟩ := get_forms hb
  have c1 := toByteS_ok m (hd (by decide)) b (fun _ _ => trivial) (by omega)
  have c2 := getDeltaS_ok m (hd (by decide)) hb
  have c3 := getDeltaI_ok m (hd (by decide)) hb
  have c4 := eqDelta_ok m (hd (by decide)) x hx
  have c5 := eqByteS_ok m (hd (by decide)) b (fun _ _ => trivial) (by omega)
  rw [e2] at c2
  rw [e3] at c3
  have h0 : ((b.length : Int) > 1048576) = False := by simp only [eq_iff_iff, iff_false]; omega
  simp only [go_sem, tupD] at c1 c2 c3 c4 c5
  simp only [go_sem, Nat.reduceLT, Nat.reduceAdd, Nat.reduceSub, Nat.reduceEqDiff, Nat.reduceLeDiff, Int.reduceEq, Int.reduceBEq, Int.reduceBNe, Int.reduceNeg, UInt8.reduceToNat, Nat.reduceBEq, h0, c1, c2, c3, c4, c5]
  have hM : (mkL mB b 1).2 ≤ 4611686018427387904 := by have := mk_bd (f := mB) (c := 1) (l := b) (k := 1) (fun x _ k => Nat.le_refl _) hb; omega
  have hk := mDelta_le hx
  have g1 := heldDelta_ok m (hd (by decide)) x hx 1 hk
  obtain ⟨KD, hKD⟩ : ∃ K, mDelta x 1 = K := ⟨_, rfl⟩
  rw [hKD] at g1
  have a0 : ((∀ s o q r τ, tu s o q 2 (x.Attrs.map TAttr.pv) r τ = τ) ∧ ∀ k, (mkL mAttr x.Attrs k).1.map TAttr.pv = x.Attrs.map TAttr.pv) ∨ (∀ s o q r τ, tu s o q 2 (x.Attrs.map TAttr.pv) r τ = modS s o q (setRows 2 r) false τ) := by
    rcases Classical.em (x.Attrs = []) with hE | hE
    · exact .inl (by rw [hE]; exact ⟨fun _ _ _ _ _ => rfl, fun _ => rfl⟩)
    · exact .inr fun s o q r τ => tu_ne (by simpa using hE)
  have a1 : ((∀ s o q r τ, tu s o q 1 (x.Gone.map spv) r τ = τ) ∧ ∀ k, (mkL mS x.Gone k).1.map spv = x.Gone.map spv) ∨ (∀ s o q r τ, tu s o q 1 (x.Gone.map spv) r τ = modS s o q (setRows 1 r) false τ) := by
    rcases Classical.em (x.Gone = []) with hE | hE
    · exact .inl (by rw [hE]; exact ⟨fun _ _ _ _ _ => rfl, fun _ => rfl⟩)
    · exact .inr fun s o q r τ => tu_ne (by simpa using hE)
  have a2 : ((∀ s o q r τ, tu s o q 5 (x.Fresh.map TEntry.ov) r τ = τ) ∧ ∀ k, (mkL mEntry x.Fresh k).1.map TEntry.pv = x.Fresh.map TEntry.pv) ∨ (∀ s o q r τ, tu s o q 5 (x.Fresh.map TEntry.ov) r τ = modS s o q (setRows 5 r) false τ) := by
    rcases Classical.em (x.Fresh = []) with hE | hE
    · exact .inl (by rw [hE]; exact ⟨fun _ _ _ _ _ => rfl, fun _ => rfl⟩)
    · exact .inr fun s o q r τ => tu_ne (by simpa using hE)
  refine wq_of (markByteS_ok m (hd (by decide)) _ _ _ _ _ b (fun _ _ => trivial) 1 (by omega) hM (by simp only [List.length_cons]; omega) rfl rfl) ?_
  have a3 : (∀ s o q r τ, tu s o q 1 (b.map bpv) r τ = τ) ∨ (∀ s o q r τ, tu s o q 1 (b.map bpv) r τ = modS s o q (setRows 1 r) false τ) := by
    rcases Classical.em (b = []) with hE | hE
    · exact .inl (by rw [hE]; intros; rfl)
    · exact .inr fun s o q r τ => tu_ne (by simpa using hE)
  obtain ⟨KB, hKB⟩ : ∃ K, (mkL mB b 1).2 = K := ⟨_, rfl⟩
  rw [hKB]
  rcases a3 with a3 | a3
  all_goals
    simp only [a3]
    simp only [go_sem, Nat.reduceLT, Nat.reduceAdd, Nat.reduceSub, Nat.reduceEqDiff, Nat.reduceLeDiff, Int.reduceEq, Int.reduceBEq, Int.reduceBNe, Int.reduceNeg, UInt8.reduceToNat, Nat.reduceBEq, nat_neg, c4, mkL_len, List.length_map]
    refine wq_of (markDelta_ok m (hd (by decide)) _ _ _ x hx 1 hk (by simp only [List.length_cons]; omega) rfl rfl rfl rfl) ?_
    rw [hKD]
    rcases a0 with ⟨a0, v0⟩ | a0 <;> rcases a1 with ⟨a1, v1⟩ | a1 <;> rcases a2 with ⟨a2, v2⟩ | a2
  all_goals
    simp only [a0, a1, a2]
    try simp only [v0] at g1
    try simp only [v1] at g1
    try simp only [v2] at g1
    try simp only [go_sem] at g1
    simp only [go_sem, Nat.reduceLT, Nat.reduceAdd, Nat.reduceSub, Nat.reduceEqDiff, Nat.reduceLeDiff, Int.reduceEq, Int.reduceBEq, Int.reduceBNe, Int.reduceNeg, UInt8.reduceToNat, Nat.reduceBEq, c1, c3, c4, g1, nat_neg, mkL_len, List.length_map]
end Go.Proofs.YtblelojdboefjaaDoor.R
