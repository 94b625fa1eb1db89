/- Plain data as cells: what fits a type is the cells of a typed value. -/
import Derived.Test.YtblelojdboefjaaDoorM5
import Derived.Test.YtblelojdboefjaaDoorM6
import Derived.IntWalk
set_option linter.unusedVariables false
set_option linter.unusedSimpArgs false
namespace Go.Proofs.YtblelojdboefjaaDoor.R
open Go

/-- How much an argument holds at most. -/
def Bd : Nat := 1048576
/-- A whole number of the machine. -/
def inR (n : Int) : Prop := -9223372036854775808 ≤ n ∧ n ≤ 9223372036854775807

theorem fits_cons {a b : STy} {l : List PV} {m : Nat} (h : Fits (.cons a b) l m) : ∃ x y n k, Fits a x n ∧ Fits b y k ∧ l = x ++ y ∧ m = n + k := by
  cases h with
  | cons _ _ x y n k h1 h2 => exact ⟨x, y, n, k, h1, h2, rfl, rfl⟩
theorem fits_nil {l : List PV} {m : Nat} (h : Fits .nil l m) : l = [] := by cases h; rfl
theorem fits_int {k : IntKind} {l : List PV} {m : Nat} (h : Fits (.int k) l m) : ∃ n, l = [.i k n] ∧ k.min ≤ n ∧ n ≤ k.max := by
  cases h with
  | int _ n h1 h2 => exact ⟨n, rfl, h1, h2⟩
theorem fits_i64 {l : List PV} {m : Nat} (h : Fits (.int .i64) l m) : ∃ n, l = [.i .i64 n] ∧ inR n := by
  obtain ⟨n, h1, h2, h3⟩ := fits_int h
  exact ⟨n, h1, h2, h3⟩
theorem fits_u8 {l : List PV} {m : Nat} (h : Fits (.int .u8) l m) : ∃ b : UInt8, l = [.i .u8 (b.toNat : Int)] := by
  obtain ⟨n, h1, h2, h3⟩ := fits_int h
  have h2' : 0 ≤ n := h2
  have h3' : n ≤ 255 := h3
  refine ⟨UInt8.ofNat n.toNat, ?_⟩
  rw [h1, UInt8.toNat_ofNat_of_lt' (by show n.toNat < 256; omega), Int.toNat_of_nonneg h2']
theorem fits_bool {l : List PV} {m : Nat} (h : Fits .bool l m) : ∃ b, l = [.b b] := by cases h with | bool b => exact ⟨b, rfl⟩
theorem fits_str {l : List PV} {m : Nat} (h : Fits .str l m) : ∃ s, l = [.t s] ∧ s.size ≤ m := by cases h with | str s => exact ⟨s, rfl, Nat.le_succ _⟩
theorem fits_sl {e : STy} {l : List PV} {m : Nat} (h : Fits (.sl e) l m) : ∃ rows n, l = [.s e.size rows] ∧ FitsRows e rows n ∧ n ≤ m := by
  cases h with | sl _ rows n h => exact ⟨rows, n, rfl, h, Nat.le_succ _⟩
mutual
theorem fits_size {s : STy} {l : List PV} {m : Nat} (h : Fits s l m) : s.size ≤ m :=
  match h with
  | .int .. => Nat.le_refl _
  | .bool _ => Nat.le_refl _
  | .str s => Nat.le_add_left _ _
  | .sl .. => Nat.le_add_left _ _
  | .nil => Nat.le_refl _
  | .cons _ _ _ _ _ _ h1 h2 => Nat.add_le_add (fits_size h1) (fits_size h2)
end
theorem rows_list {α : Type} {e : STy} {pv : α → List PV} {ok : α → Prop} (he : 1 ≤ e.size) : ∀ {rows : List (List PV)} {n : Nat}, FitsRows e rows n → n ≤ Bd → (∀ l m, Fits e l m → m ≤ Bd → ∃ x, l = pv x ∧ ok x) → ∃ l : List α, rows = l.map pv ∧ (∀ x ∈ l, ok x) ∧ l.length ≤ Bd
  | rows, n, h, hn, of => by
    suffices H : ∃ l : List α, rows = l.map pv ∧ (∀ x ∈ l, ok x) ∧ l.length ≤ n by
      obtain ⟨l, h1, h2, h3⟩ := H; exact ⟨l, h1, h2, Nat.le_trans h3 hn⟩
    induction rows generalizing n with
    | nil => exact ⟨[], rfl, by simp, Nat.zero_le _⟩
    | cons row rows ih =>
      cases h with
      | cons _ _ _ n m h1 h2 =>
        obtain ⟨x, hx, ho⟩ := of row n h1 (by omega)
        obtain ⟨l, hl, hok, hlen⟩ := ih m h2 (by omega)
        refine ⟨x :: l, by rw [hx, hl]; rfl, fun y hy => ?_, ?_⟩
        · cases hy with
          | head => exact ho
          | tail _ hy => exact hok y hy
        · have := fits_size h1
          simp only [List.length_cons]; omega

attribute [go_sem] beq_self_eq_true bne_self_eq_false Int.toNat_natCast Int.natCast_nonneg List.length_map List.getElem?_map List.length_replicate List.length_set List.length_append
/-- A state of n slots of which these alone are known. -/
def slots (n : Nat) : List (Nat × SV) → St
  | [] => List.replicate n .undef
  | (d, v) :: l => (slots n l).set d v
attribute [go_sem] slots
/-- How deep the evaluator goes at least. -/
def Big : Nat := 9223372036854775808
theorem wrap_in {n : Int} (h1 : -9223372036854775808 ≤ n) (h2 : n ≤ 9223372036854775807) : IntKind.i64.wrap n = n := Go.IntWalk.i64_in n ⟨h1, h2⟩
theorem wrap_succ {j m : Nat} (h : j < m) (hm : m ≤ 1152921504606846976) : IntKind.i64.wrap ((j : Int) + 1) = ((j + 1 : Nat) : Int) := by
  rw [wrap_in (by omega) (by omega)]; omega
theorem wq_loop_at {E : Env} {call : CallF} {N n : Nat} {b : Code} {σ : St} {K : Kont (Ex × St)} (J : Nat → St → Prop) (k : Nat) (hk : k < n) (hi : @Wq _ (some (tidy N (E.D (firstId b)) σ)) ⟨fun σ => J k σ⟩)
    (h : ∀ k σ, J k σ → @Wq _ (runCode E call N n b σ) ⟨cont (fun σ => @Wq _ (some (tidy N (E.D (firstId b)) σ)) ⟨fun σ => ∃ k', k' < k ∧ J k' σ⟩) K.run⟩) : @Wq _ (runCode E call N n (.loop b) σ) K := by
  refine wq_loop (fun k σ => J k (tidy N (E.D (firstId b)) σ)) k hk (by rw [wq_some] at hi; exact hi) fun k σ hj => ?_
  rw [wq_some]
  refine (h k _ hj).mono fun r hr => ?_
  obtain ⟨e, τ⟩ := r
  cases e with
  | normal => exact hr.elim fun τ hτ => by obtain ⟨h0, h⟩ := hτ; injection h0 with h0; subst h0; exact h
  | _ => exact hr
/-- An argument's cell. -/
def argC' (p : PV) : CV := .sh (!p.scalar) p
attribute [go_sem] argC'
/-- Bytes, whole numbers, texts as rows. -/
def bpv (b : UInt8) : List PV := [.i .u8 (b.toNat : Int)]
def ipv (n : Int) : List PV := [.i .i64 n]
def spv (s : ByteArray) : List PV := [.t s]
def okS (s : ByteArray) : Prop := s.size ≤ Bd
def okB (_ : UInt8) : Prop := True
theorem of_bytes {rows : List (List PV)} {n : Nat} (h : FitsRows (.int .u8) rows n) (hn : n ≤ Bd) : ∃ l : List UInt8, rows = l.map bpv ∧ (∀ x ∈ l, okB x) ∧ l.length ≤ Bd :=
  rows_list (Nat.le_refl _) h hn fun l m h _ => by obtain ⟨b, hb⟩ := fits_u8 h; exact ⟨b, hb, trivial⟩
theorem of_ints {rows : List (List PV)} {n : Nat} (h : FitsRows (.int .i64) rows n) (hn : n ≤ Bd) : ∃ l : List Int, rows = l.map ipv ∧ (∀ x ∈ l, inR x) ∧ l.length ≤ Bd :=
  rows_list (Nat.le_refl _) h hn fun l m h _ => by obtain ⟨b, hb, hr⟩ := fits_i64 h; exact ⟨b, hb, hr⟩
theorem of_texts {rows : List (List PV)} {n : Nat} (h : FitsRows .str rows n) (hn : n ≤ Bd) : ∃ l : List ByteArray, rows = l.map spv ∧ (∀ x ∈ l, okS x) ∧ l.length ≤ Bd :=
  rows_list (Nat.le_refl _) h hn fun l m h hm => by obtain ⟨b, hb, hr⟩ := fits_str h; exact ⟨b, hb, Nat.le_trans hr hm⟩

/-- A new slice, of which the first j elements have been set. -/
def filling {α : Type} (pv : α → List PV) (l : List α) (z : List PV) (j : Nat) : List (List PV) := (l.take j).map pv ++ List.replicate (l.length - j) z
section
variable {α : Type} {pv : α → List PV} {l : List α} {z : List PV} {j : Nat} {x : α}
theorem fill_zero : List.replicate l.length z = filling pv l z 0 := by simp [filling]
theorem fill_end : filling pv l z l.length = l.map pv := by simp [filling]
theorem fill_length (h : j ≤ l.length) : (filling pv l z j).length = l.length := by simp [filling]; omega
theorem fill_get (h : j < l.length) : (filling pv l z j)[j]? = some z := by
  unfold filling
  rw [List.getElem?_append_right (by simp; omega)]
  simp only [List.length_map, List.length_take, List.getElem?_replicate]
  rw [if_pos (by omega)]
theorem fill_set (h : l[j]? = some x) : (filling pv l z j).set j (pv x) = filling pv l z (j + 1) := by
  obtain ⟨hj, hx⟩ := List.getElem?_eq_some_iff.1 h
  unfold filling
  rw [List.set_append_right _ _ (by simp; omega)]
  have e : l.length - j = (l.length - (j + 1)) + 1 := by omega
  have e2 : j - (List.map pv (List.take j l)).length = 0 := by simp; omega
  rw [e, List.replicate_succ, e2, List.set_cons_zero, List.take_succ_eq_append_getElem hj, List.map_append, List.append_assoc, ← hx]
  rfl
end
/-- A cell of a fresh copy. -/
def frC : PV → CV
  | .s es rows => .ow false es rows
  | p => .sh false p
attribute [go_sem] frC Nat.zero_add Nat.add_zero
theorem wq_int {x : Option Ret} (h : @Wq _ x ⟨fun r => ∃ v, r = ⟨pvSV (.i .i64 v), []⟩⟩) : ∃ v, x = some ⟨pvSV (.i .i64 v), []⟩ := by
  obtain ⟨r, h1, v, h2⟩ := h; exact ⟨v, by rw [h1, h2]⟩
theorem skolem_int {x : Int → Option Ret} (h : ∀ left, ∃ v, x left = some ⟨pvSV (.i .i64 v), []⟩) : ∃ g : Int → Int, ∀ left, x left = some ⟨pvSV (.i .i64 (g left)), []⟩ := ⟨fun l => (h l).choose, fun l => (h l).choose_spec⟩
theorem big_bd : Bd < Big := by decide
theorem bd_lim : Bd * 1000 ≤ LIM := by decide
theorem ex_pred {n d : Nat} (h : Big + d ≤ n) : ∃ m, n = m + 1 := ⟨n - 1, by have := big_bd; omega⟩
theorem deep {n a b : Nat} (h : Big + a ≤ n + 1) (hab : b + 1 ≤ a) : Big + b ≤ n := by omega
theorem chk1 {T : Tys} {ops : Array Oper} (h : apartOk T ops = true) : @Chk ⟨apartOk T ops = true⟩ := h
attribute [go_sem] bpv ipv spv
/-- Rows of this form own slices; read by all they are those. -/
class OwnF {α : Type} (f : α → List PV) (g : outParam (α → List PV)) : Prop where
  er : ∀ x, erRow (f x) = g x
@[go_sem] theorem erRows_own {α : Type} {l : List α} {f g : α → List PV} [OwnF f g] : erRows (l.map f) = l.map g := by
  rw [erRows_map]; congr 1; funext x; exact OwnF.er x
/-- A cell of an owned copy. -/
def ovC : PV → CV
  | .o es rows => .ow false es rows
  | p => .sh false p
attribute [go_sem] ovC
instance : FlatF bpv := .mk' fun _ => rfl
instance : FlatF ipv := .mk' fun _ => rfl
instance : FlatF spv := .mk' fun _ => rfl
instance : ScalF bpv := ⟨fun _ => rfl⟩
instance : ScalF ipv := ⟨fun _ => rfl⟩
instance : ScalF spv := ⟨fun _ => rfl⟩

end Go.Proofs.YtblelojdboefjaaDoor.R
