/- The program's types of plain data. Printed by gentypes.py. -/
import Derived.Test.YtblelojdboefjaaDoorT0
set_option linter.unusedVariables false
namespace Go.Proofs.YtblelojdboefjaaDoor.R
open Go
structure TAttr where
  Name : ByteArray
  Val : ByteArray
def TAttr.pv (x : TAttr) : List PV := [.t x.Name, .t x.Val]
instance : FlatF TAttr.pv := .mk' fun _ => rfl
instance : ScalF TAttr.pv := ⟨fun _ => rfl⟩
structure TAttr.ok (x : TAttr) : Prop where
  Name : okS x.Name
  Val : okS x.Val
def sAttr : STy := .cons .str (.cons .str .nil)
theorem TAttr.of (l : List PV) (m : Nat) (h0 : Fits sAttr l m) (hm : m ≤ Bd) : ∃ x : TAttr, l = x.pv ∧ x.ok := by
  obtain ⟨x0, r0, n0, k0, f0, h1, e0, rfl⟩ := fits_cons h0
  obtain ⟨v0, rfl, o0⟩ := fits_str f0
  obtain ⟨x1, r1, n1, k1, f1, h2, e1, rfl⟩ := fits_cons h1
  obtain ⟨v1, rfl, o1⟩ := fits_str f1
  have := fits_nil h2; subst this
  exact ⟨⟨v0, v1⟩, by subst_vars; rfl, ⟨Nat.le_trans o0 (by omega), Nat.le_trans o1 (by omega)⟩⟩
structure TEntry where
  Path : ByteArray
  Kind : Int
  Data : List UInt8
  Attrs : List TAttr
  First : ByteArray
def TEntry.pv (x : TEntry) : List PV := [.t x.Path, .i .i64 x.Kind, .s 1 (x.Data.map bpv), .s 2 (x.Attrs.map TAttr.pv), .t x.First]
instance : FlatF TEntry.pv := .mk' fun _ => rfl
def TEntry.ov (x : TEntry) : List PV := [.t x.Path, .i .i64 x.Kind, .o 1 (x.Data.map bpv), .o 2 (x.Attrs.map TAttr.pv), .t x.First]
instance : OwnF TEntry.ov TEntry.pv := ⟨fun x => by simp only [TEntry.ov, TEntry.pv, go_sem]⟩
structure TEntry.ok (x : TEntry) : Prop where
  Path : okS x.Path
  Kind : inR x.Kind
  Data : (∀ y ∈ x.Data, okB y) ∧ x.Data.length ≤ Bd
  Attrs : (∀ y ∈ x.Attrs, TAttr.ok y) ∧ x.Attrs.length ≤ Bd
  First : okS x.First
def sEntry : STy := .cons .str (.cons (.int .i64) (.cons (.sl (.int .u8)) (.cons (.sl sAttr) (.cons .str .nil))))
theorem TEntry.of (l : List PV) (m : Nat) (h0 : Fits sEntry l m) (hm : m ≤ Bd) : ∃ x : TEntry, l = x.pv ∧ x.ok := by
  obtain ⟨x0, r0, n0, k0, f0, h1, e0, rfl⟩ := fits_cons h0
  obtain ⟨v0, rfl, o0⟩ := fits_str f0
  obtain ⟨x1, r1, n1, k1, f1, h2, e1, rfl⟩ := fits_cons h1
  obtain ⟨v1, rfl, o1⟩ := fits_i64 f1
  obtain ⟨x2, r2, n2, k2, f2, h3, e2, rfl⟩ := fits_cons h2
  obtain ⟨w2, m2, rfl, g2, b2⟩ := fits_sl f2
  obtain ⟨v2, rfl, o2⟩ := of_bytes g2 (by omega)
  obtain ⟨x3, r3, n3, k3, f3, h4, e3, rfl⟩ := fits_cons h3
  obtain ⟨w3, m3, rfl, g3, b3⟩ := fits_sl f3
  obtain ⟨v3, rfl, o3⟩ := rows_list (pv := TAttr.pv) (ok := TAttr.ok) (by decide) g3 (by omega) TAttr.of
  obtain ⟨x4, r4, n4, k4, f4, h5, e4, rfl⟩ := fits_cons h4
  obtain ⟨v4, rfl, o4⟩ := fits_str f4
  have := fits_nil h5; subst this
  exact ⟨⟨v0, v1, v2, v3, v4⟩, by subst_vars; rfl, ⟨Nat.le_trans o0 (by omega), o1, o2, o3, Nat.le_trans o4 (by omega)⟩⟩
structure TDelta where
  Attrs : List TAttr
  Gone : List ByteArray
  Fresh : List TEntry
def TDelta.pv (x : TDelta) : List PV := [.s 2 (x.Attrs.map TAttr.pv), .s 1 (x.Gone.map spv), .s 5 (x.Fresh.map TEntry.pv)]
instance : FlatF TDelta.pv := .mk' fun _ => rfl
def TDelta.ov (x : TDelta) : List PV := [.o 2 (x.Attrs.map TAttr.pv), .o 1 (x.Gone.map spv), .o 5 (x.Fresh.map TEntry.ov)]
instance : OwnF TDelta.ov TDelta.pv := ⟨fun x => by simp only [TDelta.ov, TDelta.pv, go_sem]⟩
structure TDelta.ok (x : TDelta) : Prop where
  Attrs : (∀ y ∈ x.Attrs, TAttr.ok y) ∧ x.Attrs.length ≤ Bd
  Gone : (∀ y ∈ x.Gone, okS y) ∧ x.Gone.length ≤ Bd
  Fresh : (∀ y ∈ x.Fresh, TEntry.ok y) ∧ x.Fresh.length ≤ Bd
def sDelta : STy := .cons (.sl sAttr) (.cons (.sl .str) (.cons (.sl sEntry) .nil))
theorem TDelta.of (l : List PV) (m : Nat) (h0 : Fits sDelta l m) (hm : m ≤ Bd) : ∃ x : TDelta, l = x.pv ∧ x.ok := by
  obtain ⟨x0, r0, n0, k0, f0, h1, e0, rfl⟩ := fits_cons h0
  obtain ⟨w0, m0, rfl, g0, b0⟩ := fits_sl f0
  obtain ⟨v0, rfl, o0⟩ := rows_list (pv := TAttr.pv) (ok := TAttr.ok) (by decide) g0 (by omega) TAttr.of
  obtain ⟨x1, r1, n1, k1, f1, h2, e1, rfl⟩ := fits_cons h1
  obtain ⟨w1, m1, rfl, g1, b1⟩ := fits_sl f1
  obtain ⟨v1, rfl, o1⟩ := of_texts g1 (by omega)
  obtain ⟨x2, r2, n2, k2, f2, h3, e2, rfl⟩ := fits_cons h2
  obtain ⟨w2, m2, rfl, g2, b2⟩ := fits_sl f2
  obtain ⟨v2, rfl, o2⟩ := rows_list (pv := TEntry.pv) (ok := TEntry.ok) (by decide) g2 (by omega) TEntry.of
  have := fits_nil h3; subst this
  exact ⟨⟨v0, v1, v2⟩, by subst_vars; rfl, ⟨o0, o1, o2⟩⟩
end Go.Proofs.YtblelojdboefjaaDoor.R
