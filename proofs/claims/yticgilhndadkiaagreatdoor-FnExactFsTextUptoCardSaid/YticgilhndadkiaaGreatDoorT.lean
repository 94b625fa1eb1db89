/- The program's types of plain data. Printed by gentypes.py. -/
import Derived.Test.YticgilhndadkiaaGreatDoorT0
set_option linter.unusedVariables false
namespace Go.Proofs.YticgilhndadkiaaGreatDoor.R
open Go
structure TAttr where
  Name : ByteArray
  Val : ByteArray
def TAttr.pv (x : TAttr) : List PV := [.t x.Name, .t x.Val]
structure TAttr.ok (x : TAttr) : Prop where
  Name : okS x.Name
  Val : okS x.Val
def sAttr : STy := .cons .str (.cons .str .nil)
theorem TAttr.of (l : List PV) (m : Nat) (h0 : Fits sAttr l m) (hm : m ≤ Bd) : ∃ x : TAttr, l = x.pv ∧ x.ok := by
  obtain ⟨x0, r0, n0, k0, f0, h1, e0, rfl⟩ := fits_cons h0
  obtain ⟨v0, rfl, o0⟩ := fits_str f0
  obtain ⟨x1, r1, n1, k1, f1, h2, e1, rfl⟩ := fits_cons h1
  obtain ⟨v1, rfl, o1⟩ := fits_str f1
  have := fits_nil h2; subst this
  exact ⟨⟨v0, v1⟩, by subst_vars; rfl, ⟨Nat.le_trans o0 (by omega), Nat.le_trans o1 (by omega)⟩⟩
structure TEnt where
  Name : ByteArray
  Ino : Int
def TEnt.pv (x : TEnt) : List PV := [.t x.Name, .i .i64 x.Ino]
structure TEnt.ok (x : TEnt) : Prop where
  Name : okS x.Name
  Ino : inR x.Ino
def sEnt : STy := .cons .str (.cons (.int .i64) .nil)
theorem TEnt.of (l : List PV) (m : Nat) (h0 : Fits sEnt l m) (hm : m ≤ Bd) : ∃ x : TEnt, l = x.pv ∧ x.ok := by
  obtain ⟨x0, r0, n0, k0, f0, h1, e0, rfl⟩ := fits_cons h0
  obtain ⟨v0, rfl, o0⟩ := fits_str f0
  obtain ⟨x1, r1, n1, k1, f1, h2, e1, rfl⟩ := fits_cons h1
  obtain ⟨v1, rfl, o1⟩ := fits_i64 f1
  have := fits_nil h2; subst this
  exact ⟨⟨v0, v1⟩, by subst_vars; rfl, ⟨Nat.le_trans o0 (by omega), o1⟩⟩
structure TInode where
  Ino : Int
  Kind : Int
  Links : Int
  Data : List UInt8
  Ents : List TEnt
  Attrs : List TAttr
def TInode.pv (x : TInode) : List PV := [.i .i64 x.Ino, .i .i64 x.Kind, .i .i64 x.Links, .s 1 (x.Data.map bpv), .s 2 (x.Ents.map TEnt.pv), .s 2 (x.Attrs.map TAttr.pv)]
structure TInode.ok (x : TInode) : Prop where
  Ino : inR x.Ino
  Kind : inR x.Kind
  Links : inR x.Links
  Data : (∀ y ∈ x.Data, okB y) ∧ x.Data.length ≤ Bd
  Ents : (∀ y ∈ x.Ents, TEnt.ok y) ∧ x.Ents.length ≤ Bd
  Attrs : (∀ y ∈ x.Attrs, TAttr.ok y) ∧ x.Attrs.length ≤ Bd
def sInode : STy := .cons (.int .i64) (.cons (.int .i64) (.cons (.int .i64) (.cons (.sl (.int .u8)) (.cons (.sl sEnt) (.cons (.sl sAttr) .nil)))))
theorem TInode.of (l : List PV) (m : Nat) (h0 : Fits sInode l m) (hm : m ≤ Bd) : ∃ x : TInode, l = x.pv ∧ x.ok := by
  obtain ⟨x0, r0, n0, k0, f0, h1, e0, rfl⟩ := fits_cons h0
  obtain ⟨v0, rfl, o0⟩ := fits_i64 f0
  obtain ⟨x1, r1, n1, k1, f1, h2, e1, rfl⟩ := fits_cons h1
  obtain ⟨v1, rfl, o1⟩ := fits_i64 f1
  obtain ⟨x2, r2, n2, k2, f2, h3, e2, rfl⟩ := fits_cons h2
  obtain ⟨v2, rfl, o2⟩ := fits_i64 f2
  obtain ⟨x3, r3, n3, k3, f3, h4, e3, rfl⟩ := fits_cons h3
  obtain ⟨w3, m3, rfl, g3, b3⟩ := fits_sl f3
  obtain ⟨v3, rfl, o3⟩ := of_bytes g3 (by omega)
  obtain ⟨x4, r4, n4, k4, f4, h5, e4, rfl⟩ := fits_cons h4
  obtain ⟨w4, m4, rfl, g4, b4⟩ := fits_sl f4
  obtain ⟨v4, rfl, o4⟩ := rows_list (pv := TEnt.pv) (ok := TEnt.ok) (by decide) g4 (by omega) TEnt.of
  obtain ⟨x5, r5, n5, k5, f5, h6, e5, rfl⟩ := fits_cons h5
  obtain ⟨w5, m5, rfl, g5, b5⟩ := fits_sl f5
  obtain ⟨v5, rfl, o5⟩ := rows_list (pv := TAttr.pv) (ok := TAttr.ok) (by decide) g5 (by omega) TAttr.of
  have := fits_nil h6; subst this
  exact ⟨⟨v0, v1, v2, v3, v4, v5⟩, by subst_vars; rfl, ⟨o0, o1, o2, o3, o4, o5⟩⟩
structure TTab where
  Inodes : List TInode
  Next : Int
def TTab.pv (x : TTab) : List PV := [.s 6 (x.Inodes.map TInode.pv), .i .i64 x.Next]
structure TTab.ok (x : TTab) : Prop where
  Inodes : (∀ y ∈ x.Inodes, TInode.ok y) ∧ x.Inodes.length ≤ Bd
  Next : inR x.Next
def sTab : STy := .cons (.sl sInode) (.cons (.int .i64) .nil)
theorem TTab.of (l : List PV) (m : Nat) (h0 : Fits sTab l m) (hm : m ≤ Bd) : ∃ x : TTab, l = x.pv ∧ x.ok := by
  obtain ⟨x0, r0, n0, k0, f0, h1, e0, rfl⟩ := fits_cons h0
  obtain ⟨w0, m0, rfl, g0, b0⟩ := fits_sl f0
  obtain ⟨v0, rfl, o0⟩ := rows_list (pv := TInode.pv) (ok := TInode.ok) (by decide) g0 (by omega) TInode.of
  obtain ⟨x1, r1, n1, k1, f1, h2, e1, rfl⟩ := fits_cons h1
  obtain ⟨v1, rfl, o1⟩ := fits_i64 f1
  have := fits_nil h2; subst this
  exact ⟨⟨v0, v1⟩, by subst_vars; rfl, ⟨o0, o1⟩⟩
structure TVol where
  Id : Int
  Name : ByteArray
  Ro : Bool
  Limit : Int
  T : TTab
def TVol.pv (x : TVol) : List PV := [.i .i64 x.Id, .t x.Name, .b x.Ro, .i .i64 x.Limit, .s 6 (x.T.Inodes.map TInode.pv), .i .i64 x.T.Next]
structure TVol.ok (x : TVol) : Prop where
  Id : inR x.Id
  Name : okS x.Name
  Limit : inR x.Limit
  T : TTab.ok x.T
def sVol : STy := .cons (.int .i64) (.cons .str (.cons .bool (.cons (.int .i64) (.cons sTab .nil))))
theorem TVol.of (l : List PV) (m : Nat) (h0 : Fits sVol l m) (hm : m ≤ Bd) : ∃ x : TVol, l = x.pv ∧ x.ok := by
  obtain ⟨x0, r0, n0, k0, f0, h1, e0, rfl⟩ := fits_cons h0
  obtain ⟨v0, rfl, o0⟩ := fits_i64 f0
  obtain ⟨x1, r1, n1, k1, f1, h2, e1, rfl⟩ := fits_cons h1
  obtain ⟨v1, rfl, o1⟩ := fits_str f1
  obtain ⟨x2, r2, n2, k2, f2, h3, e2, rfl⟩ := fits_cons h2
  obtain ⟨v2, rfl⟩ := fits_bool f2
  obtain ⟨x3, r3, n3, k3, f3, h4, e3, rfl⟩ := fits_cons h3
  obtain ⟨v3, rfl, o3⟩ := fits_i64 f3
  obtain ⟨x4, r4, n4, k4, f4, h5, e4, rfl⟩ := fits_cons h4
  obtain ⟨v4, rfl, o4⟩ := TTab.of _ _ f4 (by omega)
  have := fits_nil h5; subst this
  exact ⟨⟨v0, v1, v2, v3, v4⟩, by subst_vars; rfl, ⟨o0, Nat.le_trans o1 (by omega), o3, o4⟩⟩
structure TFs where
  Vols : List TVol
  Next : Int
def TFs.pv (x : TFs) : List PV := [.s 6 (x.Vols.map TVol.pv), .i .i64 x.Next]
structure TFs.ok (x : TFs) : Prop where
  Vols : (∀ y ∈ x.Vols, TVol.ok y) ∧ x.Vols.length ≤ Bd
  Next : inR x.Next
def sFs : STy := .cons (.sl sVol) (.cons (.int .i64) .nil)
theorem TFs.of (l : List PV) (m : Nat) (h0 : Fits sFs l m) (hm : m ≤ Bd) : ∃ x : TFs, l = x.pv ∧ x.ok := by
  obtain ⟨x0, r0, n0, k0, f0, h1, e0, rfl⟩ := fits_cons h0
  obtain ⟨w0, m0, rfl, g0, b0⟩ := fits_sl f0
  obtain ⟨v0, rfl, o0⟩ := rows_list (pv := TVol.pv) (ok := TVol.ok) (by decide) g0 (by omega) TVol.of
  obtain ⟨x1, r1, n1, k1, f1, h2, e1, rfl⟩ := fits_cons h1
  obtain ⟨v1, rfl, o1⟩ := fits_i64 f1
  have := fits_nil h2; subst this
  exact ⟨⟨v0, v1⟩, by subst_vars; rfl, ⟨o0, o1⟩⟩
end Go.Proofs.YticgilhndadkiaaGreatDoor.R
