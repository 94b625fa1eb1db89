/- The program's types of plain data. Printed by gentypes.py. -/
import Derived.Test.YtblelojdboefjaaGreatT0
set_option linter.unusedVariables false
namespace Go.Proofs.YtblelojdboefjaaGreat.R
open Go
structure TAttr where
  Name : ByteArray
  Val : ByteArray
def TAttr.pv (x : TAttr) : List PV := [.t x.Name, .t x.Val]
instance : FlatF TAttr.pv := .mk' fun _ => rfl
structure TAttr.ok (x : TAttr) : Prop where
  Name : okS x.Name
  Val : okS x.Val
def sAttr : STy := .cons .str (.cons .str .nil)
theorem TAttr.of (l : List PV) (m : Nat) (h0 : Fits sAttr l m) (hm : m ≤ Bd) : ∃ x : TAttr, l = x.pv ∧ x.ok := by
  obtain ⟨x0, r0, n0, k0, f0, h1, e0, rfl⟩ := fits_cons h0
  obtain ⟨v0, rfl, o0⟩ := fits_str f0
  obtain ⟨x1, r1, n1, k1, f1, h2, e1, rfl⟩ := fits_cons h1
  obtain ⟨v1, rfl, o1⟩ := fits_str f1
  have := fits_nil h2; subst this
  exact ⟨⟨v0, v1⟩, by subst_vars; rfl, ⟨Nat.le_trans o0 (by omega), Nat.le_trans o1 (by omega)⟩⟩
structure TPage where
  Used : Bool
  B : List UInt8
def TPage.pv (x : TPage) : List PV := [.b x.Used, .s 1 (x.B.map bpv)]
instance : FlatF TPage.pv := .mk' fun _ => rfl
structure TPage.ok (x : TPage) : Prop where
  B : (∀ y ∈ x.B, okB y) ∧ x.B.length ≤ Bd
def sPage : STy := .cons .bool (.cons (.sl (.int .u8)) .nil)
theorem TPage.of (l : List PV) (m : Nat) (h0 : Fits sPage l m) (hm : m ≤ Bd) : ∃ x : TPage, l = x.pv ∧ x.ok := by
  obtain ⟨x0, r0, n0, k0, f0, h1, e0, rfl⟩ := fits_cons h0
  obtain ⟨v0, rfl⟩ := fits_bool f0
  obtain ⟨x1, r1, n1, k1, f1, h2, e1, rfl⟩ := fits_cons h1
  obtain ⟨w1, m1, rfl, g1, b1⟩ := fits_sl f1
  obtain ⟨v1, rfl, o1⟩ := of_bytes g1 (by omega)
  have := fits_nil h2; subst this
  exact ⟨⟨v0, v1⟩, by subst_vars; rfl, ⟨o1⟩⟩
structure TBlock where
  Pages : List TPage
  Wear : Int
  Bad : Bool
def TBlock.pv (x : TBlock) : List PV := [.s 2 (x.Pages.map TPage.pv), .i .i64 x.Wear, .b x.Bad]
instance : FlatF TBlock.pv := .mk' fun _ => rfl
structure TBlock.ok (x : TBlock) : Prop where
  Pages : (∀ y ∈ x.Pages, TPage.ok y) ∧ x.Pages.length ≤ Bd
  Wear : inR x.Wear
def sBlock : STy := .cons (.sl sPage) (.cons (.int .i64) (.cons .bool .nil))
theorem TBlock.of (l : List PV) (m : Nat) (h0 : Fits sBlock l m) (hm : m ≤ Bd) : ∃ x : TBlock, l = x.pv ∧ x.ok := by
  obtain ⟨x0, r0, n0, k0, f0, h1, e0, rfl⟩ := fits_cons h0
  obtain ⟨w0, m0, rfl, g0, b0⟩ := fits_sl f0
  obtain ⟨v0, rfl, o0⟩ := rows_list (pv := TPage.pv) (ok := TPage.ok) (by decide) g0 (by omega) TPage.of
  obtain ⟨x1, r1, n1, k1, f1, h2, e1, rfl⟩ := fits_cons h1
  obtain ⟨v1, rfl, o1⟩ := fits_i64 f1
  obtain ⟨x2, r2, n2, k2, f2, h3, e2, rfl⟩ := fits_cons h2
  obtain ⟨v2, rfl⟩ := fits_bool f2
  have := fits_nil h3; subst this
  exact ⟨⟨v0, v1, v2⟩, by subst_vars; rfl, ⟨o0, o1⟩⟩
structure TChip where
  Blocks : List TBlock
def TChip.pv (x : TChip) : List PV := [.s 3 (x.Blocks.map TBlock.pv)]
instance : FlatF TChip.pv := .mk' fun _ => rfl
structure TChip.ok (x : TChip) : Prop where
  Blocks : (∀ y ∈ x.Blocks, TBlock.ok y) ∧ x.Blocks.length ≤ Bd
def sChip : STy := .cons (.sl sBlock) .nil
theorem TChip.of (l : List PV) (m : Nat) (h0 : Fits sChip l m) (hm : m ≤ Bd) : ∃ x : TChip, l = x.pv ∧ x.ok := by
  obtain ⟨x0, r0, n0, k0, f0, h1, e0, rfl⟩ := fits_cons h0
  obtain ⟨w0, m0, rfl, g0, b0⟩ := fits_sl f0
  obtain ⟨v0, rfl, o0⟩ := rows_list (pv := TBlock.pv) (ok := TBlock.ok) (by decide) g0 (by omega) TBlock.of
  have := fits_nil h1; subst this
  exact ⟨⟨v0⟩, by subst_vars; rfl, ⟨o0⟩⟩
structure TFault where
  At : Int
  Kind : Int
  Keep : Int
def TFault.pv (x : TFault) : List PV := [.i .i64 x.At, .i .i64 x.Kind, .i .i64 x.Keep]
instance : FlatF TFault.pv := .mk' fun _ => rfl
structure TFault.ok (x : TFault) : Prop where
  At : inR x.At
  Kind : inR x.Kind
  Keep : inR x.Keep
def sFault : STy := .cons (.int .i64) (.cons (.int .i64) (.cons (.int .i64) .nil))
theorem TFault.of (l : List PV) (m : Nat) (h0 : Fits sFault l m) (hm : m ≤ Bd) : ∃ x : TFault, l = x.pv ∧ x.ok := by
  obtain ⟨x0, r0, n0, k0, f0, h1, e0, rfl⟩ := fits_cons h0
  obtain ⟨v0, rfl, o0⟩ := fits_i64 f0
  obtain ⟨x1, r1, n1, k1, f1, h2, e1, rfl⟩ := fits_cons h1
  obtain ⟨v1, rfl, o1⟩ := fits_i64 f1
  obtain ⟨x2, r2, n2, k2, f2, h3, e2, rfl⟩ := fits_cons h2
  obtain ⟨v2, rfl, o2⟩ := fits_i64 f2
  have := fits_nil h3; subst this
  exact ⟨⟨v0, v1, v2⟩, by subst_vars; rfl, ⟨o0, o1, o2⟩⟩
structure TDev where
  C : TChip
  Ops : Int
  Faults : List TFault
  Down : Bool
def TDev.pv (x : TDev) : List PV := [.s 3 (x.C.Blocks.map TBlock.pv), .i .i64 x.Ops, .s 3 (x.Faults.map TFault.pv), .b x.Down]
instance : FlatF TDev.pv := .mk' fun _ => rfl
structure TDev.ok (x : TDev) : Prop where
  C : TChip.ok x.C
  Ops : inR x.Ops
  Faults : (∀ y ∈ x.Faults, TFault.ok y) ∧ x.Faults.length ≤ Bd
def sDev : STy := .cons sChip (.cons (.int .i64) (.cons (.sl sFault) (.cons .bool .nil)))
theorem TDev.of (l : List PV) (m : Nat) (h0 : Fits sDev l m) (hm : m ≤ Bd) : ∃ x : TDev, l = x.pv ∧ x.ok := by
  obtain ⟨x0, r0, n0, k0, f0, h1, e0, rfl⟩ := fits_cons h0
  obtain ⟨v0, rfl, o0⟩ := TChip.of _ _ f0 (by omega)
  obtain ⟨x1, r1, n1, k1, f1, h2, e1, rfl⟩ := fits_cons h1
  obtain ⟨v1, rfl, o1⟩ := fits_i64 f1
  obtain ⟨x2, r2, n2, k2, f2, h3, e2, rfl⟩ := fits_cons h2
  obtain ⟨w2, m2, rfl, g2, b2⟩ := fits_sl f2
  obtain ⟨v2, rfl, o2⟩ := rows_list (pv := TFault.pv) (ok := TFault.ok) (by decide) g2 (by omega) TFault.of
  obtain ⟨x3, r3, n3, k3, f3, h4, e3, rfl⟩ := fits_cons h3
  obtain ⟨v3, rfl⟩ := fits_bool f3
  have := fits_nil h4; subst this
  exact ⟨⟨v0, v1, v2, v3⟩, by subst_vars; rfl, ⟨o0, o1, o2⟩⟩
structure TEnt where
  Name : ByteArray
  Ino : Int
def TEnt.pv (x : TEnt) : List PV := [.t x.Name, .i .i64 x.Ino]
instance : FlatF TEnt.pv := .mk' fun _ => rfl
structure TEnt.ok (x : TEnt) : Prop where
  Name : okS x.Name
  Ino : inR x.Ino
def sEnt : STy := .cons .str (.cons (.int .i64) .nil)
theorem TEnt.of (l : List PV) (m : Nat) (h0 : Fits sEnt l m) (hm : m ≤ Bd) : ∃ x : TEnt, l = x.pv ∧ x.ok := by
  obtain ⟨x0, r0, n0, k0, f0, h1, e0, rfl⟩ := fits_cons h0
  obtain ⟨v0, rfl, o0⟩ := fits_str f0
  obtain ⟨x1, r1, n1, k1, f1, h2, e1, rfl⟩ := fits_cons h1
  obtain ⟨v1, rfl, o1⟩ := fits_i64 f1
  have := fits_nil h2; subst this
  exact ⟨⟨v0, v1⟩, by subst_vars; rfl, ⟨Nat.le_trans o0 (by omega), o1⟩⟩
structure TInode where
  Ino : Int
  Kind : Int
  Links : Int
  Data : List UInt8
  Ents : List TEnt
  Attrs : List TAttr
def TInode.pv (x : TInode) : List PV := [.i .i64 x.Ino, .i .i64 x.Kind, .i .i64 x.Links, .s 1 (x.Data.map bpv), .s 2 (x.Ents.map TEnt.pv), .s 2 (x.Attrs.map TAttr.pv)]
instance : FlatF TInode.pv := .mk' fun _ => rfl
structure TInode.ok (x : TInode) : Prop where
  Ino : inR x.Ino
  Kind : inR x.Kind
  Links : inR x.Links
  Data : (∀ y ∈ x.Data, okB y) ∧ x.Data.length ≤ Bd
  Ents : (∀ y ∈ x.Ents, TEnt.ok y) ∧ x.Ents.length ≤ Bd
  Attrs : (∀ y ∈ x.Attrs, TAttr.ok y) ∧ x.Attrs.length ≤ Bd
def sInode : STy := .cons (.int .i64) (.cons (.int .i64) (.cons (.int .i64) (.cons (.sl (.int .u8)) (.cons (.sl sEnt) (.cons (.sl sAttr) .nil)))))
theorem TInode.of (l : List PV) (m : Nat) (h0 : Fits sInode l m) (hm : m ≤ Bd) : ∃ x : TInode, l = x.pv ∧ x.ok := by
  obtain ⟨x0, r0, n0, k0, f0, h1, e0, rfl⟩ := fits_cons h0
  obtain ⟨v0, rfl, o0⟩ := fits_i64 f0
  obtain ⟨x1, r1, n1, k1, f1, h2, e1, rfl⟩ := fits_cons h1
  obtain ⟨v1, rfl, o1⟩ := fits_i64 f1
  obtain ⟨x2, r2, n2, k2, f2, h3, e2, rfl⟩ := fits_cons h2
  obtain ⟨v2, rfl, o2⟩ := fits_i64 f2
  obtain ⟨x3, r3, n3, k3, f3, h4, e3, rfl⟩ := fits_cons h3
  obtain ⟨w3, m3, rfl, g3, b3⟩ := fits_sl f3
  obtain ⟨v3, rfl, o3⟩ := of_bytes g3 (by omega)
  obtain ⟨x4, r4, n4, k4, f4, h5, e4, rfl⟩ := fits_cons h4
  obtain ⟨w4, m4, rfl, g4, b4⟩ := fits_sl f4
  obtain ⟨v4, rfl, o4⟩ := rows_list (pv := TEnt.pv) (ok := TEnt.ok) (by decide) g4 (by omega) TEnt.of
  obtain ⟨x5, r5, n5, k5, f5, h6, e5, rfl⟩ := fits_cons h5
  obtain ⟨w5, m5, rfl, g5, b5⟩ := fits_sl f5
  obtain ⟨v5, rfl, o5⟩ := rows_list (pv := TAttr.pv) (ok := TAttr.ok) (by decide) g5 (by omega) TAttr.of
  have := fits_nil h6; subst this
  exact ⟨⟨v0, v1, v2, v3, v4, v5⟩, by subst_vars; rfl, ⟨o0, o1, o2, o3, o4, o5⟩⟩
structure TTab where
  Inodes : List TInode
  Next : Int
def TTab.pv (x : TTab) : List PV := [.s 6 (x.Inodes.map TInode.pv), .i .i64 x.Next]
instance : FlatF TTab.pv := .mk' fun _ => rfl
structure TTab.ok (x : TTab) : Prop where
  Inodes : (∀ y ∈ x.Inodes, TInode.ok y) ∧ x.Inodes.length ≤ Bd
  Next : inR x.Next
def sTab : STy := .cons (.sl sInode) (.cons (.int .i64) .nil)
theorem TTab.of (l : List PV) (m : Nat) (h0 : Fits sTab l m) (hm : m ≤ Bd) : ∃ x : TTab, l = x.pv ∧ x.ok := by
  obtain ⟨x0, r0, n0, k0, f0, h1, e0, rfl⟩ := fits_cons h0
  obtain ⟨w0, m0, rfl, g0, b0⟩ := fits_sl f0
  obtain ⟨v0, rfl, o0⟩ := rows_list (pv := TInode.pv) (ok := TInode.ok) (by decide) g0 (by omega) TInode.of
  obtain ⟨x1, r1, n1, k1, f1, h2, e1, rfl⟩ := fits_cons h1
  obtain ⟨v1, rfl, o1⟩ := fits_i64 f1
  have := fits_nil h2; subst this
  exact ⟨⟨v0, v1⟩, by subst_vars; rfl, ⟨o0, o1⟩⟩
structure TVol where
  Id : Int
  Name : ByteArray
  Ro : Bool
  Limit : Int
  T : TTab
def TVol.pv (x : TVol) : List PV := [.i .i64 x.Id, .t x.Name, .b x.Ro, .i .i64 x.Limit, .s 6 (x.T.Inodes.map TInode.pv), .i .i64 x.T.Next]
instance : FlatF TVol.pv := .mk' fun _ => rfl
structure TVol.ok (x : TVol) : Prop where
  Id : inR x.Id
  Name : okS x.Name
  Limit : inR x.Limit
  T : TTab.ok x.T
def sVol : STy := .cons (.int .i64) (.cons .str (.cons .bool (.cons (.int .i64) (.cons sTab .nil))))
theorem TVol.of (l : List PV) (m : Nat) (h0 : Fits sVol l m) (hm : m ≤ Bd) : ∃ x : TVol, l = x.pv ∧ x.ok := by
  obtain ⟨x0, r0, n0, k0, f0, h1, e0, rfl⟩ := fits_cons h0
  obtain ⟨v0, rfl, o0⟩ := fits_i64 f0
  obtain ⟨x1, r1, n1, k1, f1, h2, e1, rfl⟩ := fits_cons h1
  obtain ⟨v1, rfl, o1⟩ := fits_str f1
  obtain ⟨x2, r2, n2, k2, f2, h3, e2, rfl⟩ := fits_cons h2
  obtain ⟨v2, rfl⟩ := fits_bool f2
  obtain ⟨x3, r3, n3, k3, f3, h4, e3, rfl⟩ := fits_cons h3
  obtain ⟨v3, rfl, o3⟩ := fits_i64 f3
  obtain ⟨x4, r4, n4, k4, f4, h5, e4, rfl⟩ := fits_cons h4
  obtain ⟨v4, rfl, o4⟩ := TTab.of _ _ f4 (by omega)
  have := fits_nil h5; subst this
  exact ⟨⟨v0, v1, v2, v3, v4⟩, by subst_vars; rfl, ⟨o0, Nat.le_trans o1 (by omega), o3, o4⟩⟩
structure TFs where
  Vols : List TVol
  Next : Int
def TFs.pv (x : TFs) : List PV := [.s 6 (x.Vols.map TVol.pv), .i .i64 x.Next]
instance : FlatF TFs.pv := .mk' fun _ => rfl
structure TFs.ok (x : TFs) : Prop where
  Vols : (∀ y ∈ x.Vols, TVol.ok y) ∧ x.Vols.length ≤ Bd
  Next : inR x.Next
def sFs : STy := .cons (.sl sVol) (.cons (.int .i64) .nil)
theorem TFs.of (l : List PV) (m : Nat) (h0 : Fits sFs l m) (hm : m ≤ Bd) : ∃ x : TFs, l = x.pv ∧ x.ok := by
  obtain ⟨x0, r0, n0, k0, f0, h1, e0, rfl⟩ := fits_cons h0
  obtain ⟨w0, m0, rfl, g0, b0⟩ := fits_sl f0
  obtain ⟨v0, rfl, o0⟩ := rows_list (pv := TVol.pv) (ok := TVol.ok) (by decide) g0 (by omega) TVol.of
  obtain ⟨x1, r1, n1, k1, f1, h2, e1, rfl⟩ := fits_cons h1
  obtain ⟨v1, rfl, o1⟩ := fits_i64 f1
  have := fits_nil h2; subst this
  exact ⟨⟨v0, v1⟩, by subst_vars; rfl, ⟨o0, o1⟩⟩
structure TRow where
  Id : Int
  Name : ByteArray
  Ro : Bool
  Limit : Int
  Map : Int
def TRow.pv (x : TRow) : List PV := [.i .i64 x.Id, .t x.Name, .b x.Ro, .i .i64 x.Limit, .i .i64 x.Map]
instance : FlatF TRow.pv := .mk' fun _ => rfl
structure TRow.ok (x : TRow) : Prop where
  Id : inR x.Id
  Name : okS x.Name
  Limit : inR x.Limit
  Map : inR x.Map
def sRow : STy := .cons (.int .i64) (.cons .str (.cons .bool (.cons (.int .i64) (.cons (.int .i64) .nil))))
theorem TRow.of (l : List PV) (m : Nat) (h0 : Fits sRow l m) (hm : m ≤ Bd) : ∃ x : TRow, l = x.pv ∧ x.ok := by
  obtain ⟨x0, r0, n0, k0, f0, h1, e0, rfl⟩ := fits_cons h0
  obtain ⟨v0, rfl, o0⟩ := fits_i64 f0
  obtain ⟨x1, r1, n1, k1, f1, h2, e1, rfl⟩ := fits_cons h1
  obtain ⟨v1, rfl, o1⟩ := fits_str f1
  obtain ⟨x2, r2, n2, k2, f2, h3, e2, rfl⟩ := fits_cons h2
  obtain ⟨v2, rfl⟩ := fits_bool f2
  obtain ⟨x3, r3, n3, k3, f3, h4, e3, rfl⟩ := fits_cons h3
  obtain ⟨v3, rfl, o3⟩ := fits_i64 f3
  obtain ⟨x4, r4, n4, k4, f4, h5, e4, rfl⟩ := fits_cons h4
  obtain ⟨v4, rfl, o4⟩ := fits_i64 f4
  have := fits_nil h5; subst this
  exact ⟨⟨v0, v1, v2, v3, v4⟩, by subst_vars; rfl, ⟨o0, Nat.le_trans o1 (by omega), o3, o4⟩⟩
structure TTable where
  Next : Int
  Rows : List TRow
def TTable.pv (x : TTable) : List PV := [.i .i64 x.Next, .s 5 (x.Rows.map TRow.pv)]
instance : FlatF TTable.pv := .mk' fun _ => rfl
structure TTable.ok (x : TTable) : Prop where
  Next : inR x.Next
  Rows : (∀ y ∈ x.Rows, TRow.ok y) ∧ x.Rows.length ≤ Bd
def sTable : STy := .cons (.int .i64) (.cons (.sl sRow) .nil)
theorem TTable.of (l : List PV) (m : Nat) (h0 : Fits sTable l m) (hm : m ≤ Bd) : ∃ x : TTable, l = x.pv ∧ x.ok := by
  obtain ⟨x0, r0, n0, k0, f0, h1, e0, rfl⟩ := fits_cons h0
  obtain ⟨v0, rfl, o0⟩ := fits_i64 f0
  obtain ⟨x1, r1, n1, k1, f1, h2, e1, rfl⟩ := fits_cons h1
  obtain ⟨w1, m1, rfl, g1, b1⟩ := fits_sl f1
  obtain ⟨v1, rfl, o1⟩ := rows_list (pv := TRow.pv) (ok := TRow.ok) (by decide) g1 (by omega) TRow.of
  have := fits_nil h2; subst this
  exact ⟨⟨v0, v1⟩, by subst_vars; rfl, ⟨o0, o1⟩⟩
structure TPlace where
  Ino : Int
  Addr : Int
def TPlace.pv (x : TPlace) : List PV := [.i .i64 x.Ino, .i .i64 x.Addr]
instance : FlatF TPlace.pv := .mk' fun _ => rfl
structure TPlace.ok (x : TPlace) : Prop where
  Ino : inR x.Ino
  Addr : inR x.Addr
def sPlace : STy := .cons (.int .i64) (.cons (.int .i64) .nil)
theorem TPlace.of (l : List PV) (m : Nat) (h0 : Fits sPlace l m) (hm : m ≤ Bd) : ∃ x : TPlace, l = x.pv ∧ x.ok := by
  obtain ⟨x0, r0, n0, k0, f0, h1, e0, rfl⟩ := fits_cons h0
  obtain ⟨v0, rfl, o0⟩ := fits_i64 f0
  obtain ⟨x1, r1, n1, k1, f1, h2, e1, rfl⟩ := fits_cons h1
  obtain ⟨v1, rfl, o1⟩ := fits_i64 f1
  have := fits_nil h2; subst this
  exact ⟨⟨v0, v1⟩, by subst_vars; rfl, ⟨o0, o1⟩⟩
structure TMap where
  Next : Int
  Places : List TPlace
def TMap.pv (x : TMap) : List PV := [.i .i64 x.Next, .s 2 (x.Places.map TPlace.pv)]
instance : FlatF TMap.pv := .mk' fun _ => rfl
structure TMap.ok (x : TMap) : Prop where
  Next : inR x.Next
  Places : (∀ y ∈ x.Places, TPlace.ok y) ∧ x.Places.length ≤ Bd
def sMap : STy := .cons (.int .i64) (.cons (.sl sPlace) .nil)
theorem TMap.of (l : List PV) (m : Nat) (h0 : Fits sMap l m) (hm : m ≤ Bd) : ∃ x : TMap, l = x.pv ∧ x.ok := by
  obtain ⟨x0, r0, n0, k0, f0, h1, e0, rfl⟩ := fits_cons h0
  obtain ⟨v0, rfl, o0⟩ := fits_i64 f0
  obtain ⟨x1, r1, n1, k1, f1, h2, e1, rfl⟩ := fits_cons h1
  obtain ⟨w1, m1, rfl, g1, b1⟩ := fits_sl f1
  obtain ⟨v1, rfl, o1⟩ := rows_list (pv := TPlace.pv) (ok := TPlace.ok) (by decide) g1 (by omega) TPlace.of
  have := fits_nil h2; subst this
  exact ⟨⟨v0, v1⟩, by subst_vars; rfl, ⟨o0, o1⟩⟩
structure TImage where
  F : TFs
  T : TTable
  Maps : List TMap
  At : Int
  Root : Int
def TImage.pv (x : TImage) : List PV := [.s 6 (x.F.Vols.map TVol.pv), .i .i64 x.F.Next, .i .i64 x.T.Next, .s 5 (x.T.Rows.map TRow.pv), .s 2 (x.Maps.map TMap.pv), .i .i64 x.At, .i .i64 x.Root]
instance : FlatF TImage.pv := .mk' fun _ => rfl
structure TImage.ok (x : TImage) : Prop where
  F : TFs.ok x.F
  T : TTable.ok x.T
  Maps : (∀ y ∈ x.Maps, TMap.ok y) ∧ x.Maps.length ≤ Bd
  At : inR x.At
  Root : inR x.Root
def sImage : STy := .cons sFs (.cons sTable (.cons (.sl sMap) (.cons (.int .i64) (.cons (.int .i64) .nil))))
theorem TImage.of (l : List PV) (m : Nat) (h0 : Fits sImage l m) (hm : m ≤ Bd) : ∃ x : TImage, l = x.pv ∧ x.ok := by
  obtain ⟨x0, r0, n0, k0, f0, h1, e0, rfl⟩ := fits_cons h0
  obtain ⟨v0, rfl, o0⟩ := TFs.of _ _ f0 (by omega)
  obtain ⟨x1, r1, n1, k1, f1, h2, e1, rfl⟩ := fits_cons h1
  obtain ⟨v1, rfl, o1⟩ := TTable.of _ _ f1 (by omega)
  obtain ⟨x2, r2, n2, k2, f2, h3, e2, rfl⟩ := fits_cons h2
  obtain ⟨w2, m2, rfl, g2, b2⟩ := fits_sl f2
  obtain ⟨v2, rfl, o2⟩ := rows_list (pv := TMap.pv) (ok := TMap.ok) (by decide) g2 (by omega) TMap.of
  obtain ⟨x3, r3, n3, k3, f3, h4, e3, rfl⟩ := fits_cons h3
  obtain ⟨v3, rfl, o3⟩ := fits_i64 f3
  obtain ⟨x4, r4, n4, k4, f4, h5, e4, rfl⟩ := fits_cons h4
  obtain ⟨v4, rfl, o4⟩ := fits_i64 f4
  have := fits_nil h5; subst this
  exact ⟨⟨v0, v1, v2, v3, v4⟩, by subst_vars; rfl, ⟨o0, o1, o2, o3, o4⟩⟩
structure TLog where
  D : TDev
  Seq : Int
def TLog.pv (x : TLog) : List PV := [.s 3 (x.D.C.Blocks.map TBlock.pv), .i .i64 x.D.Ops, .s 3 (x.D.Faults.map TFault.pv), .b x.D.Down, .i .i64 x.Seq]
instance : FlatF TLog.pv := .mk' fun _ => rfl
structure TLog.ok (x : TLog) : Prop where
  D : TDev.ok x.D
  Seq : inR x.Seq
def sLog : STy := .cons sDev (.cons (.int .i64) .nil)
theorem TLog.of (l : List PV) (m : Nat) (h0 : Fits sLog l m) (hm : m ≤ Bd) : ∃ x : TLog, l = x.pv ∧ x.ok := by
  obtain ⟨x0, r0, n0, k0, f0, h1, e0, rfl⟩ := fits_cons h0
  obtain ⟨v0, rfl, o0⟩ := TDev.of _ _ f0 (by omega)
  obtain ⟨x1, r1, n1, k1, f1, h2, e1, rfl⟩ := fits_cons h1
  obtain ⟨v1, rfl, o1⟩ := fits_i64 f1
  have := fits_nil h2; subst this
  exact ⟨⟨v0, v1⟩, by subst_vars; rfl, ⟨o0, o1⟩⟩
structure TEng where
  F : TFs
  M : TImage
  L : TLog
def TEng.pv (x : TEng) : List PV := [.s 6 (x.F.Vols.map TVol.pv), .i .i64 x.F.Next, .s 6 (x.M.F.Vols.map TVol.pv), .i .i64 x.M.F.Next, .i .i64 x.M.T.Next, .s 5 (x.M.T.Rows.map TRow.pv), .s 2 (x.M.Maps.map TMap.pv), .i .i64 x.M.At, .i .i64 x.M.Root, .s 3 (x.L.D.C.Blocks.map TBlock.pv), .i .i64 x.L.D.Ops, .s 3 (x.L.D.Faults.map TFault.pv), .b x.L.D.Down, .i .i64 x.L.Seq]
instance : FlatF TEng.pv := .mk' fun _ => rfl
structure TEng.ok (x : TEng) : Prop where
  F : TFs.ok x.F
  M : TImage.ok x.M
  L : TLog.ok x.L
def sEng : STy := .cons sFs (.cons sImage (.cons sLog .nil))
theorem TEng.of (l : List PV) (m : Nat) (h0 : Fits sEng l m) (hm : m ≤ Bd) : ∃ x : TEng, l = x.pv ∧ x.ok := by
  obtain ⟨x0, r0, n0, k0, f0, h1, e0, rfl⟩ := fits_cons h0
  obtain ⟨v0, rfl, o0⟩ := TFs.of _ _ f0 (by omega)
  obtain ⟨x1, r1, n1, k1, f1, h2, e1, rfl⟩ := fits_cons h1
  obtain ⟨v1, rfl, o1⟩ := TImage.of _ _ f1 (by omega)
  obtain ⟨x2, r2, n2, k2, f2, h3, e2, rfl⟩ := fits_cons h2
  obtain ⟨v2, rfl, o2⟩ := TLog.of _ _ f2 (by omega)
  have := fits_nil h3; subst this
  exact ⟨⟨v0, v1, v2⟩, by subst_vars; rfl, ⟨o0, o1, o2⟩⟩
end Go.Proofs.YtblelojdboefjaaGreat.R
