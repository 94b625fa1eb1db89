/- The tables are the program's. Printed by gentok.py. -/
import Derived.Test.YtblelojdboefjaaGreatLy
import Derived.Test.YtblelojdboefjaaGreatV
import Derived.Test.YtblelojdboefjaaGreatM7
namespace Go.Proofs.YtblelojdboefjaaGreat.R
open Go
set_option maxRecDepth 100000
set_option linter.unusedVariables false
set_option linter.unusedSimpArgs false
theorem tok_sl : ∀ t e, tsl t = some e → Tryz.prog.underlying t = some (.slice e) := by
  intro t e h
  unfold tsl at h
  split at h
  all_goals first | (injection h with h; subst h; kernel_rfl) | (simp at h)
theorem tok_sz : ∀ t n, tsz t = some n → ∃ i, Tryz.prog.info? t = some i ∧ i.size = n := by
  intro t e h
  unfold tsz at h
  split at h
  all_goals first | (injection h with h; subst h; exact info_size (by kernel_rfl)) | (simp at h)
theorem tok_by : ∀ t n, tby t = some n → ∃ i, Tryz.prog.info? t = some i ∧ i.bytes = n := by
  intro t e h
  unfold tby at h
  split at h
  all_goals first | (injection h with h; subst h; exact info_bytes (by kernel_rfl)) | (simp at h)
theorem tok_ag1 : ∀ t, tag t = some true → ∃ fs, Tryz.prog.underlying t = some (.struct fs) := by
  intro t h
  unfold tag at h
  split at h
  all_goals first | (simp at h; done) | exact struct_of (by kernel_rfl)
theorem tok_ag0 : ∀ t, tag t = some false → ∃ d, Tryz.prog.underlying t = some d ∧ isAgB d = false := by
  intro t h
  unfold tag at h
  split at h
  all_goals first | (simp at h; done) | exact flat_desc (by kernel_rfl)
theorem tok_fi : ∀ t fs, tag t = some true → Tryz.prog.underlying t = some (.struct fs) → ∀ fl ∈ fs, ∃ i, Tryz.prog.info? fl.type = some i := by
  intro t fs h
  unfold tag at h
  split at h
  all_goals first | (simp at h; done) | exact infos_of (by kernel_rfl)
theorem tok_zr : ∀ t l, tzr t = some l → ∃ i v, Tryz.prog.info? t = some i ∧ i.zero = some v ∧ v.cells.toList = l.map PV.val ∧ (∀ p ∈ l, p.scalar = true ∨ ∃ es, p = .s es []) := by
  intro t e h
  unfold tzr at h
  split at h
  all_goals first | (injection h with h; subst h; exact zero_of (by kernel_rfl) (by kernel_rfl)) | (simp at h)
theorem tok_fs : ∀ t, tfs t = [] ∨ fieldsL Tryz.prog t = tfs t := by
  intro t
  unfold tfs
  split
  all_goals first | (left; rfl) | (right; kernel_rfl)
theorem tok_fo : ∀ t f d, tfo t f = some d → ∃ fs fl i, Tryz.prog.underlying t = some (.struct fs) ∧ fs[f]? = some fl ∧ fl.offset = d ∧ Tryz.prog.info? fl.type = some i ∧ i.size ≠ 0 := by
  intro t f d h
  unfold tfo at h
  obtain ⟨⟨a, n⟩, h1, h2⟩ := some_bind h
  simp only at h2
  split at h2
  · simp at h2
  · rename_i hn
    injection h2 with h2; subst h2
    obtain ⟨fs, fl, i, g1, g2, g3, g4, g5⟩ := fieldsL_of (tok_fs t) h1 hn
    exact ⟨fs, fl, i, g1, g2, g3, g4, by rw [g5]; exact hn⟩
theorem tok_fz : ∀ t f n, tfz t f = some n → ∃ fs fl i, Tryz.prog.underlying t = some (.struct fs) ∧ fs[f]? = some fl ∧ Tryz.prog.info? fl.type = some i ∧ i.size = n := by
  intro t f d h
  unfold tfz at h
  obtain ⟨⟨a, n⟩, h1, h2⟩ := some_bind h
  simp only at h2
  split at h2
  · simp at h2
  · rename_i hn
    injection h2 with h2; subst h2
    obtain ⟨fs, fl, i, g1, g2, g3, g4, g5⟩ := fieldsL_of (tok_fs t) h1 hn
    exact ⟨fs, fl, i, g1, g2, g4, g5⟩
theorem tok_ik : ∀ t k, tik t = some k → Tryz.prog.underlying t = some (.int k) := by
  intro t e h
  unfold tik at h
  split at h
  all_goals first | (injection h with h; subst h; kernel_rfl) | (simp at h)
theorem tok_str : ∀ t, tst t = true → Tryz.prog.underlying t = some .string := by
  intro t h
  unfold tst at h
  split at h
  all_goals first | (simp at h; done) | kernel_rfl
theorem tok_boo : ∀ t, tbo t = true → Tryz.prog.underlying t = some .bool := by
  intro t h
  unfold tbo at h
  split at h
  all_goals first | (simp at h; done) | kernel_rfl
theorem tok0 : TOk Tryz.prog { tys with so := fun _ => none } := ⟨tok_sl, tok_sz, tok_by, tok_ag1, tok_ag0, tok_zr, tok_fo, tok_fz, tok_fi, tok_ik, tok_str, tok_boo, fun g h e => by simp at e⟩
theorem tok_so : ∀ g h, sos g = some h → StOrcOk Tryz.prog g h := by
  intro g h e
  unfold sos at e
  split at e
  · injection e with e; subst e
    exact sortInt_ok Tryz.lays189 (fn := Tryz.f37) (by kernel_rfl) (by kernel_rfl) rfl
  · injection e with e; subst e
    exact compactInt_ok Tryz.laysNm220 (fn := Tryz.f39) (by kernel_rfl) (by kernel_rfl) rfl
  · injection e with e; subst e
    exact grow_ok tok0 Tryz.laysNm84 (z := [.i .i64 0]) rfl rfl rfl (by decide) rfl (fn := Tryz.f62) (by kernel_rfl) (by kernel_rfl) rfl
  · simp at e
theorem mixed : Tryz.prog.follows .mixedOrders = true := by kernel_rfl
theorem tok : TOk Tryz.prog tys := ⟨tok_sl, tok_sz, tok_by, tok_ag1, tok_ag0, tok_zr, tok_fo, tok_fz, tok_fi, tok_ik, tok_str, tok_boo, tok_so⟩
theorem envok : EnvOk Tryz.prog env := by
  intro f fn h
  simp only [env, fns] at h
  split at h
  all_goals first | (injection h with h; subst h; exact func_of (by kernel_rfl) (by kernel_rfl)) | (simp at h)
theorem orcok : OrcOk Tryz.prog env := by
  intro f g call h hc args bs r hr
  simp only [env, orcs] at h
  split at h
  · injection h with h; subst h
    exact clone_ok tok mixed hc (fn := Tryz.f76) (ty := 77) (bt := 4) (by kernel_rfl) (by kernel_rfl) (by kernel_rfl) (by kernel_rfl) (by kernel_rfl) (by rfl) (by rfl) (by rfl) (by rfl) (by rfl) (by decide) hr
  · simp at h
end Go.Proofs.YtblelojdboefjaaGreat.R
