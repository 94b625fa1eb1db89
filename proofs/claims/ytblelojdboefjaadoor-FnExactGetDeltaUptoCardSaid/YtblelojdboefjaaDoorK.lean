/- The tables are the program's. Printed by gentok.py. -/
import Derived.Test.YtblelojdboefjaaDoorV
import Derived.Test.YtblelojdboefjaaDoorM7
namespace Go.Proofs.YtblelojdboefjaaDoor.R
open Go
set_option maxRecDepth 100000
set_option linter.unusedVariables false
set_option linter.unusedSimpArgs false
theorem tok_sl : ∀ t e, tsl t = some e → Tryd.prog.underlying t = some (.slice e) := by
  intro t e h
  unfold tsl at h
  split at h
  all_goals first | (injection h with h; subst h; kernel_rfl) | (simp at h)
theorem tok_sz : ∀ t n, tsz t = some n → ∃ i, Tryd.prog.info? t = some i ∧ i.size = n := by
  intro t e h
  unfold tsz at h
  split at h
  all_goals first | (injection h with h; subst h; exact info_size (by kernel_rfl)) | (simp at h)
theorem tok_by : ∀ t n, tby t = some n → ∃ i, Tryd.prog.info? t = some i ∧ i.bytes = n := by
  intro t e h
  unfold tby at h
  split at h
  all_goals first | (injection h with h; subst h; exact info_bytes (by kernel_rfl)) | (simp at h)
theorem tok_ag1 : ∀ t, tag t = some true → ∃ fs, Tryd.prog.underlying t = some (.struct fs) := by
  intro t h
  unfold tag at h
  split at h
  all_goals first | (simp at h; done) | exact struct_of (by kernel_rfl)
theorem tok_ag0 : ∀ t, tag t = some false → ∃ d, Tryd.prog.underlying t = some d ∧ isAgB d = false := by
  intro t h
  unfold tag at h
  split at h
  all_goals first | (simp at h; done) | exact flat_desc (by kernel_rfl)
theorem tok_fi : ∀ t fs, tag t = some true → Tryd.prog.underlying t = some (.struct fs) → ∀ fl ∈ fs, ∃ i, Tryd.prog.info? fl.type = some i := by
  intro t fs h
  unfold tag at h
  split at h
  all_goals first | (simp at h; done) | exact infos_of (by kernel_rfl)
theorem tok_zr : ∀ t l, tzr t = some l → ∃ i v, Tryd.prog.info? t = some i ∧ i.zero = some v ∧ v.cells.toList = l.map PV.val ∧ (∀ p ∈ l, p.scalar = true ∨ ∃ es, p = .s es []) := by
  intro t e h
  unfold tzr at h
  split at h
  all_goals first | (injection h with h; subst h; exact zero_of (by kernel_rfl) (by kernel_rfl)) | (simp at h)
theorem tok_fs : ∀ t, tfs t = [] ∨ fieldsL Tryd.prog t = tfs t := by
  intro t
  unfold tfs
  split
  all_goals first | (left; rfl) | (right; kernel_rfl)
theorem tok_fo : ∀ t f d, tfo t f = some d → ∃ fs fl i, Tryd.prog.underlying t = some (.struct fs) ∧ fs[f]? = some fl ∧ fl.offset = d ∧ Tryd.prog.info? fl.type = some i ∧ i.size ≠ 0 := by
  intro t f d h
  unfold tfo at h
  obtain ⟨⟨a, n⟩, h1, h2⟩ := some_bind h
  simp only at h2
  split at h2
  · simp at h2
  · rename_i hn
    injection h2 with h2; subst h2
    obtain ⟨fs, fl, i, g1, g2, g3, g4, g5⟩ := fieldsL_of (tok_fs t) h1 hn
    exact ⟨fs, fl, i, g1, g2, g3, g4, by rw [g5]; exact hn⟩
theorem tok_fz : ∀ t f n, tfz t f = some n → ∃ fs fl i, Tryd.prog.underlying t = some (.struct fs) ∧ fs[f]? = some fl ∧ Tryd.prog.info? fl.type = some i ∧ i.size = n := by
  intro t f d h
  unfold tfz at h
  obtain ⟨⟨a, n⟩, h1, h2⟩ := some_bind h
  simp only at h2
  split at h2
  · simp at h2
  · rename_i hn
    injection h2 with h2; subst h2
    obtain ⟨fs, fl, i, g1, g2, g3, g4, g5⟩ := fieldsL_of (tok_fs t) h1 hn
    exact ⟨fs, fl, i, g1, g2, g4, g5⟩
theorem tok_ik : ∀ t k, tik t = some k → Tryd.prog.underlying t = some (.int k) := by
  intro t e h
  unfold tik at h
  split at h
  all_goals first | (injection h with h; subst h; kernel_rfl) | (simp at h)
theorem tok_str : ∀ t, tst t = true → Tryd.prog.underlying t = some .string := by
  intro t h
  unfold tst at h
  split at h
  all_goals first | (simp at h; done) | kernel_rfl
theorem tok_boo : ∀ t, tbo t = true → Tryd.prog.underlying t = some .bool := by
  intro t h
  unfold tbo at h
  split at h
  all_goals first | (simp at h; done) | kernel_rfl
theorem tok0 : TOk Tryd.prog { tys with so := fun _ => none } := ⟨tok_sl, tok_sz, tok_by, tok_ag1, tok_ag0, tok_zr, tok_fo, tok_fz, tok_fi, tok_ik, tok_str, tok_boo, fun g h e => by simp at e⟩
theorem tok_so : ∀ g h, sos g = some h → StOrcOk Tryd.prog g h := by
  intro g h e
  unfold sos at e
  simp at e
theorem mixed : Tryd.prog.follows .mixedOrders = true := by kernel_rfl
theorem tok : TOk Tryd.prog tys := ⟨tok_sl, tok_sz, tok_by, tok_ag1, tok_ag0, tok_zr, tok_fo, tok_fz, tok_fi, tok_ik, tok_str, tok_boo, tok_so⟩
theorem envok : EnvOk Tryd.prog env := by
  intro f fn h
  simp only [env, fns] at h
  split at h
  all_goals first | (injection h with h; subst h; exact func_of (by kernel_rfl) (by kernel_rfl)) | (simp at h)
theorem orcok : OrcOk Tryd.prog env := by
  intro f g call h hc args bs r hr
  simp only [env, orcs] at h
  split at h
  · injection h with h; subst h
    exact byteOrc_ok (count_run Tryd.func92 (by kernel_rfl) (by kernel_rfl) (by kernel_rfl) (by kernel_rfl)) hr
  · injection h with h; subst h
    exact byteOrc_ok (index_run Tryd.func99 (by kernel_rfl) (by kernel_rfl) (by kernel_rfl) (by kernel_rfl)) hr
  · injection h with h; subst h
    exact clone_ok tok mixed hc (fn := Tryd.f64) (ty := 28) (bt := 4) (by kernel_rfl) (by kernel_rfl) (by kernel_rfl) (by kernel_rfl) (by kernel_rfl) (by rfl) (by rfl) (by rfl) (by rfl) (by rfl) (by decide) (by rfl) hr
  · simp at h
end Go.Proofs.YtblelojdboefjaaDoor.R
