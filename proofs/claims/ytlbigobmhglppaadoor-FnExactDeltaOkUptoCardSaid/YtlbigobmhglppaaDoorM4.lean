/- Functions of Go's library without a body: what they answer is told. -/
import Derived.Test.YtlbigobmhglppaaDoorM3
import Derived.Laws.Externs
import Derived.Lib.Bytealg
set_option linter.unusedVariables false
set_option linter.unusedSimpArgs false
namespace Go.Proofs.YtlbigobmhglppaaDoor.R
open Go

/-- A function of a text and a byte that answers a whole number. -/
def byteOrc (h : ByteArray → Int → Int) : CallF → List SV → List (List CV) → Option Ret := fun _ args bs =>
  match args, bs with
  | [.c .one [.sh _ (.t s)], .c .one [.sh _ (.i .u8 c)]], [] => some ⟨pvSV (.i .i64 (h s c)), []⟩
  | _, _ => none

theorem byteOrc_ok {P : Program} {f : FuncId} {h : ByteArray → Int → Int} (hf : ∀ (s : ByteArray) (c : Int) (w : World), (callFunc f #[.string s, .int .u8 c]).run P w = .ok (.value (.int .i64 (h s c))) w) {call : CallF} {args : List SV} {bs : List (List CV)} {r : Ret} (hr : byteOrc h call args bs = some r) :
    ∃ N, args.length ≤ N ∧ ∀ (X : Ctx) (argv gv : List Value), argv.length = args.length → Good X (argv ++ List.replicate (N - args.length) undef ++ gv) (args.map (shiftSV N) ++ List.replicate (N - args.length) .undef ++ bs.map (.c .box)) NoE →
      Lands P f argv.toArray X.w fun v w' => ∃ X', X'.w = w' ∧ Goes X X' ∧ Good X' (v :: gv) (r.res :: r.boxes.map (.c .box)) NoE := by
  unfold byteOrc at hr
  split at hr
  · rename_i x1 s x2 c
    injection hr with hr; subst hr
    refine ⟨2, Nat.le_refl _, fun X argv gv hl hg => ?_⟩
    match argv, hl with
    | [v1, v2], _ =>
      simp only [List.length_cons, List.length_nil, Nat.sub_self, List.replicate_zero, List.append_nil, List.map_nil, List.map_cons, shiftSV] at hg
      have hgv : gv = [] := by
        have := hg.frame.1
        simp at this
        exact this
      subst hgv
      have h1 := hg.frame.2 0 v1 _ rfl rfl
      have h2 := hg.frame.2 1 v2 _ rfl rfl
      have e1 : v1 = .string s := by
        cases h1 with
        | c _ _ vs _ hfl hc =>
          cases hfl with
          | one _ _ =>
            cases hc with
            | cons _ _ _ _ _ hc _ =>
              cases hc with
              | sh _ _ _ hrd => cases hrd; rfl
      have e2 : v2 = .int .u8 c := by
        cases h2 with
        | c _ _ vs _ hfl hc =>
          cases hfl with
          | one _ _ =>
            cases hc with
            | cons _ _ _ _ _ hc _ =>
              cases hc with
              | sh _ _ _ hrd => cases hrd; rfl
      subst e1; subst e2
      unfold Lands
      rw [hf s c X.w]
      refine ⟨X, rfl, .refl X, hg.inv, ⟨rfl, fun k v sv hv hs => ?_⟩, fun b s p base tip ho => ?_, fun b s base tip ho => ?_⟩
      · cases k with
        | zero =>
          simp only [List.getElem?_cons_zero] at hv hs
          injection hv with hv; subst hv; injection hs with hs; subst hs
          exact .c .one _ [_] _ (.one _ (fun cs h => by cases h)) (.cons _ _ _ _ _ (.sh _ _ _ (.i _ _)) (.nil _))
        | succ k => simp at hv
      · rcases hg.tags.cell b s p base tip ho with h | h
        · exact h.elim
        · exfalso
          match s, h with
          | 0, h => cases p <;> simp [cellAt, CV.isOw] at h
          | 1, h => cases p <;> simp [cellAt, CV.isOw] at h
          | s + 2, h => simp [cellAt, CV.isOw] at h
      · obtain ⟨l, h⟩ := hg.tags.box b s base tip ho
        exfalso
        match s, h with
        | 0, h => simp at h
        | 1, h => simp at h
        | s + 2, h => simp at h
  · simp at hr

theorem count_run {P : Program} {f : FuncId} {fn : Func} (hf : P.funcs[f]? = some fn) (hname : (fn.name == "runtime.NumGoroutine") = false) (hb : fn.body.isNone = true) (hn : Extern.findNext fn = none) (he : Extern.find fn = some Extern.BytealgCount.count) (s : ByteArray) (c : Int) (w : World) :
    (callFunc f #[.string s, .int .u8 c]).run P w = .ok (.value (.int .i64 (Lib.countByte s.data.toList c.toNat.toUInt8))) w := by
  rw [run_callFunc_extern hf hname hb hn he, Lib.run_countString]; rfl
theorem index_run {P : Program} {f : FuncId} {fn : Func} (hf : P.funcs[f]? = some fn) (hname : (fn.name == "runtime.NumGoroutine") = false) (hb : fn.body.isNone = true) (hn : Extern.findNext fn = none) (he : Extern.find fn = some Extern.BytealgIndexByte.indexByte) (s : ByteArray) (c : Int) (w : World) :
    (callFunc f #[.string s, .int .u8 c]).run P w = .ok (.value (.int .i64 (Lib.indexByte s.data.toList c.toNat.toUInt8))) w := by
  rw [run_callFunc_extern hf hname hb hn he, Lib.run_indexByteString]; rfl

end Go.Proofs.YtlbigobmhglppaaDoor.R
