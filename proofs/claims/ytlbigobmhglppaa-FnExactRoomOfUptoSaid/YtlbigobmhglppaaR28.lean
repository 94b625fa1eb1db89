/- Operations in whatever order: the trace of the operations one by one. -/
import Derived.Test.YtlbigobmhglppaaR27
set_option linter.unusedVariables false
set_option linter.unusedSimpArgs false
namespace Go.Proofs.Ytlbigobmhglppaa.R
open Go

theorem opd_congr {T : Tys} {N : Nat} {ty : TypeId} {σ σ' : St} {x : Operand} (h : ∀ t, x = .tmp t → σ.getD t .undef = σ'.getD t .undef) : opd T N ty σ x = opd T N ty σ' x := by
  cases x with
  | tmp t => simp only [opd, h t rfl]
  | _ => rfl

theorem loadSV_congr {T : Tys} {σ σ' : St} {t : TypeId} {x v : SV} (hb : ∀ s l, σ.getD s .undef = .c .box l → σ'.getD s .undef = .c .box l) (h : loadSV T σ t x = some v) : loadSV T σ' t x = some v := by
  unfold loadSV at h ⊢
  obtain ⟨n, h1, h⟩ := some_bind h
  obtain ⟨a, h2, h⟩ := some_bind h
  rw [h1, h2]
  simp only [Option.bind_some]
  split at h
  · simp at h
  · rename_i hc
    rw [if_neg hc]
    simp only at h ⊢
    cases x with
    | bp s o =>
      simp only at h ⊢
      cases e : σ.getD s .undef with
      | c sh l =>
        cases sh with
        | box => rw [e] at h; rw [hb s l e]; exact h
        | _ => rw [e] at h; simp at h
      | _ => rw [e] at h; simp at h
    | _ => exact h

theorem pureOp_congr {E : Env} {call : CallF} {N : Nat} {o : Oper} {σ σ' : St} (h : ∀ x ∈ o.op.operands, opd E.T N o.type σ x = opd E.T N o.type σ' x) (hb : ∀ s l, σ.getD s .undef = .c .box l → σ'.getD s .undef = .c .box l) {v : SV} (hp : pureOp E call N o σ = some v) : pureOp E call N o σ' = some v := by
  unfold pureOp at hp ⊢
  cases hop : o.op with
  | move x => simp only [hop] at hp ⊢; rw [← h x (by simp [hop, Op.operands])]; exact hp
  | assign x => simp only [hop] at hp ⊢; rw [← h x (by simp [hop, Op.operands])]; exact hp
  | pick c a b => simp only [hop] at hp ⊢; rw [← h c (by simp [hop, Op.operands]), ← h a (by simp [hop, Op.operands]), ← h b (by simp [hop, Op.operands])]; exact hp
  | binOp op t x y k => simp only [hop] at hp ⊢; rw [← h x (by simp [hop, Op.operands]), ← h y (by simp [hop, Op.operands])]; exact hp
  | unOp op t x => simp only [hop] at hp ⊢; rw [← h x (by simp [hop, Op.operands])]; exact hp
  | convert s d x => simp only [hop] at hp ⊢; rw [← h x (by simp [hop, Op.operands])]; exact hp
  | fieldAddr t x f => simp only [hop] at hp ⊢; rw [← h x (by simp [hop, Op.operands])]; exact hp
  | indexAddr t x i => simp only [hop] at hp ⊢; rw [← h x (by simp [hop, Op.operands]), ← h i (by simp [hop, Op.operands])]; exact hp
  | index t x i => simp only [hop] at hp ⊢; rw [← h x (by simp [hop, Op.operands]), ← h i (by simp [hop, Op.operands])]; exact hp
  | load t x => simp only [hop] at hp ⊢; rw [← h x (by simp [hop, Op.operands])]; exact loadSV_congr hb hp
  | extract x i => simp only [hop] at hp ⊢; rw [← h x (by simp [hop, Op.operands])]; exact hp
  | slice t x lo hi mx =>
    simp only [hop] at hp ⊢
    have hx := h x (by simp [hop, Op.operands])
    have hlo : lo.map (opd E.T N o.type σ) = lo.map (opd E.T N o.type σ') := by
      cases lo with
      | none => rfl
      | some y => simp only [Option.map_some]; rw [h y (by simp [hop, Op.operands])]
    have hhi : hi.map (opd E.T N o.type σ) = hi.map (opd E.T N o.type σ') := by
      cases hi with
      | none => rfl
      | some y => simp only [Option.map_some]; rw [h y (by simp [hop, Op.operands])]
    cases mx with
    | none => simp only at hp ⊢; rw [← hx, ← hlo, ← hhi]; exact hp
    | some m => simp at hp
  | nilCheck x => simp only [hop] at hp ⊢; rw [← h x (by simp [hop, Op.operands])]; exact hp
  | build t ps =>
    simp only [hop] at hp ⊢
    have : (ps.toList.map fun p => (p.1, opd E.T N o.type σ p.2)) = ps.toList.map fun p => (p.1, opd E.T N o.type σ' p.2) := List.map_congr_left fun p hm => by
      rw [h p.2 (by simp [hop, Op.operands]; exact ⟨p.1, by simpa using hm⟩)]
    rw [← this]; exact hp
  | makeFunc fn first caps =>
    simp only [hop] at hp ⊢
    have : ∀ l : List Operand, (∀ x ∈ l, x ∈ caps) → (l.mapM fun x => slotOf (opd E.T N o.type σ x)) = (l.mapM fun x => slotOf (opd E.T N o.type σ' x)) := by
      intro l
      induction l with
      | nil => intro _; rfl
      | cons y l ih =>
        intro hl
        simp only [List.mapM_cons]
        rw [h y (by simp only [hop, Op.operands]; exact Array.mem_append.2 (.inr (hl y (by simp)))), ih fun z hz => hl z (by simp [hz])]
    cases fn with
    | func g => simp only at hp ⊢; rw [← this caps.toList fun x hx => by simpa using hx]; exact hp
    | _ => simp at hp
  | makeSlice t n m => simp only [hop] at hp ⊢; rw [← h n (by simp [hop, Op.operands]), ← h m (by simp [hop, Op.operands])]; exact hp
  | buildSlice t n ps =>
    simp only [hop] at hp ⊢
    have : (ps.toList.map fun p => (p.1, opd E.T N o.type σ p.2)) = ps.toList.map fun p => (p.1, opd E.T N o.type σ' p.2) := List.map_congr_left fun p hm => by
      rw [h p.2 (by simp [hop, Op.operands]; exact ⟨p.1, by simpa using hm⟩)]
    rw [← this]; exact hp
  | call c =>
    simp only [hop] at hp ⊢
    have hx : c.args.toList.map (opd E.T N o.type σ) = c.args.toList.map (opd E.T N o.type σ') := List.map_congr_left fun x hm => by
      rw [h x ?_]
      simp only [hop, Op.operands, Call.operands]
      have hm' : x ∈ c.args := by simpa using hm
      cases c.callee <;> simp [hm']
    have hx' : (c.args.toList.map fun x => opd E.T N o.type σ' x) = c.args.toList.map fun x => opd E.T N o.type σ x := hx.symm
    cases hc : c.callee with
    | value f =>
      have hf := h f (by simp [hop, Op.operands, Call.operands, hc])
      simp only [hc] at hp ⊢
      rw [hx', ← hf]; exact hp
    | builtin b =>
      simp only [hc] at hp ⊢
      cases b <;> first
        | (simp only at hp ⊢; rw [hx']; exact hp)
        | simp at hp
    | invoke r m => simp only [hc] at hp; simp at hp
  | _ => simp [hop] at hp

theorem pureOp_notSelect {E : Env} {call : CallF} {N : Nat} {o : Oper} {σ : St} {v : SV} (hp : pureOp E call N o σ = some v) : ∀ cs b, o.op ≠ .select cs b := fun cs b e => by
  unfold pureOp at hp; simp [e] at hp

theorem wantedSt_congr {N : Nat} {ops : Array Oper} {o : Oper} {σ σ' : St} (h : ∀ t, t ∈ (match o.guard with | some (g, _) => ((ops[g]?).bind (·.dst)).toList | none => []) → σ.getD t .undef = σ'.getD t .undef) : wantedSt N ops o σ = wantedSt N ops o σ' := by
  unfold wantedSt
  split
  · rfl
  · rename_i j want hg
    simp only [hg] at h
    cases e : (ops[j]?).bind (·.dst) with
    | none => simp only [e, Option.bind_none]
    | some t =>
      simp only [e, Option.bind_some]
      rw [h t (by simp [e])]

/-- The operations one by one, from k on. -/
structure Trace (E : Env) (call : CallF) (N : Nat) (ops : Array Oper) (k n : Nat) (τ : Nat → St) : Prop where
  step : ∀ i, k ≤ i → i < n → ∃ o w v d, ops[i]? = some o ∧ wantedSt N ops o (τ i) = some w ∧ o.dst = some d ∧ d < N ∧ plain ((τ i).getD d .undef) = true ∧ (w = true → pureOp E call N o (τ i) = some v) ∧ (w = false → v = .undef) ∧ isBox v = false ∧ τ (i + 1) = (τ i).set d v

theorem trace_of {E : Env} {call : CallF} {N : Nat} {ops : Array Oper} : ∀ (m k : Nat) {σ σ' : St}, runPure E call N ops (List.range' k m) σ = some σ' → ∃ τ, τ k = σ ∧ τ (k + m) = σ' ∧ Trace E call N ops k (k + m) τ
  | 0, k, σ, σ', h => by
    simp only [List.range'_zero, runPure] at h
    injection h with h; subst h
    exact ⟨fun _ => σ, rfl, rfl, ⟨fun i h1 h2 => by omega⟩⟩
  | m + 1, k, σ, σ', h => by
    simp only [List.range'_succ, runPure] at h
    split at h
    · simp at h
    rename_i o ho
    obtain ⟨w, hw, h1⟩ := some_bind h
    split at h1
    · simp at h1
    rename_i d hd
    split at h1
    case isFalse => simp at h1
    rename_i hc
    obtain ⟨v, hv, h2⟩ := some_bind h1
    split at h2
    · simp at h2
    rename_i hbx
    obtain ⟨τ, e1, e2, ht⟩ := trace_of m (k + 1) h2
    refine ⟨fun i => if i = k then σ else τ i, by simp, ?_, ⟨fun i h3 h4 => ?_⟩⟩
    · show (if k + (m + 1) = k then σ else τ (k + (m + 1))) = σ'
      rw [if_neg (by omega), ← e2]; congr 1; omega
    · by_cases hi : i = k
      · subst hi
        refine ⟨o, w, v, d, ho, ?_, hd, hc.1, ?_, ?_, ?_, by simpa using hbx, ?_⟩
        · rw [if_pos rfl]; exact hw
        · rw [if_pos rfl]; exact hc.2
        · intro hw1; subst hw1; rw [if_pos rfl] at hv ⊢; exact hv
        · intro hw1; subst hw1; simp at hv; exact hv.symm
        · rw [if_neg (by omega), if_pos rfl]; exact e1
      · obtain ⟨o', w', v', d', g1, g2, g3, g4, g5, g6, g7, g8, g9⟩ := ht.step i (by omega) (by omega)
        refine ⟨o', w', v', d', g1, ?_, g3, g4, ?_, ?_, g7, g8, ?_⟩
        · rw [if_neg hi]; exact g2
        · rw [if_neg hi]; exact g5
        · rw [if_neg hi]; exact g6
        · rw [if_neg (by omega), if_neg hi]; exact g9

/-- Where operation i writes. -/
def dstOf (ops : Array Oper) (i : Nat) : Option Nat := (ops[i]?).bind (·.dst)

structure Apart (ops : Array Oper) : Prop where
  ex : ∀ i, i < ops.size → ∃ (o : Oper) (d : Nat), ops[i]? = some o ∧ o.dst = some d
  edge : ∀ (i : Nat) (o : Oper), ops[i]? = some o → ∀ e ∈ o.after, Region.binds .any e = true → e.on < i
  ne : ∀ (i j : Nat) (x y : Oper) (d : Nat), ops[i]? = some x → ops[j]? = some y → i ≠ j → y.dst = some d → x.dst ≠ some d
  look : ∀ (i j : Nat) (x y : Oper) (d : Nat), ops[i]? = some x → ops[j]? = some y → i ≠ j → y.dst = some d → d ∈ x.looksAt ops → waits x j = true ∨ waits y i = true

theorem apart_of {ops : Array Oper} (h : apartOk ops = true) : Apart ops := by
  unfold apartOk at h
  rw [List.all_eq_true] at h
  have hx : ∀ i x, ops[i]? = some x → x.dst.isSome = true ∧ (x.after.all fun e => !Region.binds .any e || decide (e.on < i)) = true ∧ ∀ j, j < ops.size → (i == j || (match ops[j]? with
      | none => false
      | some y => (match y.dst with
        | none => false
        | some d => x.dst != some d && (!(x.looksAt ops).contains d || waits x j || waits y i)))) = true := fun i x e => by
    have h1 := h i (List.mem_range.2 (Array.getElem?_eq_some_iff.1 e).1)
    simp only [e, Bool.and_eq_true, List.all_eq_true] at h1
    exact ⟨h1.1.1, h1.1.2, fun j hj => h1.2 j (List.mem_range.2 hj)⟩
  refine ⟨fun i hi => ?_, fun i o e ed hed hb => ?_, fun i j x y d ei ej hij hy => ?_, fun i j x y d ei ej hij hy hl => ?_⟩
  · obtain ⟨d, hd⟩ := Option.isSome_iff_exists.1 (hx i _ (Array.getElem?_eq_getElem hi)).1
    exact ⟨_, d, Array.getElem?_eq_getElem hi, hd⟩
  · have h1 := Array.all_eq_true_iff_forall_mem.1 (hx i o e).2.1 ed hed
    simp only [hb, Bool.not_true, Bool.false_or, decide_eq_true_eq] at h1
    exact h1
  · have h1 := (hx i x ei).2.2 j (Array.getElem?_eq_some_iff.1 ej).1
    simp only [ej, hy, Bool.or_eq_true, Bool.and_eq_true, beq_iff_eq, hij, false_or] at h1
    simpa using h1.1
  · have h1 := (hx i x ei).2.2 j (Array.getElem?_eq_some_iff.1 ej).1
    simp only [ej, hy, Bool.or_eq_true, Bool.and_eq_true, beq_iff_eq, hij, false_or] at h1
    rcases h1.2 with (h2 | h2) | h2
    · simp [hl] at h2
    · exact .inl h2
    · exact .inr h2

end Go.Proofs.Ytlbigobmhglppaa.R
