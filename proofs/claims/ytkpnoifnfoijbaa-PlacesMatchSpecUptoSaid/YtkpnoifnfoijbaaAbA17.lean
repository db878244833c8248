/- A part of the proof of the law: it holds for all states of the abstract kind told in the first of these texts; no condition besides those its statements name. -/
import Derived.Test.YtkpnoifnfoijbaaAbA16
namespace Go.Proofs.Ab
open Go Go.RowKit
set_option linter.unusedVariables false
set_option linter.unusedSimpArgs false

/-! ### A region that draws its order -/
section
variable {P : Program} {tt : TypeId → Option TI} {et : TypeId → Bool}
theorem unA_both {op : UnOp} {x : AV} {K : AV → Prop} (h : unA op x K) : unA op x fun v => K v ∧ unA op x fun v' => v' = v := by
  revert h; unfold unA; split <;> intro h <;> first | exact ⟨h, rfl⟩ | exact h
theorem idxA_both {sz : Nat} {x : AV} {n : Nat} {K : AV → Prop} (h : idxA sz x n K) : ∃ v, K v ∧ idxA sz x n fun v' => v' = v := by
  revert h; unfold idxA; split <;> intro h <;> first | exact ⟨_, h.2.2, h.1, h.2.1, rfl⟩ | (obtain ⟨q1, e, q2, q3⟩ := h; exact ⟨_, q3, q1, e, q2, rfl⟩) | exact h.elim
theorem strIdxA_both {x : AV} {n : Nat} {K : AV → Prop} (h : strIdxA x n K) : ∃ v, K v ∧ strIdxA x n fun v' => v' = v := by
  revert h; unfold strIdxA; split <;> intro h <;> first | (obtain ⟨q1, q2⟩ := h; exact ⟨_, q2, q1, rfl⟩) | exact h.elim
theorem cutA_ex {x : AV} {lo hi : Option AV} {fl : Bool} {K : AV → Prop} (h : cutA x lo hi fl K) : ∃ v, K v ∧ cutA x lo hi fl fun v' => v' = v := by
  have key : ∀ {len : Nat} {f : Nat → Nat → AV}, (cutL len lo hi fun l h => K (f l h)) → ∃ v, K v ∧ cutL len lo hi fun l' h' => f l' h' = v := by
    intro len f h
    obtain ⟨l, h', h1, h2⟩ := cutL_at h
    exact ⟨_, h1, h2 _ rfl⟩
  cases x with
  | ms id sz off len => exact key h
  | bs sz es => exact key h
  | cp sz es => exact key h
  | d y =>
    cases y with
    | v z =>
      simp only [cutA] at h ⊢
      unfold cutV at h ⊢
      split at h
      · obtain ⟨v, h1, h2⟩ := key h.2; exact ⟨v, h1, h.1, h2⟩
      · exact key h
      · exact h.elim
    | sl sz es => exact key h
    | rp cs => exact h.elim
  | _ => exact h.elim
theorem binA_ex {op : BinOp} {x y : AV} {K : AV → Prop} (h : binA op x y K) : ∃ v, K v ∧ binA op x y fun v' => v' = v := by
  revert h
  unfold binA
  split
  · rintro ⟨h0, h⟩
    cases op <;> first | exact ⟨_, h.2, h0, h.1, rfl⟩ | (obtain ⟨v, q1, q2⟩ := h; exact ⟨_, q2, h0, v, q1, rfl⟩)
  · intro h
    cases op <;> first | exact ⟨_, h.2, h.1, rfl⟩ | (obtain ⟨v, q1, q2⟩ := h; exact ⟨_, q2, v, q1, rfl⟩)
  · exact fun h => h.elim
theorem eqA_ex {t : TypeId} {i : TI} {neq : Bool} {x y : AV} {K : AV → Prop} (h : eqA et t i neq x y K) : ∃ v, K v ∧ eqA et t i neq x y fun v' => v' = v := by
  revert h
  unfold eqA
  split
  · rintro ⟨p, q, rfl, rfl, h⟩; exact ⟨_, h, p, q, rfl, rfl, rfl⟩
  · rintro ⟨rfl, h⟩
    revert h
    unfold nilA
    split <;> intro h <;> first | exact ⟨_, h, rfl, rfl⟩ | exact ⟨_, h.2, rfl, h.1, rfl⟩ | exact h.elim
  · rintro ⟨he, cs, ds, xs, ys, h1, h2, h3, h4, h5, h6, h7, h8, hK⟩
    exact ⟨_, hK, he, cs, ds, xs, ys, h1, h2, h3, h4, h5, h6, h7, h8, rfl⟩
  · exact fun h => h.elim
theorem lenA_ex {x : AV} {K : Nat → Prop} (h : lenA x K) : ∃ m, K m ∧ lenA x fun m' => m' = m := by
  revert h; unfold lenA; split <;> intro h <;> first | exact ⟨_, h, rfl⟩ | exact h.elim
/-- A calm operation has one outcome. -/
theorem calm_ex {o : Oper} {ev : Operand → AV} {full : Nat → Option Ob} {K : AV → Option Ob → Prop} (h : calm P tt et o ev full K) : ∃ x ob, K x ob ∧ calm P tt et o ev full fun x' ob' => x' = x ∧ ob' = ob := by
  unfold calm at h ⊢
  cases ho : o.op <;> simp only [ho] at h ⊢
  case move => exact ⟨_, _, h, rfl, rfl⟩
  case assign => exact ⟨_, _, h, rfl, rfl⟩
  case pick => obtain ⟨q, h1, h2⟩ := h; exact ⟨_, _, h2, q, h1, rfl, rfl⟩
  case box => obtain ⟨a, b, h1, h2, h3⟩ := h; exact ⟨_, _, h3, a, b, h1, h2, rfl, rfl⟩
  case alloc => obtain ⟨a, b, h1, h2, h3⟩ := h; exact ⟨_, _, h3, a, b, h1, h2, rfl, rfl⟩
  case load => obtain ⟨a, b, h1, h2, h3⟩ := h; exact ⟨_, _, h3, a, b, h1, h2, rfl, rfl⟩
  case fieldAddr => obtain ⟨a, b, c, h1, h2, h3, h4⟩ := h; exact ⟨_, _, h4, a, b, c, h1, h2, h3, rfl, rfl⟩
  case field => obtain ⟨a, b, c, d, h1, h2, h3, h4, h5⟩ := h; exact ⟨_, _, h5, a, b, c, d, h1, h2, h3, h4, rfl, rfl⟩
  case indexAddr t x ix =>
    obtain ⟨a, b, c, d, h1, h2, h3, h4, h5⟩ := h
    obtain ⟨v, h6, h7⟩ := idxA_both h5
    exact ⟨v, _, h6, a, b, c, d, h1, h2, h3, h4, by simpa using h7⟩
  case index t x ix =>
    obtain ⟨c, d, h1, h3, h4, h5⟩ := h
    obtain ⟨v, h6, h7⟩ := strIdxA_both h5
    exact ⟨v, _, h6, c, d, h1, h3, h4, by simpa using h7⟩
  case slice t x lo hi mx =>
    obtain ⟨a, h1, h2, h⟩ := h
    split at h
    · obtain ⟨v, h6, h7⟩ := cutA_ex h
      exact ⟨v, _, h6, a, h1, h2, by simpa using h7⟩
    · obtain ⟨b, c, d, h3, h4, h5, h⟩ := h
      obtain ⟨v, h6, h7⟩ := cutA_ex h
      exact ⟨v, _, h6, a, h1, h2, b, c, d, h3, h4, h5, by simpa using h7⟩
  case binOp op t x y yt =>
    rcases h with h | ⟨a, b, h1, h2, h⟩
    · obtain ⟨v, h6, h7⟩ := binA_ex h; exact ⟨v, _, h6, .inl (by simpa using h7)⟩
    · obtain ⟨v, h6, h7⟩ := eqA_ex h; exact ⟨v, _, h6, .inr ⟨a, b, h1, h2, by simpa using h7⟩⟩
  case unOp op t x =>
    revert h; unfold unA; split <;> intro h <;> first | exact ⟨_, _, h, rfl, rfl⟩ | exact h.elim
  case convert => obtain ⟨a, b, c, d, e, h1, h2, h3, h4⟩ := h; exact ⟨_, _, h4, a, b, c, d, e, h1, h2, h3, rfl, rfl⟩
  case build => obtain ⟨a, b, c, d, e, h1, h2, h3, h4⟩ := h; exact ⟨_, _, h4, a, b, c, d, e, h1, h2, h3, rfl, rfl⟩
  case buildSlice => obtain ⟨a, b, c, d, h1, h2, h3, h4, h5, h6, h7⟩ := h; exact ⟨_, _, h7, a, b, c, d, h1, h2, h3, h4, h5, h6, rfl, rfl⟩
  case makeSlice => obtain ⟨a, b, c, d, e, f, h1, h2, h3, h4, h5, h6, h7, h8, h9, h10⟩ := h; exact ⟨_, _, h10, a, b, c, d, e, f, h1, h2, h3, h4, h5, h6, h7, h8, h9, rfl, rfl⟩
  case makeFunc => obtain ⟨a, h1, h2, h3⟩ := h; exact ⟨_, _, h3, a, h1, h2, rfl, rfl⟩
  case nilCheck => exact ⟨_, _, h.2, h.1, rfl, rfl⟩
  case extract => obtain ⟨a, b, h1, h2, h3⟩ := h; exact ⟨_, _, h3, a, b, h1, h2, rfl, rfl⟩
  case call c =>
    split at h
    · obtain ⟨a, b, c, d, e, h1, h2, h3, h4, h5⟩ := h; exact ⟨_, _, h5, a, b, c, d, e, h1, h2, h3, h4, rfl, rfl⟩
    · obtain ⟨a, b, c, h1, h2, h3, h4, h5⟩ := h
      obtain ⟨m, h6, h7⟩ := lenA_ex h5
      refine ⟨_, _, h6, a, b, c, h1, h2, h3, h4, ?_⟩
      revert h7; unfold lenA; split <;> intro h <;> first | (subst h; exact ⟨rfl, rfl⟩) | exact h
    · obtain ⟨a, b, c, d, e, f, h1, h2, h3, h4, h5⟩ := h; exact ⟨_, _, h5, a, b, c, d, e, f, h1, h2, h3, h4, rfl, rfl⟩
    · obtain ⟨a, b, c, d, e, f, h1, h2, h3, h4, h5⟩ := h; exact ⟨_, _, h5, a, b, c, d, e, f, h1, h2, h3, h4, rfl, rfl⟩
    · exact h.elim
  all_goals exact h.elim
mutual
theorem passA_mono {full full' : Nat → Option Ob} (hf : ∀ i o, full i = some o → full' i = some o) : ∀ (x y : AV), passA full x = some y → passA full' x = some y
  | .un, y, h => h
  | .d x, y, h => h
  | .bs sz es, y, h => h
  | .cp sz es, y, h => h
  | .bp cs, y, h => h
  | .pt id off, y, h => by
    cases ho : full id with
    | none => simp only [passA, ho] at h; cases h
    | some o => simp only [passA, ho, hf _ _ ho] at h ⊢; exact h
  | .pe id sz k off, y, h => by
    cases ho : full id with
    | none => simp only [passA, ho] at h; cases h
    | some o => simp only [passA, ho, hf _ _ ho] at h ⊢; exact h
  | .ms id sz off len, y, h => by
    cases ho : full id with
    | none => simp only [passA, ho] at h; cases h
    | some o => simp only [passA, ho, hf _ _ ho] at h ⊢; exact h
  | .cl f caps, y, h => by
    simp only [passA, Option.map_eq_some_iff] at h ⊢
    obtain ⟨ys, h1, h2⟩ := h
    exact ⟨ys, passL_mono hf _ _ h1, h2⟩
  | .ag cs, y, h => by
    simp only [passA, Option.map_eq_some_iff] at h ⊢
    obtain ⟨ys, h1, h2⟩ := h
    exact ⟨ys, passL_mono hf _ _ h1, h2⟩
  | .tp vs, y, h => h
theorem passL_mono {full full' : Nat → Option Ob} (hf : ∀ i o, full i = some o → full' i = some o) : ∀ (l l' : List AV), passL full l = some l' → passL full' l = some l'
  | [], l', h => h
  | x :: r, l', h => by
    unfold passL at h ⊢
    cases h1 : passA full x with
    | none => rw [h1] at h; cases h
    | some y =>
      cases h2 : passL full r with
      | none => rw [h1, h2] at h; cases h
      | some ys =>
        rw [h1, h2] at h
        rw [passA_mono hf _ _ h1, passL_mono hf _ _ h2]
        exact h
end
theorem loadA_mono {full full' : Nat → Option Ob} (hf : ∀ i o, full i = some o → full' i = some o) {i : TI} {x v : AV} (h : loadA full i x = some v) : loadA full' i x = some v := by
  cases x with
  | pt id off =>
    cases ho : full id with
    | none => simp only [loadA, ho] at h; cases h
    | some o => simp only [loadA, ho, hf _ _ ho] at h ⊢; exact h
  | pe id sz k off =>
    cases ho : full id with
    | none => simp only [loadA, ho] at h; cases h
    | some o => simp only [loadA, ho, hf _ _ ho] at h ⊢; exact h
  | d x => cases x <;> exact h
  | _ => exact h
/-- More may be there, and the slots that are not asked may hold anything. -/
theorem calm_congr {o : Oper} {ev ev' : Operand → AV} {full full' : Nat → Option Ob} {K : AV → Option Ob → Prop} (hf : ∀ i o, full i = some o → full' i = some o) (he : ∀ x ∈ o.op.operands, ev' x = ev x) (h : calm P tt et o ev full K) : calm P tt et o ev' full' K := by
  have mapE : ∀ l : List Operand, (∀ x ∈ l, ev' x = ev x) → l.map ev' = l.map ev := fun l hl => List.map_congr_left hl
  unfold calm at h ⊢
  cases ho : o.op <;> simp only [ho] at h ⊢ <;> simp only [ho, Op.operands] at he
  case move x => rw [he x (by simp)]; exact h
  case assign x => rw [he x (by simp)]; exact h
  case pick c x y => rw [he c (by simp), he x (by simp), he y (by simp)]; exact h
  case box t x => rw [he x (by simp)]; exact h
  case alloc => exact h
  case load t x => rw [he x (by simp)]; obtain ⟨a, b, h1, h2, h3⟩ := h; exact ⟨a, b, h1, loadA_mono hf h2, h3⟩
  case fieldAddr t x f => rw [he x (by simp)]; exact h
  case field t x f => rw [he x (by simp)]; exact h
  case indexAddr t x ix => rw [he x (by simp), he ix (by simp)]; exact h
  case index t x ix => rw [he x (by simp), he ix (by simp)]; exact h
  case slice t x lo hi mx =>
    have e1 : lo.map ev' = lo.map ev := by cases lo with | none => rfl | some l => rw [Option.map_some, Option.map_some, he l (by simp)]
    have e2 : hi.map ev' = hi.map ev := by cases hi with | none => rfl | some l => rw [Option.map_some, Option.map_some, he l (by simp)]
    rw [he x (by simp), e1, e2]
    cases mx with
    | none => exact h
    | some m =>
      obtain ⟨a, h1, h2, b, c, d, h3, h4, h5, h6⟩ := h
      refine ⟨a, h1, h2, b, c, d, h3, ?_, ?_, h6⟩
      · rw [he b (by subst h3; simp)]; exact h4
      · rw [he m (by simp)]; exact h5
  case binOp op t x y yt => rw [he x (by simp), he y (by simp)]; exact h
  case unOp op t x => rw [he x (by simp)]; exact h
  case convert s t x => rw [he x (by simp)]; exact h
  case build t parts =>
    have : parts.toList.map (fun p => (p.1, ev' p.2)) = parts.toList.map fun p => (p.1, ev p.2) := List.map_congr_left fun p hp => by rw [he p.2 (by simp; exact ⟨p.1, by simpa using hp⟩)]
    rw [this]; exact h
  case buildSlice t len parts =>
    have : parts.toList.map (fun p => (p.1, ev' p.2)) = parts.toList.map fun p => (p.1, ev p.2) := List.map_congr_left fun p hp => by rw [he p.2 (by simp; exact ⟨p.1, by simpa using hp⟩)]
    rw [this]; exact h
  case makeSlice t l c => rw [he l (by simp), he c (by simp)]; exact h
  case makeFunc fn first caps =>
    have : caps.toList.map ev' = caps.toList.map ev := mapE _ fun x hx => he x (by simp; exact .inr (by simpa using hx))
    rw [this]; exact h
  case nilCheck x => rw [he x (by simp)]; exact h
  case extract x i => rw [he x (by simp)]; exact h
  case call c =>
    simp only [Call.operands] at he
    split at h
    · rename_i f hcal
      simp only [hcal] at he ⊢
      have : c.args.toList.map ev' = c.args.toList.map ev := mapE _ fun x hx => he x (by simp; exact .inr (by simpa using hx))
      rw [he f (by simp), this]
      obtain ⟨g, caps, xs, args, r, h1, h2, h3, h4, h5⟩ := h
      exact ⟨g, caps, xs, args, r, h1, passL_mono hf _ _ h2, h3, h4, h5⟩
    · rename_i hcal
      simp only [hcal] at he ⊢
      obtain ⟨a, x, b, h1, h2, h3, h4, h5⟩ := h
      have := he x (by rw [h2]; simp)
      exact ⟨a, x, b, h1, h2, h3, by rw [this]; exact h4, by rw [this]; exact h5⟩
    · rename_i hcal
      simp only [hcal] at he ⊢
      obtain ⟨x, y, k, m, k', m', h1, h2, h3, h4⟩ := h
      exact ⟨x, y, k, m, k', m', h1, by rw [he x (by rw [h1]; simp)]; exact h2, by rw [he y (by rw [h1]; simp)]; exact h3, h4⟩
    · rename_i hcal
      simp only [hcal] at he ⊢
      obtain ⟨x, y, k, m, k', m', h1, h2, h3, h4⟩ := h
      exact ⟨x, y, k, m, k', m', h1, by rw [he x (by rw [h1]; simp)]; exact h2, by rw [he y (by rw [h1]; simp)]; exact h3, h4⟩
    · exact h.elim
  all_goals exact h
end
end Go.Proofs.Ab
