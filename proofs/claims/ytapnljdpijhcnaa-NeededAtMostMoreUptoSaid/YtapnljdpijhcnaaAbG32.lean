/- A part of the proof of the law: it holds for all states of the abstract kind told in the first of these texts; no condition besides those its statements name. -/
import Derived.Test.YtapnljdpijhcnaaAbG31
namespace Go.Proofs.Ab.Try
open Go Go.Proofs Go.Proofs.Ab
set_option linter.unusedSimpArgs false
set_option linter.unusedVariables false
set_option maxHeartbeats 8000000
/-! ### With more columns needed no fewer are needed of any step -/
def Sub2 (b a : List (List Int)) : Prop := b.length = a.length ∧ ∀ (j : Nat) (x y : List Int), b[j]? = some x → a[j]? = some y → ∀ z ∈ x, z ∈ y
theorem Sub2.one {x y : List Int} (h : ∀ z ∈ x, z ∈ y) : Sub2 [x] [y] := ⟨rfl, fun j u v hu hv => by
  cases j with
  | zero => simp at hu hv; subst hu hv; exact h
  | succ j => simp at hu⟩
theorem Sub2.two {x y u v : List Int} (h : ∀ z ∈ x, z ∈ y) (h' : ∀ z ∈ u, z ∈ v) : Sub2 [x, u] [y, v] := ⟨rfl, fun j a b ha hb => by
  match j with
  | 0 => simp at ha hb; subst ha hb; exact h
  | 1 => simp at ha hb; subst ha hb; exact h'
  | j + 2 => simp at ha⟩
theorem mem_grpGo (s : PStep) : ∀ (l out : List Int) (z : Int), z ∈ grpGo s out l ↔ z ∈ out ∨ ∃ k ∈ l, ∃ a, (if 0 ≤ k - s.cols.length then s.aggs[(k - s.cols.length).toNat]? else none) = some a ∧ a.kind ≠ 1 ∧ z = a.col := by
  intro l
  induction l with
  | nil => intro out z; simp [grpGo]
  | cons k r ih =>
    intro out z
    unfold grpGo
    split
    · rename_i a hx
      split
      · rename_i k1
        rw [ih, mem_unionI]
        constructor
        · rintro ((h | h) | ⟨q, hq, h⟩)
          · exact .inl h
          · exact .inr ⟨k, List.mem_cons_self .., a, hx, k1, by simpa using h⟩
          · exact .inr ⟨q, List.mem_cons_of_mem _ hq, h⟩
        · rintro (h | ⟨q, hq, b, h1, h2, h3⟩)
          · exact .inl (.inl h)
          · rcases List.mem_cons.1 hq with rfl | hq
            · rw [hx] at h1
              injection h1 with h1
              subst h1
              exact .inl (.inr (by simpa using h3))
            · exact .inr ⟨q, hq, b, h1, h2, h3⟩
      · rename_i k1
        rw [ih]
        constructor
        · rintro (h | ⟨q, hq, h⟩)
          · exact .inl h
          · exact .inr ⟨q, List.mem_cons_of_mem _ hq, h⟩
        · rintro (h | ⟨q, hq, b, h1, h2, h3⟩)
          · exact .inl h
          · rcases List.mem_cons.1 hq with rfl | hq
            · rw [hx] at h1
              injection h1 with h1
              subst h1
              exact absurd h2 k1
            · exact .inr ⟨q, hq, b, h1, h2, h3⟩
    · rename_i hx
      rw [ih]
      constructor
      · rintro (h | ⟨q, hq, h⟩)
        · exact .inl h
        · exact .inr ⟨q, List.mem_cons_of_mem _ hq, h⟩
      · rintro (h | ⟨q, hq, b, h1, h2, h3⟩)
        · exact .inl h
        · rcases List.mem_cons.1 hq with rfl | hq
          · rw [hx] at h1; cases h1
          · exact .inr ⟨q, hq, b, h1, h2, h3⟩
theorem mem_keyGo : ∀ (l : List Key) (need : List Int) (z : Int), z ∈ keyGo need l ↔ z ∈ need ∨ ∃ k ∈ l, z = k.col := by
  intro l
  induction l with
  | nil => intro need z; simp [keyGo]
  | cons k r ih =>
    intro need z
    simp only [keyGo, ih, mem_unionI, List.mem_cons, List.not_mem_nil, or_false]
    constructor
    · rintro ((h | h) | ⟨q, hq, h⟩)
      · exact .inl h
      · exact .inr ⟨k, .inl rfl, h⟩
      · exact .inr ⟨q, .inr hq, h⟩
    · rintro (h | ⟨q, rfl | hq, h⟩)
      · exact .inl (.inl h)
      · exact .inl (.inr h)
      · exact .inr ⟨q, hq, h⟩
theorem ask_mono (p : List PStep) (fr : List Int) (cols : List (List Col)) (i : Nat) (s : PStep) {b a : List Int} (h : ∀ z ∈ b, z ∈ a) : Sub2 (askF p fr cols i s b) (askF p fr cols i s a) := by
  have hu : ∀ e, ∀ z ∈ unionI b e, z ∈ unionI a e := by
    intro e z hz
    rw [mem_unionI] at hz ⊢
    exact hz.imp (h z) id
  unfold askF
  split
  · exact ⟨rfl, fun j x y hx => by simp at hx⟩
  split
  · exact Sub2.one (hu _)
  split
  · refine Sub2.one fun z hz => ?_
    rw [mem_usedL] at hz ⊢
    rcases hz with hz | ⟨k, hk, hz⟩
    · exact .inl hz
    · exact .inr ⟨k, h k hk, hz⟩
  split
  · refine Sub2.two (fun z hz => ?_) (fun z hz => ?_)
    · rw [mem_sideA] at hz ⊢
      exact ⟨hu _ _ hz.1, hz.2⟩
    · rw [mem_sideB] at hz ⊢
      exact ⟨hu _ _ hz.1, hz.2⟩
  split
  · refine Sub2.one fun z hz => ?_
    rw [mem_grpGo] at hz ⊢
    rcases hz with hz | ⟨k, hk, hz⟩
    · exact .inl hz
    · exact .inr ⟨k, h k hk, hz⟩
  split
  · refine Sub2.one fun z hz => ?_
    rw [mem_keyGo] at hz ⊢
    exact hz.imp (h z) id
  split
  · exact Sub2.one fun z hz => hz
  split
  · exact Sub2.two h h
  · exact Sub2.one h
theorem set_mono {b a : List (List Int)} (h : Sub2 b a) (j : Nat) {x y : List Int} (hxy : ∀ z ∈ x, z ∈ y) : Sub2 (b.set j x) (a.set j y) := by
  refine ⟨by simp [h.1], fun k u v hu hv => ?_⟩
  by_cases hk : k = j
  · subst hk
    have h1 : k < b.length := by have := (List.getElem?_eq_some_iff.1 hu).1; simpa using this
    have h2 : k < a.length := by have := h.1; omega
    rw [List.getElem?_set_self h1] at hu
    rw [List.getElem?_set_self h2] at hv
    injection hu with hu
    injection hv with hv
    subst hu hv
    exact hxy
  · rw [List.getElem?_set_ne (fun e => hk e.symm)] at hu hv
    exact h.2 k u v hu hv
theorem put_mono : ∀ (js : List Int) (A B : List (List Int)) (b a : List (List Int)), Sub2 b a → Sub2 B A → Sub2 (putGo b js B) (putGo a js A) := by
  intro js
  induction js with
  | nil => intro A B b a h _; cases A <;> cases B <;> exact h
  | cons j js ih =>
    intro A B b a h hAB
    cases B with
    | nil =>
      have : A = [] := List.length_eq_zero_iff.1 hAB.1.symm
      subst this
      exact h
    | cons y B =>
      cases A with
      | nil => have := hAB.1; simp at this
      | cons x A =>
        refine ih A B _ _ (set_mono h _ (hAB.2 0 y x rfl rfl)) ⟨by have := hAB.1; simpa using this, fun k u v hu hv => hAB.2 (k + 1) u v (by simpa using hu) (by simpa using hv)⟩
theorem need_mono (p : List PStep) (fr : List Int) (cols : List (List Col)) : ∀ (i : Nat) (b a : List (List Int)), Sub2 b a → Sub2 (needGo p fr cols i b) (needGo p fr cols i a) := by
  intro i
  induction i with
  | zero => intro b a h; exact h
  | succ i ih =>
    intro b a h
    unfold needGo
    cases hs : p[i]? with
    | none => exact h
    | some s =>
      refine ih _ _ (put_mono _ _ _ _ _ h (ask_mono p fr cols i s ?_))
      intro z hz
      cases hb : b[i]? with
      | none => rw [hb] at hz; cases hz
      | some x =>
        rw [hb] at hz
        have hlt := (List.getElem?_eq_some_iff.1 hb).1
        have hla : i < a.length := by have := h.1; omega
        rw [List.getElem?_eq_getElem hla]
        exact h.2 i x _ hb (List.getElem?_eq_getElem hla) z hz
theorem needN_mono (t : List Named) (p : List PStep) {b a : List Int} (h : ∀ z ∈ b, z ∈ a) : Sub2 (needN t p b) (needN t p a) := by
  unfold needN
  refine need_mono _ _ _ _ _ _ ?_
  unfold need0
  exact set_mono ⟨rfl, fun j x y hx hy => by rw [hx] at hy; injection hy with hy; subst hy; exact fun z hz => hz⟩ _ h
theorem putGo_len : ∀ (js : List Int) (A N : List (List Int)), (putGo N js A).length = N.length := by
  intro js
  induction js with
  | nil => intro A N; cases A <;> rfl
  | cons j js ih =>
    intro A N
    cases A with
    | nil => rfl
    | cons x A => simp only [putGo, ih, List.length_set]
theorem needGo_len (p : List PStep) (fr : List Int) (cols : List (List Col)) : ∀ (i : Nat) (N : List (List Int)), (needGo p fr cols i N).length = N.length := by
  intro i
  induction i with
  | zero => intro N; rfl
  | succ i ih =>
    intro N
    unfold needGo
    cases p[i]? with
    | none => rfl
    | some s => simp only [ih, putGo_len]
theorem needN_len (t : List Named) (p : List PStep) (l : List Int) : (needN t p l).length = p.length := by
  unfold needN
  rw [needGo_len]
  simp [need0]
theorem chk_take (n : Nat) : ∀ (l : List Int) (p : Option Int) (k : Nat), chkGo n p l = 0 → chkGo n p (l.take k) = 0 := by
  intro l
  induction l with
  | nil => intro p k h; simpa using h
  | cons x r ih =>
    intro p k h
    cases k with
    | zero => rfl
    | succ k =>
      simp only [List.take_succ_cons]
      unfold chkGo at h ⊢
      split at h
      · omega
      split at h
      · omega
      rename_i h1 h2
      rw [if_neg h1, if_neg h2]
      exact ih _ k h
theorem needF_take {t : List Named} {p : List PStep} {l : List Int} (h : needF t p l = 0) (k : Nat) : needF t p (l.take k) = 0 := by
  unfold needF at h ⊢
  split at h
  · rename_i h1; exact absurd h h1
  · rename_i h1
    rw [if_neg h1]
    exact chk_take _ _ _ _ h
theorem needG_small {t : List Named} {p : List PStep} {l : List Int} (ht : smL smNamed t) (hp : smL smStep p) (h : needF t p l = 0) : NOk p (schF t p).1 (needN t p l) := by
  have f0 : (schF t p).2 = 0 := by
    by_cases h0 : (schF t p).2 = 0
    · exact h0
    · unfold needF at h; rw [if_pos h0] at h; exact absurd h h0
  have hq : needF t p l = chkGo (lastC t p).length none l := by simp [needF, f0]
  rw [hq] at h
  obtain ⟨hw, hne, hpl, hf⟩ := fits ht hp f0
  have hN0 := need0_ok hne (chkGo_srt h)
  have key : ∀ (i : Nat) (N : List (List Int)), NOk p (schF t p).1 N → NOk p (schF t p).1 (needGo p (startsGo 0 [] p) (schF t p).1 i N) := by
    intro i
    induction i with
    | zero => intro N h; exact h
    | succ i ih =>
      intro N hN
      unfold needGo
      cases hs : p[i]? with
      | none => exact hN
      | some s =>
        refine ih _ ?_
        have hil := (List.getElem?_eq_some_iff.1 hs).1
        have hqq : N[i]? = some ((N[i]?).getD []) := by
          rw [List.getElem?_eq_getElem (by rw [hN.1]; exact hil)]; rfl
        obtain ⟨hal, has⟩ := ask_srt hp hf hs (hN.2 i _ hqq)
        obtain ⟨g1, g3, g4, g5, g6, g7⟩ := hf.at' i s hs
        have hput : ∀ (js : List Int) (A N : List (List Int)), NOk p (schF t p).1 N → (∀ (n : Nat) (j : Int) (l : List Int), js[n]? = some j → A[n]? = some l → Srt ((((schF t p).1[j.toNat]?).getD []).length) l) → NOk p (schF t p).1 (putGo N js A) := by
          intro js
          induction js with
          | nil => intro A N h _; cases A <;> exact h
          | cons j js ihj =>
            intro A N h hh
            cases A with
            | nil => exact h
            | cons x A => exact ihj A _ (set_ok h (hh 0 j x rfl rfl)) (fun n j l hj hl => hh (n + 1) j l (by simpa using hj) (by simpa using hl))
        refine hput _ _ _ hN ?_
        intro n j l hj hl
        have := has n l hl
        unfold insOf at this
        rw [List.getElem?_map, hj] at this
        exact this
  exact key _ _ hN0
end Go.Proofs.Ab.Try
