/- A part of the proof of the law: it holds for all states of the abstract kind told in the first of these texts; no condition besides those its statements name. -/
import Derived.Test.YtkpnoifnfoijbaaAbF2
namespace Go.Proofs.Ab.Try
open Go Go.Proofs Go.Proofs.Ab
set_option linter.unusedSimpArgs false
set_option linter.unusedVariables false
set_option maxHeartbeats 8000000
theorem startsGo_length : ∀ (p : List PStep) (i : Nat) (st : List Int), (startsGo i st p).length = p.length := by
  intro p
  induction p with
  | nil => intro i st; rfl
  | cons s r ih => intro i st; simp [startsGo, ih]
theorem fromAt_in {i : Nat} {st : List Int} {s : PStep} (h : ∀ f ∈ st, 0 ≤ f ∧ f ≤ i) : 0 ≤ fromAt i st s ∧ fromAt i st s ≤ i := by
  unfold fromAt
  cases hq : st[st.length - takes s.kind]? with
  | none => simp
  | some y => exact h y (List.mem_of_getElem? hq)
theorem startsGo_in : ∀ (p : List PStep) (i : Nat) (st : List Int), (∀ f ∈ st, 0 ≤ f ∧ f ≤ i) → ∀ f ∈ startsGo i st p, 0 ≤ f ∧ f ≤ i + p.length := by
  intro p
  induction p with
  | nil => intro i st _ f hf; cases hf
  | cons s r ih =>
    intro i st h f hf
    simp only [startsGo, List.mem_cons] at hf
    have h1 := fromAt_in (s := s) h
    rcases hf with rfl | hf
    · simp only [List.length_cons]; omega
    · have := ih (i + 1) (stNext i st s) (by
        intro g hg
        unfold stNext at hg
        simp only [List.mem_append, List.mem_singleton] at hg
        rcases hg with hg | rfl
        · have := h g (List.mem_of_mem_take hg); omega
        · omega) f hf
      simp only [List.length_cons]; omega
theorem wf_at : ∀ (p : List PStep) (n j : Nat) (x : PStep), wfGo n p = true → p[j]? = some x → takes x.kind ≤ n + j := by
  intro p
  induction p with
  | nil => intro n j x _ h; simp at h
  | cons s r ih =>
    intro n j x h hj
    simp only [wfGo, Bool.and_eq_true, decide_eq_true_eq] at h
    cases j with
    | zero => simp at hj; subst hj; exact h.1.2
    | succ j => have := ih _ j x h.2 (by simpa using hj); omega
structure FrOk (p : List PStep) (fr : List Int) : Prop where
  len : fr.length = p.length
  wf : wfGo 0 p = true
  inn : ∀ f ∈ fr, 0 ≤ f ∧ f ≤ 2000000
theorem frOk {p : List PStep} (hp : p.length ≤ 2000000) (hw : wfGo 0 p = true) : FrOk p (startsGo 0 [] p) where
  len := startsGo_length _ _ _
  wf := hw
  inn := fun f hf => by have := startsGo_in p 0 [] (by simp) f hf; omega
theorem dataA_inputsR (p : List PStep) (fr : List Int) (j : Nat) : dataA (inputsR p fr j) := by unfold inputsR; split <;> trivial
theorem good_inputs (p : List PStep) (fr : List Int) (j : Nat) (hp : p.length ≤ 2000000) (hf : FrOk p fr) (hj : j < p.length) : Good Try.prog 16 [aPlan p, .d (.sl 1 (eI fr)), aI j] (inputsR p fr j) := by
  obtain ⟨x, hx⟩ : ∃ x, p[j]? = some x := ⟨p[j], List.getElem?_eq_getElem hj⟩
  have hw := wf_at p 0 j x hf.wf hx
  refine goodF ttOK Try.func16 (vs := [.tmp 6]) (nt := 29) rfl rfl rfl (by kernel_rfl) (by simp) (dataA_inputsR _ _ _) ?_
  repeat first
    | (refine aops.cons fun K hK => ?_; simp [and_assoc, hx]; (try simp (disch := omega) only [wrap64]); (first | refine hK _ ?_ | refine ⟨by omega, hK _ ?_⟩ | refine ⟨by omega, by omega, hK _ ?_⟩ | refine ⟨by omega, by omega, by omega, hK _ ?_⟩); clear hK K)
    | refine aops.nil ?_
    | refine runD.nil ?_
    | (refine runD.cons fun K hK => ?_; simp [and_assoc, hx]; (try simp (disch := omega) only [wrap64]); (first | refine hK _ _ (runD.eqs (by simp; rfl) ?_) | refine ⟨by omega, hK _ _ (runD.eqs (by simp; rfl) ?_)⟩ | refine ⟨by omega, by omega, hK _ _ (runD.eqs (by simp; rfl) ?_)⟩); clear hK K)
    | refine AW.seqD ttOK etOK mixOK _ (by simp [calmCount, isCalm]; rfl) (by kernel_rfl) (by kernel_rfl) (by kernel_rfl) (by kernel_rfl) ?_
    | refine AW.lastD ttOK etOK mixOK _ (by simp [calmCount, isCalm]; rfl) (by kernel_rfl) (by kernel_rfl) (by kernel_rfl) (by kernel_rfl) ?_
    | refine AW.seqDM ttOK etOK mixOK _ (by simp [calmCount, isCalm]; rfl) (by kernel_rfl) (by kernel_rfl) (by kernel_rfl) (by simp; rfl) ?_
    | refine AW.lastDM ttOK etOK mixOK _ (by simp [calmCount, isCalm]; rfl) (by kernel_rfl) (by kernel_rfl) (by kernel_rfl) (by simp; rfl) ?_
    | refine AW.seqR ttOK etOK ?_
    | refine AW.lastR ttOK etOK ?_
    | refine AW.seqSkip ?_
    | refine AW.seq ?_
    | refine AW.block ?_
    | (refine AW.skip ?_; simp only [andThen, inBlk, ↓reduceIte])
    | (refine AW.exit ?_; simp (disch := omega) only [andThen, inBlk, ↓reduceIte, Nat.reduceEqDiff])
    | (guard_target =~ andThen _ _ _ _; simp only [andThen, inBlk, ↓reduceIte])
  first | refine aops.cons fun K hK => ?_ | refine runD.cons fun K hK => ?_
  simp [and_assoc, hx]
  first | refine callA (good_Takes x) (by repeat (first | exact LeL.nil | refine LeL.cons (by first | exact Le.refl _ | exact Le.bs _ _ | exact Le.bp _ | exact Le.nilb _ | exact Le.nild _ | exact Le.un _) ?_)) (hK _ ?_) | refine callA (good_Takes x) (by repeat (first | exact LeL.nil | refine LeL.cons (by first | exact Le.refl _ | exact Le.bs _ _ | exact Le.bp _ | exact Le.nilb _ | exact Le.nild _ | exact Le.un _) ?_)) (hK _ _ (runD.eqs (by simp; rfl) ?_))
  clear hK K
  repeat first
    | (refine aops.cons fun K hK => ?_; simp [and_assoc]; (try simp (disch := omega) only [wrap64]); (first | refine hK _ ?_ | refine ⟨by omega, hK _ ?_⟩ | refine ⟨by omega, by omega, hK _ ?_⟩ | refine ⟨by omega, by omega, by omega, hK _ ?_⟩); clear hK K)
    | refine aops.nil ?_
    | refine runD.nil ?_
    | (refine runD.cons fun K hK => ?_; simp [and_assoc]; (try simp (disch := omega) only [wrap64]); (first | refine hK _ _ (runD.eqs (by simp; rfl) ?_) | refine ⟨by omega, hK _ _ (runD.eqs (by simp; rfl) ?_)⟩ | refine ⟨by omega, by omega, hK _ _ (runD.eqs (by simp; rfl) ?_)⟩); clear hK K)
    | refine AW.seqD ttOK etOK mixOK _ (by simp [calmCount, isCalm]; rfl) (by kernel_rfl) (by kernel_rfl) (by kernel_rfl) (by kernel_rfl) ?_
    | refine AW.lastD ttOK etOK mixOK _ (by simp [calmCount, isCalm]; rfl) (by kernel_rfl) (by kernel_rfl) (by kernel_rfl) (by kernel_rfl) ?_
    | refine AW.seqDM ttOK etOK mixOK _ (by simp [calmCount, isCalm]; rfl) (by kernel_rfl) (by kernel_rfl) (by kernel_rfl) (by simp; rfl) ?_
    | refine AW.lastDM ttOK etOK mixOK _ (by simp [calmCount, isCalm]; rfl) (by kernel_rfl) (by kernel_rfl) (by kernel_rfl) (by simp; rfl) ?_
    | refine AW.seqR ttOK etOK ?_
    | refine AW.lastR ttOK etOK ?_
    | refine AW.seqSkip ?_
    | refine AW.seq ?_
    | refine AW.block ?_
    | (refine AW.skip ?_; simp only [andThen, inBlk, ↓reduceIte])
    | (refine AW.exit ?_; simp (disch := omega) only [andThen, inBlk, ↓reduceIte, Nat.reduceEqDiff])
    | (guard_target =~ andThen _ _ _ _; simp only [andThen, inBlk, ↓reduceIte])
  refine AW.cond _ (by rfl) (fun h0 => ?_) (fun h0 => ?_) <;> simp at h0
  · repeat first
      | (refine aops.cons fun K hK => ?_; simp [and_assoc]; (try simp (disch := omega) only [wrap64]); (first | refine hK _ ?_ | refine ⟨by omega, hK _ ?_⟩ | refine ⟨by omega, by omega, hK _ ?_⟩ | refine ⟨by omega, by omega, by omega, hK _ ?_⟩); clear hK K)
      | refine aops.nil ?_
      | refine runD.nil ?_
      | (refine runD.cons fun K hK => ?_; simp [and_assoc]; (try simp (disch := omega) only [wrap64]); (first | refine hK _ _ (runD.eqs (by simp; rfl) ?_) | refine ⟨by omega, hK _ _ (runD.eqs (by simp; rfl) ?_)⟩ | refine ⟨by omega, by omega, hK _ _ (runD.eqs (by simp; rfl) ?_)⟩); clear hK K)
      | refine AW.seqD ttOK etOK mixOK _ (by simp [calmCount, isCalm]; rfl) (by kernel_rfl) (by kernel_rfl) (by kernel_rfl) (by kernel_rfl) ?_
      | refine AW.lastD ttOK etOK mixOK _ (by simp [calmCount, isCalm]; rfl) (by kernel_rfl) (by kernel_rfl) (by kernel_rfl) (by kernel_rfl) ?_
      | refine AW.seqDM ttOK etOK mixOK _ (by simp [calmCount, isCalm]; rfl) (by kernel_rfl) (by kernel_rfl) (by kernel_rfl) (by simp; rfl) ?_
      | refine AW.lastDM ttOK etOK mixOK _ (by simp [calmCount, isCalm]; rfl) (by kernel_rfl) (by kernel_rfl) (by kernel_rfl) (by simp; rfl) ?_
      | refine AW.seqR ttOK etOK ?_
      | refine AW.lastR ttOK etOK ?_
      | refine AW.seqSkip ?_
      | refine AW.seq ?_
      | refine AW.block ?_
      | (refine AW.skip ?_; simp only [andThen, inBlk, ↓reduceIte])
      | (refine AW.exit ?_; simp (disch := omega) only [andThen, inBlk, ↓reduceIte, Nat.reduceEqDiff])
      | (guard_target =~ andThen _ _ _ _; simp only [andThen, inBlk, ↓reduceIte])
    exact AW.ret (by simp [resL, resA, resV, resVs, andThen, inBlk, inputsR, inputsOf, hx, h0])
  repeat first
    | (refine aops.cons fun K hK => ?_; simp [and_assoc]; (try simp (disch := omega) only [wrap64]); (first | refine hK _ ?_ | refine ⟨by omega, hK _ ?_⟩ | refine ⟨by omega, by omega, hK _ ?_⟩ | refine ⟨by omega, by omega, by omega, hK _ ?_⟩); clear hK K)
    | refine aops.nil ?_
    | refine runD.nil ?_
    | (refine runD.cons fun K hK => ?_; simp [and_assoc]; (try simp (disch := omega) only [wrap64]); (first | refine hK _ _ (runD.eqs (by simp; rfl) ?_) | refine ⟨by omega, hK _ _ (runD.eqs (by simp; rfl) ?_)⟩ | refine ⟨by omega, by omega, hK _ _ (runD.eqs (by simp; rfl) ?_)⟩); clear hK K)
    | refine AW.seqD ttOK etOK mixOK _ (by simp [calmCount, isCalm]; rfl) (by kernel_rfl) (by kernel_rfl) (by kernel_rfl) (by kernel_rfl) ?_
    | refine AW.lastD ttOK etOK mixOK _ (by simp [calmCount, isCalm]; rfl) (by kernel_rfl) (by kernel_rfl) (by kernel_rfl) (by kernel_rfl) ?_
    | refine AW.seqDM ttOK etOK mixOK _ (by simp [calmCount, isCalm]; rfl) (by kernel_rfl) (by kernel_rfl) (by kernel_rfl) (by simp; rfl) ?_
    | refine AW.lastDM ttOK etOK mixOK _ (by simp [calmCount, isCalm]; rfl) (by kernel_rfl) (by kernel_rfl) (by kernel_rfl) (by simp; rfl) ?_
    | refine AW.seqR ttOK etOK ?_
    | refine AW.lastR ttOK etOK ?_
    | refine AW.seqSkip ?_
    | refine AW.seq ?_
    | refine AW.block ?_
    | (refine AW.skip ?_; simp only [andThen, inBlk, ↓reduceIte])
    | (refine AW.exit ?_; simp (disch := omega) only [andThen, inBlk, ↓reduceIte, Nat.reduceEqDiff])
    | (guard_target =~ andThen _ _ _ _; simp only [andThen, inBlk, ↓reduceIte])
  refine AW.cond _ (by rfl) (fun h1 => ?_) (fun h1 => ?_) <;> simp at h1
  · repeat first
      | (refine aops.cons fun K hK => ?_; simp [and_assoc]; (try simp (disch := omega) only [wrap64]); (first | refine hK _ ?_ | refine ⟨by omega, hK _ ?_⟩ | refine ⟨by omega, by omega, hK _ ?_⟩ | refine ⟨by omega, by omega, by omega, hK _ ?_⟩); clear hK K)
      | refine aops.nil ?_
      | refine runD.nil ?_
      | (refine runD.cons fun K hK => ?_; simp [and_assoc]; (try simp (disch := omega) only [wrap64]); (first | refine hK _ _ (runD.eqs (by simp; rfl) ?_) | refine ⟨by omega, hK _ _ (runD.eqs (by simp; rfl) ?_)⟩ | refine ⟨by omega, by omega, hK _ _ (runD.eqs (by simp; rfl) ?_)⟩); clear hK K)
      | refine AW.seqD ttOK etOK mixOK _ (by simp [calmCount, isCalm]; rfl) (by kernel_rfl) (by kernel_rfl) (by kernel_rfl) (by kernel_rfl) ?_
      | refine AW.lastD ttOK etOK mixOK _ (by simp [calmCount, isCalm]; rfl) (by kernel_rfl) (by kernel_rfl) (by kernel_rfl) (by kernel_rfl) ?_
      | refine AW.seqDM ttOK etOK mixOK _ (by simp [calmCount, isCalm]; rfl) (by kernel_rfl) (by kernel_rfl) (by kernel_rfl) (by simp; rfl) ?_
      | refine AW.lastDM ttOK etOK mixOK _ (by simp [calmCount, isCalm]; rfl) (by kernel_rfl) (by kernel_rfl) (by kernel_rfl) (by simp; rfl) ?_
      | refine AW.seqR ttOK etOK ?_
      | refine AW.lastR ttOK etOK ?_
      | refine AW.seqSkip ?_
      | refine AW.seq ?_
      | refine AW.block ?_
      | (refine AW.skip ?_; simp only [andThen, inBlk, ↓reduceIte])
      | (refine AW.exit ?_; simp (disch := omega) only [andThen, inBlk, ↓reduceIte, Nat.reduceEqDiff])
      | (guard_target =~ andThen _ _ _ _; simp only [andThen, inBlk, ↓reduceIte])
    refine AW.weakE (Weak.freeze _ 19 (by rfl)) (by simp; rfl) ?_
    have h1' : takes x.kind = 1 := by omega
    exact AW.ret (by simp [resL, resA, resV, resVs, andThen, inBlk, inputsR, inputsOf, hx, h0, h1', eI])
  have ht := takes_le x.kind
  have hj1 : 1 ≤ j := by omega
  have e : (j : Int) - 1 = ((j - 1 : Nat) : Int) := by omega
  have hl : j - 1 < fr.length := by have := hf.len; omega
  have hb := hf.inn fr[j - 1] (List.getElem_mem hl)
  have h1' : ¬ takes x.kind = 1 := by omega
  repeat first
    | (refine aops.cons fun K hK => ?_; simp [and_assoc, e, hl]; (try simp (disch := omega) only [wrap64]); (first | refine hK _ ?_ | refine ⟨by omega, hK _ ?_⟩ | refine ⟨by omega, by omega, hK _ ?_⟩ | refine ⟨by omega, by omega, by omega, hK _ ?_⟩); clear hK K)
    | refine aops.nil ?_
    | refine runD.nil ?_
    | (refine runD.cons fun K hK => ?_; simp [and_assoc, e, hl]; (try simp (disch := omega) only [wrap64]); (first | refine hK _ _ (runD.eqs (by simp; rfl) ?_) | refine ⟨by omega, hK _ _ (runD.eqs (by simp; rfl) ?_)⟩ | refine ⟨by omega, by omega, hK _ _ (runD.eqs (by simp; rfl) ?_)⟩); clear hK K)
    | refine AW.seqD ttOK etOK mixOK _ (by simp [calmCount, isCalm]; rfl) (by kernel_rfl) (by kernel_rfl) (by kernel_rfl) (by kernel_rfl) ?_
    | refine AW.lastD ttOK etOK mixOK _ (by simp [calmCount, isCalm]; rfl) (by kernel_rfl) (by kernel_rfl) (by kernel_rfl) (by kernel_rfl) ?_
    | refine AW.seqDM ttOK etOK mixOK _ (by simp [calmCount, isCalm]; rfl) (by kernel_rfl) (by kernel_rfl) (by kernel_rfl) (by simp; rfl) ?_
    | refine AW.lastDM ttOK etOK mixOK _ (by simp [calmCount, isCalm]; rfl) (by kernel_rfl) (by kernel_rfl) (by kernel_rfl) (by simp; rfl) ?_
    | refine AW.seqR ttOK etOK ?_
    | refine AW.lastR ttOK etOK ?_
    | refine AW.seqSkip ?_
    | refine AW.seq ?_
    | refine AW.block ?_
    | (refine AW.skip ?_; simp only [andThen, inBlk, ↓reduceIte])
    | (refine AW.exit ?_; simp (disch := omega) only [andThen, inBlk, ↓reduceIte, Nat.reduceEqDiff])
    | (guard_target =~ andThen _ _ _ _; simp only [andThen, inBlk, ↓reduceIte])
  refine AW.weakE (Weak.freeze _ 28 (by rfl)) (by simp; rfl) ?_
  exact AW.ret (by simp [resL, resA, resV, resVs, andThen, inBlk, inputsR, inputsOf, hx, h0, h1', eI, hl, e])
/-- What rules.Inputs answers. -/
theorem good_Inputs (p : List PStep) (step : Int) (hp : p.length ≤ 2000000) : Good Try.prog 5 [aPlan p, aI step]
    (.tp [if askedF p step = 0 then inputsR p (startsGo 0 [] p) step.toNat else aNil, aI (if askedF p step = 0 then ((startsGo 0 [] p)[step.toNat]?).getD 0 else 0), aI (askedF p step)]) := by
  refine goodF ttOK Try.func5 (vs := [.tmp 4, .tmp 5, .tmp 6]) (nt := 26) rfl rfl rfl (by kernel_rfl) (by simp) (by split <;> simp [dataA, dataL, dataA_inputsR]) ?_
  repeat first
    | (refine aops.cons fun K hK => ?_; simp [and_assoc]; (try simp (disch := omega) only [wrap64]); (first | refine hK _ ?_ | refine ⟨by omega, hK _ ?_⟩ | refine ⟨by omega, by omega, hK _ ?_⟩ | refine ⟨by omega, by omega, by omega, hK _ ?_⟩); clear hK K)
    | refine aops.nil ?_
    | refine runD.nil ?_
    | (refine runD.cons fun K hK => ?_; simp [and_assoc]; (try simp (disch := omega) only [wrap64]); (first | refine hK _ _ (runD.eqs (by simp; rfl) ?_) | refine ⟨by omega, hK _ _ (runD.eqs (by simp; rfl) ?_)⟩ | refine ⟨by omega, by omega, hK _ _ (runD.eqs (by simp; rfl) ?_)⟩); clear hK K)
    | refine AW.seqD ttOK etOK mixOK _ (by simp [calmCount, isCalm]; rfl) (by kernel_rfl) (by kernel_rfl) (by kernel_rfl) (by kernel_rfl) ?_
    | refine AW.lastD ttOK etOK mixOK _ (by simp [calmCount, isCalm]; rfl) (by kernel_rfl) (by kernel_rfl) (by kernel_rfl) (by kernel_rfl) ?_
    | refine AW.seqDM ttOK etOK mixOK _ (by simp [calmCount, isCalm]; rfl) (by kernel_rfl) (by kernel_rfl) (by kernel_rfl) (by simp; rfl) ?_
    | refine AW.lastDM ttOK etOK mixOK _ (by simp [calmCount, isCalm]; rfl) (by kernel_rfl) (by kernel_rfl) (by kernel_rfl) (by simp; rfl) ?_
    | refine AW.seqR ttOK etOK ?_
    | refine AW.lastR ttOK etOK ?_
    | refine AW.seqSkip ?_
    | refine AW.seq ?_
    | refine AW.block ?_
    | (refine AW.skip ?_; simp only [andThen, inBlk, ↓reduceIte])
    | (refine AW.exit ?_; simp (disch := omega) only [andThen, inBlk, ↓reduceIte, Nat.reduceEqDiff])
    | (guard_target =~ andThen _ _ _ _; simp only [andThen, inBlk, ↓reduceIte])
  first | refine aops.cons fun K hK => ?_ | refine runD.cons fun K hK => ?_
  simp [and_assoc]
  first | refine callA (good_asked p step hp) (by repeat (first | exact LeL.nil | refine LeL.cons (by first | exact Le.refl _ | exact Le.bs _ _ | exact Le.bp _ | exact Le.nilb _ | exact Le.nild _ | exact Le.un _) ?_)) (hK _ ?_) | refine callA (good_asked p step hp) (by repeat (first | exact LeL.nil | refine LeL.cons (by first | exact Le.refl _ | exact Le.bs _ _ | exact Le.bp _ | exact Le.nilb _ | exact Le.nild _ | exact Le.un _) ?_)) (hK _ _ (runD.eqs (by simp; rfl) ?_))
  clear hK K
  by_cases h0 : askedF p step = 0
  rotate_left
  · repeat first
      | (refine aops.cons fun K hK => ?_; simp [and_assoc]; (try simp (disch := omega) only [wrap64]); (first | refine hK _ ?_ | refine ⟨by omega, hK _ ?_⟩ | refine ⟨by omega, by omega, hK _ ?_⟩ | refine ⟨by omega, by omega, by omega, hK _ ?_⟩); clear hK K)
      | refine aops.nil ?_
      | refine runD.nil ?_
      | (refine runD.cons fun K hK => ?_; simp [and_assoc]; (try simp (disch := omega) only [wrap64]); (first | refine hK _ _ (runD.eqs (by simp; rfl) ?_) | refine ⟨by omega, hK _ _ (runD.eqs (by simp; rfl) ?_)⟩ | refine ⟨by omega, by omega, hK _ _ (runD.eqs (by simp; rfl) ?_)⟩); clear hK K)
      | refine AW.seqD ttOK etOK mixOK _ (by simp [calmCount, isCalm]; rfl) (by kernel_rfl) (by kernel_rfl) (by kernel_rfl) (by kernel_rfl) ?_
      | refine AW.lastD ttOK etOK mixOK _ (by simp [calmCount, isCalm]; rfl) (by kernel_rfl) (by kernel_rfl) (by kernel_rfl) (by kernel_rfl) ?_
      | refine AW.seqDM ttOK etOK mixOK _ (by simp [calmCount, isCalm]; rfl) (by kernel_rfl) (by kernel_rfl) (by kernel_rfl) (by simp; rfl) ?_
      | refine AW.lastDM ttOK etOK mixOK _ (by simp [calmCount, isCalm]; rfl) (by kernel_rfl) (by kernel_rfl) (by kernel_rfl) (by simp; rfl) ?_
      | refine AW.seqR ttOK etOK ?_
      | refine AW.lastR ttOK etOK ?_
      | refine AW.seqSkip ?_
      | refine AW.seq ?_
      | refine AW.block ?_
      | (refine AW.skip ?_; simp only [andThen, inBlk, ↓reduceIte])
      | (refine AW.exit ?_; simp (disch := omega) only [andThen, inBlk, ↓reduceIte, Nat.reduceEqDiff])
      | (guard_target =~ andThen _ _ _ _; simp only [andThen, inBlk, ↓reduceIte])
    refine AW.cond _ (by rfl) (fun _ => ?_) (fun hx => absurd hx (by simp [h0]))
    repeat first
      | (refine aops.cons fun K hK => ?_; simp [and_assoc]; (try simp (disch := omega) only [wrap64]); (first | refine hK _ ?_ | refine ⟨by omega, hK _ ?_⟩ | refine ⟨by omega, by omega, hK _ ?_⟩ | refine ⟨by omega, by omega, by omega, hK _ ?_⟩); clear hK K)
      | refine aops.nil ?_
      | refine runD.nil ?_
      | (refine runD.cons fun K hK => ?_; simp [and_assoc]; (try simp (disch := omega) only [wrap64]); (first | refine hK _ _ (runD.eqs (by simp; rfl) ?_) | refine ⟨by omega, hK _ _ (runD.eqs (by simp; rfl) ?_)⟩ | refine ⟨by omega, by omega, hK _ _ (runD.eqs (by simp; rfl) ?_)⟩); clear hK K)
      | refine AW.seqD ttOK etOK mixOK _ (by simp [calmCount, isCalm]; rfl) (by kernel_rfl) (by kernel_rfl) (by kernel_rfl) (by kernel_rfl) ?_
      | refine AW.lastD ttOK etOK mixOK _ (by simp [calmCount, isCalm]; rfl) (by kernel_rfl) (by kernel_rfl) (by kernel_rfl) (by kernel_rfl) ?_
      | refine AW.seqDM ttOK etOK mixOK _ (by simp [calmCount, isCalm]; rfl) (by kernel_rfl) (by kernel_rfl) (by kernel_rfl) (by simp; rfl) ?_
      | refine AW.lastDM ttOK etOK mixOK _ (by simp [calmCount, isCalm]; rfl) (by kernel_rfl) (by kernel_rfl) (by kernel_rfl) (by simp; rfl) ?_
      | refine AW.seqR ttOK etOK ?_
      | refine AW.lastR ttOK etOK ?_
      | refine AW.seqSkip ?_
      | refine AW.seq ?_
      | refine AW.block ?_
      | (refine AW.skip ?_; simp only [andThen, inBlk, ↓reduceIte])
      | (refine AW.exit ?_; simp (disch := omega) only [andThen, inBlk, ↓reduceIte, Nat.reduceEqDiff])
      | (guard_target =~ andThen _ _ _ _; simp only [andThen, inBlk, ↓reduceIte])
    exact AW.ret (by simp [resL, resA, resV, resVs, andThen, inBlk, h0])
  obtain ⟨j, hj, hj2, hw⟩ : ∃ j : Nat, step = j ∧ j < p.length ∧ wfGo 0 p = true := by
    unfold askedF at h0
    split at h0
    · rename_i h; simp [inR] at h
      split at h0
      · exact ⟨step.toNat, by omega, by omega, by assumption⟩
      · cases h0
    · cases h0
  subst hj
  have hf := frOk hp hw
  repeat first
    | (refine aops.cons fun K hK => ?_; simp [and_assoc]; (try simp (disch := omega) only [wrap64]); (first | refine hK _ ?_ | refine ⟨by omega, hK _ ?_⟩ | refine ⟨by omega, by omega, hK _ ?_⟩ | refine ⟨by omega, by omega, by omega, hK _ ?_⟩); clear hK K)
    | refine aops.nil ?_
    | refine runD.nil ?_
    | (refine runD.cons fun K hK => ?_; simp [and_assoc]; (try simp (disch := omega) only [wrap64]); (first | refine hK _ _ (runD.eqs (by simp; rfl) ?_) | refine ⟨by omega, hK _ _ (runD.eqs (by simp; rfl) ?_)⟩ | refine ⟨by omega, by omega, hK _ _ (runD.eqs (by simp; rfl) ?_)⟩); clear hK K)
    | refine AW.seqD ttOK etOK mixOK _ (by simp [calmCount, isCalm]; rfl) (by kernel_rfl) (by kernel_rfl) (by kernel_rfl) (by kernel_rfl) ?_
    | refine AW.lastD ttOK etOK mixOK _ (by simp [calmCount, isCalm]; rfl) (by kernel_rfl) (by kernel_rfl) (by kernel_rfl) (by kernel_rfl) ?_
    | refine AW.seqDM ttOK etOK mixOK _ (by simp [calmCount, isCalm]; rfl) (by kernel_rfl) (by kernel_rfl) (by kernel_rfl) (by simp; rfl) ?_
    | refine AW.lastDM ttOK etOK mixOK _ (by simp [calmCount, isCalm]; rfl) (by kernel_rfl) (by kernel_rfl) (by kernel_rfl) (by simp; rfl) ?_
    | refine AW.seqR ttOK etOK ?_
    | refine AW.lastR ttOK etOK ?_
    | refine AW.seqSkip ?_
    | refine AW.seq ?_
    | refine AW.block ?_
    | (refine AW.skip ?_; simp only [andThen, inBlk, ↓reduceIte])
    | (refine AW.exit ?_; simp (disch := omega) only [andThen, inBlk, ↓reduceIte, Nat.reduceEqDiff])
    | (guard_target =~ andThen _ _ _ _; simp only [andThen, inBlk, ↓reduceIte])
  refine AW.cond _ (by rfl) (fun hx => absurd hx (by simp [h0])) (fun _ => ?_)
  repeat first
    | (refine aops.cons fun K hK => ?_; simp [and_assoc]; (try simp (disch := omega) only [wrap64]); (first | refine hK _ ?_ | refine ⟨by omega, hK _ ?_⟩ | refine ⟨by omega, by omega, hK _ ?_⟩ | refine ⟨by omega, by omega, by omega, hK _ ?_⟩); clear hK K)
    | refine aops.nil ?_
    | refine runD.nil ?_
    | (refine runD.cons fun K hK => ?_; simp [and_assoc]; (try simp (disch := omega) only [wrap64]); (first | refine hK _ _ (runD.eqs (by simp; rfl) ?_) | refine ⟨by omega, hK _ _ (runD.eqs (by simp; rfl) ?_)⟩ | refine ⟨by omega, by omega, hK _ _ (runD.eqs (by simp; rfl) ?_)⟩); clear hK K)
    | refine AW.seqD ttOK etOK mixOK _ (by simp [calmCount, isCalm]; rfl) (by kernel_rfl) (by kernel_rfl) (by kernel_rfl) (by kernel_rfl) ?_
    | refine AW.lastD ttOK etOK mixOK _ (by simp [calmCount, isCalm]; rfl) (by kernel_rfl) (by kernel_rfl) (by kernel_rfl) (by kernel_rfl) ?_
    | refine AW.seqDM ttOK etOK mixOK _ (by simp [calmCount, isCalm]; rfl) (by kernel_rfl) (by kernel_rfl) (by kernel_rfl) (by simp; rfl) ?_
    | refine AW.lastDM ttOK etOK mixOK _ (by simp [calmCount, isCalm]; rfl) (by kernel_rfl) (by kernel_rfl) (by kernel_rfl) (by simp; rfl) ?_
    | refine AW.seqR ttOK etOK ?_
    | refine AW.lastR ttOK etOK ?_
    | refine AW.seqSkip ?_
    | refine AW.seq ?_
    | refine AW.block ?_
    | (refine AW.skip ?_; simp only [andThen, inBlk, ↓reduceIte])
    | (refine AW.exit ?_; simp (disch := omega) only [andThen, inBlk, ↓reduceIte, Nat.reduceEqDiff])
    | (guard_target =~ andThen _ _ _ _; simp only [andThen, inBlk, ↓reduceIte])
  have hl : j < (startsGo 0 [] p).length := by rw [hf.len]; exact hj2
  have e : askedR p (j : Int) = .d (.sl 1 (eI (startsGo 0 [] p))) := by simp [askedR, h0]
  repeat first
    | (refine aops.cons fun K hK => ?_; simp [and_assoc, e]; (try simp (disch := omega) only [wrap64]); (first | refine hK _ ?_ | refine ⟨by omega, hK _ ?_⟩ | refine ⟨by omega, by omega, hK _ ?_⟩ | refine ⟨by omega, by omega, by omega, hK _ ?_⟩); clear hK K)
    | refine aops.nil ?_
    | refine runD.nil ?_
    | (refine runD.cons fun K hK => ?_; simp [and_assoc, e]; (try simp (disch := omega) only [wrap64]); (first | refine hK _ _ (runD.eqs (by simp; rfl) ?_) | refine ⟨by omega, hK _ _ (runD.eqs (by simp; rfl) ?_)⟩ | refine ⟨by omega, by omega, hK _ _ (runD.eqs (by simp; rfl) ?_)⟩); clear hK K)
    | refine AW.seqD ttOK etOK mixOK _ (by simp [calmCount, isCalm]; rfl) (by kernel_rfl) (by kernel_rfl) (by kernel_rfl) (by kernel_rfl) ?_
    | refine AW.lastD ttOK etOK mixOK _ (by simp [calmCount, isCalm]; rfl) (by kernel_rfl) (by kernel_rfl) (by kernel_rfl) (by kernel_rfl) ?_
    | refine AW.seqDM ttOK etOK mixOK _ (by simp [calmCount, isCalm]; rfl) (by kernel_rfl) (by kernel_rfl) (by kernel_rfl) (by simp; rfl) ?_
    | refine AW.lastDM ttOK etOK mixOK _ (by simp [calmCount, isCalm]; rfl) (by kernel_rfl) (by kernel_rfl) (by kernel_rfl) (by simp; rfl) ?_
    | refine AW.seqR ttOK etOK ?_
    | refine AW.lastR ttOK etOK ?_
    | refine AW.seqSkip ?_
    | refine AW.seq ?_
    | refine AW.block ?_
    | (refine AW.skip ?_; simp only [andThen, inBlk, ↓reduceIte])
    | (refine AW.exit ?_; simp (disch := omega) only [andThen, inBlk, ↓reduceIte, Nat.reduceEqDiff])
    | (guard_target =~ andThen _ _ _ _; simp only [andThen, inBlk, ↓reduceIte])
  first | refine aops.cons fun K hK => ?_ | refine runD.cons fun K hK => ?_
  simp [and_assoc, e]
  first | refine callA (good_inputs p (startsGo 0 [] p) j hp hf hj2) (by repeat (first | exact LeL.nil | refine LeL.cons (by first | exact Le.refl _ | exact Le.bs _ _ | exact Le.bp _ | exact Le.nilb _ | exact Le.nild _ | exact Le.un _) ?_)) (hK _ ?_) | refine callA (good_inputs p (startsGo 0 [] p) j hp hf hj2) (by repeat (first | exact LeL.nil | refine LeL.cons (by first | exact Le.refl _ | exact Le.bs _ _ | exact Le.bp _ | exact Le.nilb _ | exact Le.nild _ | exact Le.un _) ?_)) (hK _ _ (runD.eqs (by simp; rfl) ?_))
  clear hK K
  repeat first
    | (refine aops.cons fun K hK => ?_; simp [and_assoc, e, hl]; (try simp (disch := omega) only [wrap64]); (first | refine hK _ ?_ | refine ⟨by omega, hK _ ?_⟩ | refine ⟨by omega, by omega, hK _ ?_⟩ | refine ⟨by omega, by omega, by omega, hK _ ?_⟩); clear hK K)
    | refine aops.nil ?_
    | refine runD.nil ?_
    | (refine runD.cons fun K hK => ?_; simp [and_assoc, e, hl]; (try simp (disch := omega) only [wrap64]); (first | refine hK _ _ (runD.eqs (by simp; rfl) ?_) | refine ⟨by omega, hK _ _ (runD.eqs (by simp; rfl) ?_)⟩ | refine ⟨by omega, by omega, hK _ _ (runD.eqs (by simp; rfl) ?_)⟩); clear hK K)
    | refine AW.seqD ttOK etOK mixOK _ (by simp [calmCount, isCalm]; rfl) (by kernel_rfl) (by kernel_rfl) (by kernel_rfl) (by kernel_rfl) ?_
    | refine AW.lastD ttOK etOK mixOK _ (by simp [calmCount, isCalm]; rfl) (by kernel_rfl) (by kernel_rfl) (by kernel_rfl) (by kernel_rfl) ?_
    | refine AW.seqDM ttOK etOK mixOK _ (by simp [calmCount, isCalm]; rfl) (by kernel_rfl) (by kernel_rfl) (by kernel_rfl) (by simp; rfl) ?_
    | refine AW.lastDM ttOK etOK mixOK _ (by simp [calmCount, isCalm]; rfl) (by kernel_rfl) (by kernel_rfl) (by kernel_rfl) (by simp; rfl) ?_
    | refine AW.seqR ttOK etOK ?_
    | refine AW.lastR ttOK etOK ?_
    | refine AW.seqSkip ?_
    | refine AW.seq ?_
    | refine AW.block ?_
    | (refine AW.skip ?_; simp only [andThen, inBlk, ↓reduceIte])
    | (refine AW.exit ?_; simp (disch := omega) only [andThen, inBlk, ↓reduceIte, Nat.reduceEqDiff])
    | (guard_target =~ andThen _ _ _ _; simp only [andThen, inBlk, ↓reduceIte])
  exact AW.ret (by simp [resL, resA, resV, resVs, andThen, inBlk, h0, hl])
end Go.Proofs.Ab.Try
