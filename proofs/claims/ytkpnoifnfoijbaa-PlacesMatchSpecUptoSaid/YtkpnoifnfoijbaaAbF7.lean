/- A part of the proof of the law: it holds for all states of the abstract kind told in the first of these texts; no condition besides those its statements name. -/
import Derived.Test.YtkpnoifnfoijbaaAbF3
import Derived.Test.YtkpnoifnfoijbaaAbF5
namespace Go.Proofs.Ab.Try
open Go Go.Proofs Go.Proofs.Ab
set_option linter.unusedSimpArgs false
set_option linter.unusedVariables false
set_option maxHeartbeats 8000000
theorem le_inputsR (p : List PStep) (fr : List Int) (j : Nat) : Le (inputsR p fr j) (.bs 1 (eI (inputsOf p fr j))) := by
  unfold inputsR
  split
  · rename_i h; rw [h]; exact Le.nilb _
  · exact Le.bs _ _
@[simp] theorem passA_inputsR (full : Nat → Option Ob) (p : List PStep) (fr : List Int) (j : Nat) : passA full (inputsR p fr j) = some (inputsR p fr j) := by
  unfold inputsR; split <;> rfl
theorem inputsOf_length (p : List PStep) (fr : List Int) (j : Nat) : (inputsOf p fr j).length ≤ 2 := by
  unfold inputsOf
  split
  · simp
  · split
    · simp
    · split <;> simp
def takerGo (f : Nat → List Int) (j : Int) : Nat → Nat → Int
  | 0, _ => -1
  | n + 1, k => if j ∈ f k then k else takerGo f j n (k + 1)
def taker (len : Nat) (f : Nat → List Int) (j : Nat) : Int := takerGo f j (len - (j + 1)) (j + 1)
theorem takerGo_lt (f : Nat → List Int) (j : Int) : ∀ n k, takerGo f j n k = -1 ∨ ((k : Int) ≤ takerGo f j n k ∧ takerGo f j n k < k + n) := by
  intro n
  induction n with
  | zero => intro k; exact .inl rfl
  | succ n ih =>
    intro k
    simp only [takerGo]
    split
    · right; omega
    · rcases ih (k + 1) with h | h
      · exact .inl h
      · right; omega
theorem taker_lt (len : Nat) (f : Nat → List Int) (j : Nat) : taker len f j = -1 ∨ ((j : Int) < taker len f j ∧ taker len f j < len) := by
  unfold taker
  rcases takerGo_lt f j (len - (j + 1)) (j + 1) with h | h
  · exact .inl h
  · right; omega
theorem good_taker (p : List PStep) (fr : List Int) (j : Nat) (hp : p.length ≤ 2000000) (hf : FrOk p fr) (hj : j < p.length) : Good Try.prog 20 [aPlan p, .d (.sl 1 (eI fr)), aI j] (aI (taker p.length (inputsOf p fr) j)) := by
  refine goodF ttOK Try.func20 (vs := [.tmp 6]) (nt := 24) rfl rfl rfl (by kernel_rfl) (by simp) trivial ?_
  have hj' : (j : Int) < 2000000 := by omega
  repeat first
    | (refine aops.cons fun K hK => ?_; simp [and_assoc]; (try simp (disch := omega) only [wrap64]); (first | refine hK _ ?_ | refine ⟨by omega, hK _ ?_⟩ | refine ⟨by omega, by omega, hK _ ?_⟩ | refine ⟨by omega, by omega, by omega, hK _ ?_⟩); clear hK K)
    | refine aops.nil ?_
    | refine runD.nil ?_
    | (refine runD.cons fun K hK => ?_; simp [and_assoc]; (try simp (disch := omega) only [wrap64]); (first | refine hK _ _ (runD.eqs (by simp; rfl) ?_) | refine ⟨by omega, hK _ _ (runD.eqs (by simp; rfl) ?_)⟩ | refine ⟨by omega, by omega, hK _ _ (runD.eqs (by simp; rfl) ?_)⟩); clear hK K)
    | refine AW.seqD ttOK etOK mixOK _ (by simp [calmCount, isCalm]; rfl) (by decide +kernel) (by decide +kernel) (by decide +kernel) (by decide +kernel) ?_
    | refine AW.lastD ttOK etOK mixOK _ (by simp [calmCount, isCalm]; rfl) (by decide +kernel) (by decide +kernel) (by decide +kernel) (by decide +kernel) ?_
    | refine AW.seqDM ttOK etOK mixOK _ (by simp [calmCount, isCalm]; rfl) (by decide +kernel) (by decide +kernel) (by decide +kernel) (by simp; rfl) ?_
    | refine AW.lastDM ttOK etOK mixOK _ (by simp [calmCount, isCalm]; rfl) (by decide +kernel) (by decide +kernel) (by decide +kernel) (by simp; rfl) ?_
    | refine AW.seqR ttOK etOK ?_
    | refine AW.lastR ttOK etOK ?_
    | refine AW.seqSkip ?_
    | refine AW.seq ?_
    | refine AW.block ?_
    | (refine AW.skip ?_; simp only [andThen, inBlk, ↓reduceIte])
    | (refine AW.exit ?_; simp (disch := omega) only [andThen, inBlk, ↓reduceIte, Nat.reduceEqDiff])
    | (guard_target =~ andThen _ _ _ _; simp only [andThen, inBlk, ↓reduceIte])
  refine AW.iterI (fun i s => s = ⟨24, [(1, .d (.sl 1 (eI fr))), (2, aI j), (3, .pt 3 0), (7, aI ((j + 1 + i : Nat) : Int))], [(3, .var [.d (.sl 9 (p.map stepC))])]⟩ ∧ takerGo (inputsOf p fr) j (p.length - (j + 1 + i)) (j + 1 + i) = taker p.length (inputsOf p fr) j) (p.length - (j + 1)) (s₀ := ⟨24, [(1, .d (.sl 1 (eI fr))), (2, aI j), (3, .pt 3 0), (7, aI ((j + 1 : Nat) : Int))], [(3, .var [.d (.sl 9 (p.map stepC))])]⟩) ?_ ?_ ?_
  · exact Weak.to2 (by simp) (by simp)
  · exact ⟨rfl, rfl⟩
  rintro i s hi ⟨rfl, h2⟩
  obtain ⟨k, hk⟩ : ∃ k, j + 1 + i = k := ⟨_, rfl⟩
  rw [hk] at h2
  rw [hk]
  have hkk : (k : Int) ≤ 2000000 := by omega
  repeat first
    | (refine aops.cons fun K hK => ?_; simp [and_assoc]; (try simp (disch := omega) only [wrap64]); (first | refine hK _ ?_ | refine ⟨by omega, hK _ ?_⟩ | refine ⟨by omega, by omega, hK _ ?_⟩ | refine ⟨by omega, by omega, by omega, hK _ ?_⟩); clear hK K)
    | refine aops.nil ?_
    | refine runD.nil ?_
    | (refine runD.cons fun K hK => ?_; simp [and_assoc]; (try simp (disch := omega) only [wrap64]); (first | refine hK _ _ (runD.eqs (by simp; rfl) ?_) | refine ⟨by omega, hK _ _ (runD.eqs (by simp; rfl) ?_)⟩ | refine ⟨by omega, by omega, hK _ _ (runD.eqs (by simp; rfl) ?_)⟩); clear hK K)
    | refine AW.seqD ttOK etOK mixOK _ (by simp [calmCount, isCalm]; rfl) (by decide +kernel) (by decide +kernel) (by decide +kernel) (by decide +kernel) ?_
    | refine AW.lastD ttOK etOK mixOK _ (by simp [calmCount, isCalm]; rfl) (by decide +kernel) (by decide +kernel) (by decide +kernel) (by decide +kernel) ?_
    | refine AW.seqDM ttOK etOK mixOK _ (by simp [calmCount, isCalm]; rfl) (by decide +kernel) (by decide +kernel) (by decide +kernel) (by simp; rfl) ?_
    | refine AW.lastDM ttOK etOK mixOK _ (by simp [calmCount, isCalm]; rfl) (by decide +kernel) (by decide +kernel) (by decide +kernel) (by simp; rfl) ?_
    | refine AW.seqR ttOK etOK ?_
    | refine AW.lastR ttOK etOK ?_
    | refine AW.seqSkip ?_
    | refine AW.seq ?_
    | refine AW.block ?_
    | (refine AW.skip ?_; simp only [andThen, inBlk, ↓reduceIte])
    | (refine AW.exit ?_; simp (disch := omega) only [andThen, inBlk, ↓reduceIte, Nat.reduceEqDiff])
    | (guard_target =~ andThen _ _ _ _; simp only [andThen, inBlk, ↓reduceIte])
  by_cases hlt : k < p.length
  rotate_left
  · refine AW.cond _ (by rfl) (fun hx => absurd hx (by simp [hlt])) (fun _ => ?_)
    repeat first
      | (refine aops.cons fun K hK => ?_; simp [and_assoc]; (try simp (disch := omega) only [wrap64]); (first | refine hK _ ?_ | refine ⟨by omega, hK _ ?_⟩ | refine ⟨by omega, by omega, hK _ ?_⟩ | refine ⟨by omega, by omega, by omega, hK _ ?_⟩); clear hK K)
      | refine aops.nil ?_
      | refine runD.nil ?_
      | (refine runD.cons fun K hK => ?_; simp [and_assoc]; (try simp (disch := omega) only [wrap64]); (first | refine hK _ _ (runD.eqs (by simp; rfl) ?_) | refine ⟨by omega, hK _ _ (runD.eqs (by simp; rfl) ?_)⟩ | refine ⟨by omega, by omega, hK _ _ (runD.eqs (by simp; rfl) ?_)⟩); clear hK K)
      | refine AW.seqD ttOK etOK mixOK _ (by simp [calmCount, isCalm]; rfl) (by decide +kernel) (by decide +kernel) (by decide +kernel) (by decide +kernel) ?_
      | refine AW.lastD ttOK etOK mixOK _ (by simp [calmCount, isCalm]; rfl) (by decide +kernel) (by decide +kernel) (by decide +kernel) (by decide +kernel) ?_
      | refine AW.seqDM ttOK etOK mixOK _ (by simp [calmCount, isCalm]; rfl) (by decide +kernel) (by decide +kernel) (by decide +kernel) (by simp; rfl) ?_
      | refine AW.lastDM ttOK etOK mixOK _ (by simp [calmCount, isCalm]; rfl) (by decide +kernel) (by decide +kernel) (by decide +kernel) (by simp; rfl) ?_
      | refine AW.seqR ttOK etOK ?_
      | refine AW.lastR ttOK etOK ?_
      | refine AW.seqSkip ?_
      | refine AW.seq ?_
      | refine AW.block ?_
      | (refine AW.skip ?_; simp only [andThen, inBlk, ↓reduceIte])
      | (refine AW.exit ?_; simp (disch := omega) only [andThen, inBlk, ↓reduceIte, Nat.reduceEqDiff])
      | (guard_target =~ andThen _ _ _ _; simp only [andThen, inBlk, ↓reduceIte])
    have : p.length - k = 0 := by omega
    rw [this] at h2
    exact AW.ret (by simp [resL, resA, resV, resVs, andThen, inBlk, ← h2, takerGo])
  refine AW.cond _ (by rfl) (fun _ => ?_) (fun hx => absurd hx (by simp [hlt]))
  have e : p.length - k = (p.length - k - 1) + 1 := by omega
  rw [e] at h2
  have hle := le_inputsR p fr k
  have hil := inputsOf_length p fr k
  repeat first
    | (refine aops.cons fun K hK => ?_; simp [and_assoc]; (try simp (disch := omega) only [wrap64]); (first | refine hK _ ?_ | refine ⟨by omega, hK _ ?_⟩ | refine ⟨by omega, by omega, hK _ ?_⟩ | refine ⟨by omega, by omega, by omega, hK _ ?_⟩); clear hK K)
    | refine aops.nil ?_
    | refine runD.nil ?_
    | (refine runD.cons fun K hK => ?_; simp [and_assoc]; (try simp (disch := omega) only [wrap64]); (first | refine hK _ _ (runD.eqs (by simp; rfl) ?_) | refine ⟨by omega, hK _ _ (runD.eqs (by simp; rfl) ?_)⟩ | refine ⟨by omega, by omega, hK _ _ (runD.eqs (by simp; rfl) ?_)⟩); clear hK K)
    | refine AW.seqD ttOK etOK mixOK _ (by simp [calmCount, isCalm]; rfl) (by decide +kernel) (by decide +kernel) (by decide +kernel) (by decide +kernel) ?_
    | refine AW.lastD ttOK etOK mixOK _ (by simp [calmCount, isCalm]; rfl) (by decide +kernel) (by decide +kernel) (by decide +kernel) (by decide +kernel) ?_
    | refine AW.seqDM ttOK etOK mixOK _ (by simp [calmCount, isCalm]; rfl) (by decide +kernel) (by decide +kernel) (by decide +kernel) (by simp; rfl) ?_
    | refine AW.lastDM ttOK etOK mixOK _ (by simp [calmCount, isCalm]; rfl) (by decide +kernel) (by decide +kernel) (by decide +kernel) (by simp; rfl) ?_
    | refine AW.seqR ttOK etOK ?_
    | refine AW.lastR ttOK etOK ?_
    | refine AW.seqSkip ?_
    | refine AW.seq ?_
    | refine AW.block ?_
    | (refine AW.skip ?_; simp only [andThen, inBlk, ↓reduceIte])
    | (refine AW.exit ?_; simp (disch := omega) only [andThen, inBlk, ↓reduceIte, Nat.reduceEqDiff])
    | (guard_target =~ andThen _ _ _ _; simp only [andThen, inBlk, ↓reduceIte])
  first | refine aops.cons fun K hK => ?_ | refine runD.cons fun K hK => ?_
  simp [and_assoc]
  first | refine callA (good_inputs p fr k hp hf hlt) (by repeat (first | exact LeL.nil | refine LeL.cons (by first | exact Le.refl _ | exact Le.bs _ _ | exact Le.bp _ | exact Le.nilb _ | exact Le.nild _ | exact Le.un _ | assumption) ?_)) (hK _ ?_) | refine callA (good_inputs p fr k hp hf hlt) (by repeat (first | exact LeL.nil | refine LeL.cons (by first | exact Le.refl _ | exact Le.bs _ _ | exact Le.bp _ | exact Le.nilb _ | exact Le.nild _ | exact Le.un _ | assumption) ?_)) (hK _ _ (runD.eqs (by simp; rfl) ?_))
  clear hK K
  repeat first
    | (refine aops.cons fun K hK => ?_; simp [and_assoc]; (try simp (disch := omega) only [wrap64]); (first | refine hK _ ?_ | refine ⟨by omega, hK _ ?_⟩ | refine ⟨by omega, by omega, hK _ ?_⟩ | refine ⟨by omega, by omega, by omega, hK _ ?_⟩); clear hK K)
    | refine aops.nil ?_
    | refine runD.nil ?_
    | (refine runD.cons fun K hK => ?_; simp [and_assoc]; (try simp (disch := omega) only [wrap64]); (first | refine hK _ _ (runD.eqs (by simp; rfl) ?_) | refine ⟨by omega, hK _ _ (runD.eqs (by simp; rfl) ?_)⟩ | refine ⟨by omega, by omega, hK _ _ (runD.eqs (by simp; rfl) ?_)⟩); clear hK K)
    | refine AW.seqD ttOK etOK mixOK _ (by simp [calmCount, isCalm]; rfl) (by decide +kernel) (by decide +kernel) (by decide +kernel) (by decide +kernel) ?_
    | refine AW.lastD ttOK etOK mixOK _ (by simp [calmCount, isCalm]; rfl) (by decide +kernel) (by decide +kernel) (by decide +kernel) (by decide +kernel) ?_
    | refine AW.seqDM ttOK etOK mixOK _ (by simp [calmCount, isCalm]; rfl) (by decide +kernel) (by decide +kernel) (by decide +kernel) (by simp; rfl) ?_
    | refine AW.lastDM ttOK etOK mixOK _ (by simp [calmCount, isCalm]; rfl) (by decide +kernel) (by decide +kernel) (by decide +kernel) (by simp; rfl) ?_
    | refine AW.seqR ttOK etOK ?_
    | refine AW.lastR ttOK etOK ?_
    | refine AW.seqSkip ?_
    | refine AW.seq ?_
    | refine AW.block ?_
    | (refine AW.skip ?_; simp only [andThen, inBlk, ↓reduceIte])
    | (refine AW.exit ?_; simp (disch := omega) only [andThen, inBlk, ↓reduceIte, Nat.reduceEqDiff])
    | (guard_target =~ andThen _ _ _ _; simp only [andThen, inBlk, ↓reduceIte])
  first | refine aops.cons fun K hK => ?_ | refine runD.cons fun K hK => ?_
  simp [and_assoc]
  first | refine callA (good_Contains (inputsOf p fr k) j (by omega)) (by repeat (first | exact LeL.nil | refine LeL.cons (by first | exact Le.refl _ | exact Le.bs _ _ | exact Le.bp _ | exact Le.nilb _ | exact Le.nild _ | exact Le.un _ | assumption) ?_)) (hK _ ?_) | refine callA (good_Contains (inputsOf p fr k) j (by omega)) (by repeat (first | exact LeL.nil | refine LeL.cons (by first | exact Le.refl _ | exact Le.bs _ _ | exact Le.bp _ | exact Le.nilb _ | exact Le.nild _ | exact Le.un _ | assumption) ?_)) (hK _ _ (runD.eqs (by simp; rfl) ?_))
  clear hK K
  repeat first
    | (refine aops.cons fun K hK => ?_; simp [and_assoc]; (try simp (disch := omega) only [wrap64]); (first | refine hK _ ?_ | refine ⟨by omega, hK _ ?_⟩ | refine ⟨by omega, by omega, hK _ ?_⟩ | refine ⟨by omega, by omega, by omega, hK _ ?_⟩); clear hK K)
    | refine aops.nil ?_
    | refine runD.nil ?_
    | (refine runD.cons fun K hK => ?_; simp [and_assoc]; (try simp (disch := omega) only [wrap64]); (first | refine hK _ _ (runD.eqs (by simp; rfl) ?_) | refine ⟨by omega, hK _ _ (runD.eqs (by simp; rfl) ?_)⟩ | refine ⟨by omega, by omega, hK _ _ (runD.eqs (by simp; rfl) ?_)⟩); clear hK K)
    | refine AW.seqD ttOK etOK mixOK _ (by simp [calmCount, isCalm]; rfl) (by decide +kernel) (by decide +kernel) (by decide +kernel) (by decide +kernel) ?_
    | refine AW.lastD ttOK etOK mixOK _ (by simp [calmCount, isCalm]; rfl) (by decide +kernel) (by decide +kernel) (by decide +kernel) (by decide +kernel) ?_
    | refine AW.seqDM ttOK etOK mixOK _ (by simp [calmCount, isCalm]; rfl) (by decide +kernel) (by decide +kernel) (by decide +kernel) (by simp; rfl) ?_
    | refine AW.lastDM ttOK etOK mixOK _ (by simp [calmCount, isCalm]; rfl) (by decide +kernel) (by decide +kernel) (by decide +kernel) (by simp; rfl) ?_
    | refine AW.seqR ttOK etOK ?_
    | refine AW.lastR ttOK etOK ?_
    | refine AW.seqSkip ?_
    | refine AW.seq ?_
    | refine AW.block ?_
    | (refine AW.skip ?_; simp only [andThen, inBlk, ↓reduceIte])
    | (refine AW.exit ?_; simp (disch := omega) only [andThen, inBlk, ↓reduceIte, Nat.reduceEqDiff])
    | (guard_target =~ andThen _ _ _ _; simp only [andThen, inBlk, ↓reduceIte])
  by_cases hm : (j : Int) ∈ inputsOf p fr k
  · refine AW.cond _ (by rfl) (fun _ => ?_) (fun hx => absurd hx (by simp [hm]))
    repeat first
      | (refine aops.cons fun K hK => ?_; simp [and_assoc]; (try simp (disch := omega) only [wrap64]); (first | refine hK _ ?_ | refine ⟨by omega, hK _ ?_⟩ | refine ⟨by omega, by omega, hK _ ?_⟩ | refine ⟨by omega, by omega, by omega, hK _ ?_⟩); clear hK K)
      | refine aops.nil ?_
      | refine runD.nil ?_
      | (refine runD.cons fun K hK => ?_; simp [and_assoc]; (try simp (disch := omega) only [wrap64]); (first | refine hK _ _ (runD.eqs (by simp; rfl) ?_) | refine ⟨by omega, hK _ _ (runD.eqs (by simp; rfl) ?_)⟩ | refine ⟨by omega, by omega, hK _ _ (runD.eqs (by simp; rfl) ?_)⟩); clear hK K)
      | refine AW.seqD ttOK etOK mixOK _ (by simp [calmCount, isCalm]; rfl) (by decide +kernel) (by decide +kernel) (by decide +kernel) (by decide +kernel) ?_
      | refine AW.lastD ttOK etOK mixOK _ (by simp [calmCount, isCalm]; rfl) (by decide +kernel) (by decide +kernel) (by decide +kernel) (by decide +kernel) ?_
      | refine AW.seqDM ttOK etOK mixOK _ (by simp [calmCount, isCalm]; rfl) (by decide +kernel) (by decide +kernel) (by decide +kernel) (by simp; rfl) ?_
      | refine AW.lastDM ttOK etOK mixOK _ (by simp [calmCount, isCalm]; rfl) (by decide +kernel) (by decide +kernel) (by decide +kernel) (by simp; rfl) ?_
      | refine AW.seqR ttOK etOK ?_
      | refine AW.lastR ttOK etOK ?_
      | refine AW.seqSkip ?_
      | refine AW.seq ?_
      | refine AW.block ?_
      | (refine AW.skip ?_; simp only [andThen, inBlk, ↓reduceIte])
      | (refine AW.exit ?_; simp (disch := omega) only [andThen, inBlk, ↓reduceIte, Nat.reduceEqDiff])
      | (guard_target =~ andThen _ _ _ _; simp only [andThen, inBlk, ↓reduceIte])
    exact AW.ret (by simp [resL, resA, resV, resVs, andThen, inBlk, ← h2, takerGo, hm])
  refine AW.cond _ (by rfl) (fun hx => absurd hx (by simp [hm])) (fun _ => ?_)
  repeat first
    | (refine aops.cons fun K hK => ?_; simp [and_assoc]; (try simp (disch := omega) only [wrap64]); (first | refine hK _ ?_ | refine ⟨by omega, hK _ ?_⟩ | refine ⟨by omega, by omega, hK _ ?_⟩ | refine ⟨by omega, by omega, by omega, hK _ ?_⟩); clear hK K)
    | refine aops.nil ?_
    | refine runD.nil ?_
    | (refine runD.cons fun K hK => ?_; simp [and_assoc]; (try simp (disch := omega) only [wrap64]); (first | refine hK _ _ (runD.eqs (by simp; rfl) ?_) | refine ⟨by omega, hK _ _ (runD.eqs (by simp; rfl) ?_)⟩ | refine ⟨by omega, by omega, hK _ _ (runD.eqs (by simp; rfl) ?_)⟩); clear hK K)
    | refine AW.seqD ttOK etOK mixOK _ (by simp [calmCount, isCalm]; rfl) (by decide +kernel) (by decide +kernel) (by decide +kernel) (by decide +kernel) ?_
    | refine AW.lastD ttOK etOK mixOK _ (by simp [calmCount, isCalm]; rfl) (by decide +kernel) (by decide +kernel) (by decide +kernel) (by decide +kernel) ?_
    | refine AW.seqDM ttOK etOK mixOK _ (by simp [calmCount, isCalm]; rfl) (by decide +kernel) (by decide +kernel) (by decide +kernel) (by simp; rfl) ?_
    | refine AW.lastDM ttOK etOK mixOK _ (by simp [calmCount, isCalm]; rfl) (by decide +kernel) (by decide +kernel) (by decide +kernel) (by simp; rfl) ?_
    | refine AW.seqR ttOK etOK ?_
    | refine AW.lastR ttOK etOK ?_
    | refine AW.seqSkip ?_
    | refine AW.seq ?_
    | refine AW.block ?_
    | (refine AW.skip ?_; simp only [andThen, inBlk, ↓reduceIte])
    | (refine AW.exit ?_; simp (disch := omega) only [andThen, inBlk, ↓reduceIte, Nat.reduceEqDiff])
    | (guard_target =~ andThen _ _ _ _; simp only [andThen, inBlk, ↓reduceIte])
  refine ⟨by omega, ⟨24, [(1, .d (.sl 1 (eI fr))), (2, aI j), (3, .pt 3 0), (7, aI ((j + 1 + (i + 1) : Nat) : Int))], [(3, .var [.d (.sl 9 (p.map stepC))])]⟩, ?_, rfl, ?_⟩
  · have e2 : ((j + 1 + (i + 1) : Nat) : Int) = k + 1 := by omega
    rw [e2]
    exact Weak.to2 (by simp) (by simp)
  · rw [← h2, show j + 1 + (i + 1) = k + 1 by omega, show p.length - (k + 1) = p.length - k - 1 by omega]
    simp [takerGo, hm]
def kindAt (p : List PStep) (k : Nat) : Int := match p[k]? with | some x => x.kind | none => 0
def looseGo (p : List PStep) (f : Nat → List Int) : Nat → Int → Bool
  | 0, _ => true
  | n + 1, k => if k < 0 then true else if kindAt p k.toNat = 7 then false else looseGo p f n (taker p.length f k.toNat)
def looseOf (p : List PStep) (f : Nat → List Int) (j : Nat) : Bool := looseGo p f (p.length + 1) (taker p.length f j)
theorem asked_ok {p : List PStep} {step : Int} (h0 : askedF p step = 0) : ∃ j : Nat, step = j ∧ j < p.length ∧ wfGo 0 p = true := by
  unfold askedF at h0
  split at h0
  · rename_i h; simp [inR] at h
    split at h0
    · exact ⟨step.toNat, by omega, by omega, by assumption⟩
    · cases h0
  · cases h0
theorem good_Loose (p : List PStep) (step : Int) (hp : p.length ≤ 2000000) : Good Try.prog 10 [aPlan p, aI step]
    (.tp [aB (decide (askedF p step = 0) && looseOf p (inputsOf p (startsGo 0 [] p)) step.toNat), aI (askedF p step)]) := by
  refine goodF ttOK Try.func10 (vs := [.tmp 4, .tmp 5]) (nt := 35) rfl rfl rfl (by kernel_rfl) (by simp) (by simp [dataA, dataL]) ?_
  repeat first
    | (refine aops.cons fun K hK => ?_; simp [and_assoc]; (try simp (disch := omega) only [wrap64]); (first | refine hK _ ?_ | refine ⟨by omega, hK _ ?_⟩ | refine ⟨by omega, by omega, hK _ ?_⟩ | refine ⟨by omega, by omega, by omega, hK _ ?_⟩); clear hK K)
    | refine aops.nil ?_
    | refine runD.nil ?_
    | (refine runD.cons fun K hK => ?_; simp [and_assoc]; (try simp (disch := omega) only [wrap64]); (first | refine hK _ _ (runD.eqs (by simp; rfl) ?_) | refine ⟨by omega, hK _ _ (runD.eqs (by simp; rfl) ?_)⟩ | refine ⟨by omega, by omega, hK _ _ (runD.eqs (by simp; rfl) ?_)⟩); clear hK K)
    | refine AW.seqD ttOK etOK mixOK _ (by simp [calmCount, isCalm]; rfl) (by decide +kernel) (by decide +kernel) (by decide +kernel) (by decide +kernel) ?_
    | refine AW.lastD ttOK etOK mixOK _ (by simp [calmCount, isCalm]; rfl) (by decide +kernel) (by decide +kernel) (by decide +kernel) (by decide +kernel) ?_
    | refine AW.seqDM ttOK etOK mixOK _ (by simp [calmCount, isCalm]; rfl) (by decide +kernel) (by decide +kernel) (by decide +kernel) (by simp; rfl) ?_
    | refine AW.lastDM ttOK etOK mixOK _ (by simp [calmCount, isCalm]; rfl) (by decide +kernel) (by decide +kernel) (by decide +kernel) (by simp; rfl) ?_
    | refine AW.seqR ttOK etOK ?_
    | refine AW.lastR ttOK etOK ?_
    | refine AW.seqSkip ?_
    | refine AW.seq ?_
    | refine AW.block ?_
    | (refine AW.skip ?_; simp only [andThen, inBlk, ↓reduceIte])
    | (refine AW.exit ?_; simp (disch := omega) only [andThen, inBlk, ↓reduceIte, Nat.reduceEqDiff])
    | (guard_target =~ andThen _ _ _ _; simp only [andThen, inBlk, ↓reduceIte])
  first | refine aops.cons fun K hK => ?_ | refine runD.cons fun K hK => ?_
  simp [and_assoc]
  first | refine callA (good_asked p step hp) (by repeat (first | exact LeL.nil | refine LeL.cons (by first | exact Le.refl _ | exact Le.bs _ _ | exact Le.bp _ | exact Le.nilb _ | exact Le.nild _ | exact Le.un _ | assumption) ?_)) (hK _ ?_) | refine callA (good_asked p step hp) (by repeat (first | exact LeL.nil | refine LeL.cons (by first | exact Le.refl _ | exact Le.bs _ _ | exact Le.bp _ | exact Le.nilb _ | exact Le.nild _ | exact Le.un _ | assumption) ?_)) (hK _ _ (runD.eqs (by simp; rfl) ?_))
  clear hK K
  by_cases h0 : askedF p step = 0
  rotate_left
  · repeat first
      | (refine aops.cons fun K hK => ?_; simp [and_assoc]; (try simp (disch := omega) only [wrap64]); (first | refine hK _ ?_ | refine ⟨by omega, hK _ ?_⟩ | refine ⟨by omega, by omega, hK _ ?_⟩ | refine ⟨by omega, by omega, by omega, hK _ ?_⟩); clear hK K)
      | refine aops.nil ?_
      | refine runD.nil ?_
      | (refine runD.cons fun K hK => ?_; simp [and_assoc]; (try simp (disch := omega) only [wrap64]); (first | refine hK _ _ (runD.eqs (by simp; rfl) ?_) | refine ⟨by omega, hK _ _ (runD.eqs (by simp; rfl) ?_)⟩ | refine ⟨by omega, by omega, hK _ _ (runD.eqs (by simp; rfl) ?_)⟩); clear hK K)
      | refine AW.seqD ttOK etOK mixOK _ (by simp [calmCount, isCalm]; rfl) (by decide +kernel) (by decide +kernel) (by decide +kernel) (by decide +kernel) ?_
      | refine AW.lastD ttOK etOK mixOK _ (by simp [calmCount, isCalm]; rfl) (by decide +kernel) (by decide +kernel) (by decide +kernel) (by decide +kernel) ?_
      | refine AW.seqDM ttOK etOK mixOK _ (by simp [calmCount, isCalm]; rfl) (by decide +kernel) (by decide +kernel) (by decide +kernel) (by simp; rfl) ?_
      | refine AW.lastDM ttOK etOK mixOK _ (by simp [calmCount, isCalm]; rfl) (by decide +kernel) (by decide +kernel) (by decide +kernel) (by simp; rfl) ?_
      | refine AW.seqR ttOK etOK ?_
      | refine AW.lastR ttOK etOK ?_
      | refine AW.seqSkip ?_
      | refine AW.seq ?_
      | refine AW.block ?_
      | (refine AW.skip ?_; simp only [andThen, inBlk, ↓reduceIte])
      | (refine AW.exit ?_; simp (disch := omega) only [andThen, inBlk, ↓reduceIte, Nat.reduceEqDiff])
      | (guard_target =~ andThen _ _ _ _; simp only [andThen, inBlk, ↓reduceIte])
    refine AW.cond _ (by rfl) (fun _ => ?_) (fun hx => absurd hx (by simp [h0]))
    repeat first
      | (refine aops.cons fun K hK => ?_; simp [and_assoc]; (try simp (disch := omega) only [wrap64]); (first | refine hK _ ?_ | refine ⟨by omega, hK _ ?_⟩ | refine ⟨by omega, by omega, hK _ ?_⟩ | refine ⟨by omega, by omega, by omega, hK _ ?_⟩); clear hK K)
      | refine aops.nil ?_
      | refine runD.nil ?_
      | (refine runD.cons fun K hK => ?_; simp [and_assoc]; (try simp (disch := omega) only [wrap64]); (first | refine hK _ _ (runD.eqs (by simp; rfl) ?_) | refine ⟨by omega, hK _ _ (runD.eqs (by simp; rfl) ?_)⟩ | refine ⟨by omega, by omega, hK _ _ (runD.eqs (by simp; rfl) ?_)⟩); clear hK K)
      | refine AW.seqD ttOK etOK mixOK _ (by simp [calmCount, isCalm]; rfl) (by decide +kernel) (by decide +kernel) (by decide +kernel) (by decide +kernel) ?_
      | refine AW.lastD ttOK etOK mixOK _ (by simp [calmCount, isCalm]; rfl) (by decide +kernel) (by decide +kernel) (by decide +kernel) (by decide +kernel) ?_
      | refine AW.seqDM ttOK etOK mixOK _ (by simp [calmCount, isCalm]; rfl) (by decide +kernel) (by decide +kernel) (by decide +kernel) (by simp; rfl) ?_
      | refine AW.lastDM ttOK etOK mixOK _ (by simp [calmCount, isCalm]; rfl) (by decide +kernel) (by decide +kernel) (by decide +kernel) (by simp; rfl) ?_
      | refine AW.seqR ttOK etOK ?_
      | refine AW.lastR ttOK etOK ?_
      | refine AW.seqSkip ?_
      | refine AW.seq ?_
      | refine AW.block ?_
      | (refine AW.skip ?_; simp only [andThen, inBlk, ↓reduceIte])
      | (refine AW.exit ?_; simp (disch := omega) only [andThen, inBlk, ↓reduceIte, Nat.reduceEqDiff])
      | (guard_target =~ andThen _ _ _ _; simp only [andThen, inBlk, ↓reduceIte])
    exact AW.ret (by simp [resL, resA, resV, resVs, andThen, inBlk, h0])
  obtain ⟨j, rfl, hj2, hw⟩ := asked_ok h0
  have hf := frOk hp hw
  have e : askedR p (j : Int) = .d (.sl 1 (eI (startsGo 0 [] p))) := by simp [askedR, h0]
  obtain ⟨fr, hfr⟩ : ∃ fr, startsGo 0 [] p = fr := ⟨_, rfl⟩
  rw [hfr] at hf e
  rw [hfr]
  repeat first
    | (refine aops.cons fun K hK => ?_; simp [and_assoc, e]; (try simp (disch := omega) only [wrap64]); (first | refine hK _ ?_ | refine ⟨by omega, hK _ ?_⟩ | refine ⟨by omega, by omega, hK _ ?_⟩ | refine ⟨by omega, by omega, by omega, hK _ ?_⟩); clear hK K)
    | refine aops.nil ?_
    | refine runD.nil ?_
    | (refine runD.cons fun K hK => ?_; simp [and_assoc, e]; (try simp (disch := omega) only [wrap64]); (first | refine hK _ _ (runD.eqs (by simp; rfl) ?_) | refine ⟨by omega, hK _ _ (runD.eqs (by simp; rfl) ?_)⟩ | refine ⟨by omega, by omega, hK _ _ (runD.eqs (by simp; rfl) ?_)⟩); clear hK K)
    | refine AW.seqD ttOK etOK mixOK _ (by simp [calmCount, isCalm]; rfl) (by decide +kernel) (by decide +kernel) (by decide +kernel) (by decide +kernel) ?_
    | refine AW.lastD ttOK etOK mixOK _ (by simp [calmCount, isCalm]; rfl) (by decide +kernel) (by decide +kernel) (by decide +kernel) (by decide +kernel) ?_
    | refine AW.seqDM ttOK etOK mixOK _ (by simp [calmCount, isCalm]; rfl) (by decide +kernel) (by decide +kernel) (by decide +kernel) (by simp; rfl) ?_
    | refine AW.lastDM ttOK etOK mixOK _ (by simp [calmCount, isCalm]; rfl) (by decide +kernel) (by decide +kernel) (by decide +kernel) (by simp; rfl) ?_
    | refine AW.seqR ttOK etOK ?_
    | refine AW.lastR ttOK etOK ?_
    | refine AW.seqSkip ?_
    | refine AW.seq ?_
    | refine AW.block ?_
    | (refine AW.skip ?_; simp only [andThen, inBlk, ↓reduceIte])
    | (refine AW.exit ?_; simp (disch := omega) only [andThen, inBlk, ↓reduceIte, Nat.reduceEqDiff])
    | (guard_target =~ andThen _ _ _ _; simp only [andThen, inBlk, ↓reduceIte])
  refine AW.cond _ (by rfl) (fun hx => absurd hx (by simp [h0])) (fun _ => ?_)
  repeat first
    | (refine aops.cons fun K hK => ?_; simp [and_assoc]; (try simp (disch := omega) only [wrap64]); (first | refine hK _ ?_ | refine ⟨by omega, hK _ ?_⟩ | refine ⟨by omega, by omega, hK _ ?_⟩ | refine ⟨by omega, by omega, by omega, hK _ ?_⟩); clear hK K)
    | refine aops.nil ?_
    | refine runD.nil ?_
    | (refine runD.cons fun K hK => ?_; simp [and_assoc]; (try simp (disch := omega) only [wrap64]); (first | refine hK _ _ (runD.eqs (by simp; rfl) ?_) | refine ⟨by omega, hK _ _ (runD.eqs (by simp; rfl) ?_)⟩ | refine ⟨by omega, by omega, hK _ _ (runD.eqs (by simp; rfl) ?_)⟩); clear hK K)
    | refine AW.seqD ttOK etOK mixOK _ (by simp [calmCount, isCalm]; rfl) (by decide +kernel) (by decide +kernel) (by decide +kernel) (by decide +kernel) ?_
    | refine AW.lastD ttOK etOK mixOK _ (by simp [calmCount, isCalm]; rfl) (by decide +kernel) (by decide +kernel) (by decide +kernel) (by decide +kernel) ?_
    | refine AW.seqDM ttOK etOK mixOK _ (by simp [calmCount, isCalm]; rfl) (by decide +kernel) (by decide +kernel) (by decide +kernel) (by simp; rfl) ?_
    | refine AW.lastDM ttOK etOK mixOK _ (by simp [calmCount, isCalm]; rfl) (by decide +kernel) (by decide +kernel) (by decide +kernel) (by simp; rfl) ?_
    | refine AW.seqR ttOK etOK ?_
    | refine AW.lastR ttOK etOK ?_
    | refine AW.seqSkip ?_
    | refine AW.seq ?_
    | refine AW.block ?_
    | (refine AW.skip ?_; simp only [andThen, inBlk, ↓reduceIte])
    | (refine AW.exit ?_; simp (disch := omega) only [andThen, inBlk, ↓reduceIte, Nat.reduceEqDiff])
    | (guard_target =~ andThen _ _ _ _; simp only [andThen, inBlk, ↓reduceIte])
  first | refine aops.cons fun K hK => ?_ | refine runD.cons fun K hK => ?_
  simp [and_assoc]
  first | refine callA (good_taker p fr j hp hf hj2) (by repeat (first | exact LeL.nil | refine LeL.cons (by first | exact Le.refl _ | exact Le.bs _ _ | exact Le.bp _ | exact Le.nilb _ | exact Le.nild _ | exact Le.un _ | assumption) ?_)) (hK _ ?_) | refine callA (good_taker p fr j hp hf hj2) (by repeat (first | exact LeL.nil | refine LeL.cons (by first | exact Le.refl _ | exact Le.bs _ _ | exact Le.bp _ | exact Le.nilb _ | exact Le.nild _ | exact Le.un _ | assumption) ?_)) (hK _ _ (runD.eqs (by simp; rfl) ?_))
  clear hK K
  have ht := taker_lt p.length (inputsOf p fr) j
  repeat first
    | (refine aops.cons fun K hK => ?_; simp [and_assoc]; (try simp (disch := omega) only [wrap64]); (first | refine hK _ ?_ | refine ⟨by omega, hK _ ?_⟩ | refine ⟨by omega, by omega, hK _ ?_⟩ | refine ⟨by omega, by omega, by omega, hK _ ?_⟩); clear hK K)
    | refine aops.nil ?_
    | refine runD.nil ?_
    | (refine runD.cons fun K hK => ?_; simp [and_assoc]; (try simp (disch := omega) only [wrap64]); (first | refine hK _ _ (runD.eqs (by simp; rfl) ?_) | refine ⟨by omega, hK _ _ (runD.eqs (by simp; rfl) ?_)⟩ | refine ⟨by omega, by omega, hK _ _ (runD.eqs (by simp; rfl) ?_)⟩); clear hK K)
    | refine AW.seqD ttOK etOK mixOK _ (by simp [calmCount, isCalm]; rfl) (by decide +kernel) (by decide +kernel) (by decide +kernel) (by decide +kernel) ?_
    | refine AW.lastD ttOK etOK mixOK _ (by simp [calmCount, isCalm]; rfl) (by decide +kernel) (by decide +kernel) (by decide +kernel) (by decide +kernel) ?_
    | refine AW.seqDM ttOK etOK mixOK _ (by simp [calmCount, isCalm]; rfl) (by decide +kernel) (by decide +kernel) (by decide +kernel) (by simp; rfl) ?_
    | refine AW.lastDM ttOK etOK mixOK _ (by simp [calmCount, isCalm]; rfl) (by decide +kernel) (by decide +kernel) (by decide +kernel) (by simp; rfl) ?_
    | refine AW.seqR ttOK etOK ?_
    | refine AW.lastR ttOK etOK ?_
    | refine AW.seqSkip ?_
    | refine AW.seq ?_
    | refine AW.block ?_
    | (refine AW.skip ?_; simp only [andThen, inBlk, ↓reduceIte])
    | (refine AW.exit ?_; simp (disch := omega) only [andThen, inBlk, ↓reduceIte, Nat.reduceEqDiff])
    | (guard_target =~ andThen _ _ _ _; simp only [andThen, inBlk, ↓reduceIte])
  refine AW.iterI (fun i s => ∃ k : Int, s = ⟨35, [(2, .pt 2 0), (6, .d (.sl 1 (eI fr))), (8, aI k)], [(2, .var [.d (.sl 9 (p.map stepC))])]⟩ ∧ (k = -1 ∨ ((i : Int) ≤ k ∧ k < p.length)) ∧ looseGo p (inputsOf p fr) (p.length + 1 - i) k = looseOf p (inputsOf p fr) j) p.length (s₀ := ⟨35, [(2, .pt 2 0), (6, .d (.sl 1 (eI fr))), (8, aI (taker p.length (inputsOf p fr) j))], [(2, .var [.d (.sl 9 (p.map stepC))])]⟩) ?_ ?_ ?_
  · exact Weak.to2 (by simp) (by simp)
  · exact ⟨_, rfl, by omega, rfl⟩
  rintro i s hi ⟨k, rfl, hk, h2⟩
  have en : p.length + 1 - i = (p.length - i) + 1 := by omega
  rw [en] at h2
  repeat first
    | (refine aops.cons fun K hK => ?_; simp [and_assoc]; (try simp (disch := omega) only [wrap64]); (first | refine hK _ ?_ | refine ⟨by omega, hK _ ?_⟩ | refine ⟨by omega, by omega, hK _ ?_⟩ | refine ⟨by omega, by omega, by omega, hK _ ?_⟩); clear hK K)
    | refine aops.nil ?_
    | refine runD.nil ?_
    | (refine runD.cons fun K hK => ?_; simp [and_assoc]; (try simp (disch := omega) only [wrap64]); (first | refine hK _ _ (runD.eqs (by simp; rfl) ?_) | refine ⟨by omega, hK _ _ (runD.eqs (by simp; rfl) ?_)⟩ | refine ⟨by omega, by omega, hK _ _ (runD.eqs (by simp; rfl) ?_)⟩); clear hK K)
    | refine AW.seqD ttOK etOK mixOK _ (by simp [calmCount, isCalm]; rfl) (by decide +kernel) (by decide +kernel) (by decide +kernel) (by decide +kernel) ?_
    | refine AW.lastD ttOK etOK mixOK _ (by simp [calmCount, isCalm]; rfl) (by decide +kernel) (by decide +kernel) (by decide +kernel) (by decide +kernel) ?_
    | refine AW.seqDM ttOK etOK mixOK _ (by simp [calmCount, isCalm]; rfl) (by decide +kernel) (by decide +kernel) (by decide +kernel) (by simp; rfl) ?_
    | refine AW.lastDM ttOK etOK mixOK _ (by simp [calmCount, isCalm]; rfl) (by decide +kernel) (by decide +kernel) (by decide +kernel) (by simp; rfl) ?_
    | refine AW.seqR ttOK etOK ?_
    | refine AW.lastR ttOK etOK ?_
    | refine AW.seqSkip ?_
    | refine AW.seq ?_
    | refine AW.block ?_
    | (refine AW.skip ?_; simp only [andThen, inBlk, ↓reduceIte])
    | (refine AW.exit ?_; simp (disch := omega) only [andThen, inBlk, ↓reduceIte, Nat.reduceEqDiff])
    | (guard_target =~ andThen _ _ _ _; simp only [andThen, inBlk, ↓reduceIte])
  by_cases hneg : k < 0
  · have hneg' : ¬ (0 ≤ k) := by omega
    refine AW.cond _ (by rfl) (fun hx => absurd hx (by simp [hneg])) (fun _ => ?_)
    repeat first
      | (refine aops.cons fun K hK => ?_; simp [and_assoc]; (try simp (disch := omega) only [wrap64]); (first | refine hK _ ?_ | refine ⟨by omega, hK _ ?_⟩ | refine ⟨by omega, by omega, hK _ ?_⟩ | refine ⟨by omega, by omega, by omega, hK _ ?_⟩); clear hK K)
      | refine aops.nil ?_
      | refine runD.nil ?_
      | (refine runD.cons fun K hK => ?_; simp [and_assoc]; (try simp (disch := omega) only [wrap64]); (first | refine hK _ _ (runD.eqs (by simp; rfl) ?_) | refine ⟨by omega, hK _ _ (runD.eqs (by simp; rfl) ?_)⟩ | refine ⟨by omega, by omega, hK _ _ (runD.eqs (by simp; rfl) ?_)⟩); clear hK K)
      | refine AW.seqD ttOK etOK mixOK _ (by simp [calmCount, isCalm]; rfl) (by decide +kernel) (by decide +kernel) (by decide +kernel) (by decide +kernel) ?_
      | refine AW.lastD ttOK etOK mixOK _ (by simp [calmCount, isCalm]; rfl) (by decide +kernel) (by decide +kernel) (by decide +kernel) (by decide +kernel) ?_
      | refine AW.seqDM ttOK etOK mixOK _ (by simp [calmCount, isCalm]; rfl) (by decide +kernel) (by decide +kernel) (by decide +kernel) (by simp; rfl) ?_
      | refine AW.lastDM ttOK etOK mixOK _ (by simp [calmCount, isCalm]; rfl) (by decide +kernel) (by decide +kernel) (by decide +kernel) (by simp; rfl) ?_
      | refine AW.seqR ttOK etOK ?_
      | refine AW.lastR ttOK etOK ?_
      | refine AW.seqSkip ?_
      | refine AW.seq ?_
      | refine AW.block ?_
      | (refine AW.skip ?_; simp only [andThen, inBlk, ↓reduceIte])
      | (refine AW.exit ?_; simp (disch := omega) only [andThen, inBlk, ↓reduceIte, Nat.reduceEqDiff])
      | (guard_target =~ andThen _ _ _ _; simp only [andThen, inBlk, ↓reduceIte])
    exact AW.ret (by simp [resL, resA, resV, resVs, andThen, inBlk, ← h2, looseGo, hneg, h0])
  refine AW.cond _ (by rfl) (fun _ => ?_) (fun hx => absurd hx (by simp [hneg]))
  obtain ⟨m, rfl⟩ : ∃ m : Nat, k = m := ⟨k.toNat, by omega⟩
  have hm : m < p.length := by omega
  obtain ⟨x, hx⟩ : ∃ x, p[m]? = some x := ⟨p[m], List.getElem?_eq_getElem hm⟩
  have hka : kindAt p m = x.kind := by simp [kindAt, hx]
  repeat first
    | (refine aops.cons fun K hK => ?_; simp [and_assoc, hx]; (try simp (disch := omega) only [wrap64]); (first | refine hK _ ?_ | refine ⟨by omega, hK _ ?_⟩ | refine ⟨by omega, by omega, hK _ ?_⟩ | refine ⟨by omega, by omega, by omega, hK _ ?_⟩); clear hK K)
    | refine aops.nil ?_
    | refine runD.nil ?_
    | (refine runD.cons fun K hK => ?_; simp [and_assoc, hx]; (try simp (disch := omega) only [wrap64]); (first | refine hK _ _ (runD.eqs (by simp; rfl) ?_) | refine ⟨by omega, hK _ _ (runD.eqs (by simp; rfl) ?_)⟩ | refine ⟨by omega, by omega, hK _ _ (runD.eqs (by simp; rfl) ?_)⟩); clear hK K)
    | refine AW.seqD ttOK etOK mixOK _ (by simp [calmCount, isCalm]; rfl) (by decide +kernel) (by decide +kernel) (by decide +kernel) (by decide +kernel) ?_
    | refine AW.lastD ttOK etOK mixOK _ (by simp [calmCount, isCalm]; rfl) (by decide +kernel) (by decide +kernel) (by decide +kernel) (by decide +kernel) ?_
    | refine AW.seqDM ttOK etOK mixOK _ (by simp [calmCount, isCalm]; rfl) (by decide +kernel) (by decide +kernel) (by decide +kernel) (by simp; rfl) ?_
    | refine AW.lastDM ttOK etOK mixOK _ (by simp [calmCount, isCalm]; rfl) (by decide +kernel) (by decide +kernel) (by decide +kernel) (by simp; rfl) ?_
    | refine AW.seqR ttOK etOK ?_
    | refine AW.lastR ttOK etOK ?_
    | refine AW.seqSkip ?_
    | refine AW.seq ?_
    | refine AW.block ?_
    | (refine AW.skip ?_; simp only [andThen, inBlk, ↓reduceIte])
    | (refine AW.exit ?_; simp (disch := omega) only [andThen, inBlk, ↓reduceIte, Nat.reduceEqDiff])
    | (guard_target =~ andThen _ _ _ _; simp only [andThen, inBlk, ↓reduceIte])
  by_cases h7 : x.kind = 7
  · refine AW.cond _ (by rfl) (fun _ => ?_) (fun hx => absurd hx (by simp [h7]))
    repeat first
      | (refine aops.cons fun K hK => ?_; simp [and_assoc]; (try simp (disch := omega) only [wrap64]); (first | refine hK _ ?_ | refine ⟨by omega, hK _ ?_⟩ | refine ⟨by omega, by omega, hK _ ?_⟩ | refine ⟨by omega, by omega, by omega, hK _ ?_⟩); clear hK K)
      | refine aops.nil ?_
      | refine runD.nil ?_
      | (refine runD.cons fun K hK => ?_; simp [and_assoc]; (try simp (disch := omega) only [wrap64]); (first | refine hK _ _ (runD.eqs (by simp; rfl) ?_) | refine ⟨by omega, hK _ _ (runD.eqs (by simp; rfl) ?_)⟩ | refine ⟨by omega, by omega, hK _ _ (runD.eqs (by simp; rfl) ?_)⟩); clear hK K)
      | refine AW.seqD ttOK etOK mixOK _ (by simp [calmCount, isCalm]; rfl) (by decide +kernel) (by decide +kernel) (by decide +kernel) (by decide +kernel) ?_
      | refine AW.lastD ttOK etOK mixOK _ (by simp [calmCount, isCalm]; rfl) (by decide +kernel) (by decide +kernel) (by decide +kernel) (by decide +kernel) ?_
      | refine AW.seqDM ttOK etOK mixOK _ (by simp [calmCount, isCalm]; rfl) (by decide +kernel) (by decide +kernel) (by decide +kernel) (by simp; rfl) ?_
      | refine AW.lastDM ttOK etOK mixOK _ (by simp [calmCount, isCalm]; rfl) (by decide +kernel) (by decide +kernel) (by decide +kernel) (by simp; rfl) ?_
      | refine AW.seqR ttOK etOK ?_
      | refine AW.lastR ttOK etOK ?_
      | refine AW.seqSkip ?_
      | refine AW.seq ?_
      | refine AW.block ?_
      | (refine AW.skip ?_; simp only [andThen, inBlk, ↓reduceIte])
      | (refine AW.exit ?_; simp (disch := omega) only [andThen, inBlk, ↓reduceIte, Nat.reduceEqDiff])
      | (guard_target =~ andThen _ _ _ _; simp only [andThen, inBlk, ↓reduceIte])
    exact AW.ret (by simp [resL, resA, resV, resVs, andThen, inBlk, ← h2, looseGo, hka, h7, h0])
  refine AW.cond _ (by rfl) (fun hx => absurd hx (by simp [h7])) (fun _ => ?_)
  repeat first
    | (refine aops.cons fun K hK => ?_; simp [and_assoc]; (try simp (disch := omega) only [wrap64]); (first | refine hK _ ?_ | refine ⟨by omega, hK _ ?_⟩ | refine ⟨by omega, by omega, hK _ ?_⟩ | refine ⟨by omega, by omega, by omega, hK _ ?_⟩); clear hK K)
    | refine aops.nil ?_
    | refine runD.nil ?_
    | (refine runD.cons fun K hK => ?_; simp [and_assoc]; (try simp (disch := omega) only [wrap64]); (first | refine hK _ _ (runD.eqs (by simp; rfl) ?_) | refine ⟨by omega, hK _ _ (runD.eqs (by simp; rfl) ?_)⟩ | refine ⟨by omega, by omega, hK _ _ (runD.eqs (by simp; rfl) ?_)⟩); clear hK K)
    | refine AW.seqD ttOK etOK mixOK _ (by simp [calmCount, isCalm]; rfl) (by decide +kernel) (by decide +kernel) (by decide +kernel) (by decide +kernel) ?_
    | refine AW.lastD ttOK etOK mixOK _ (by simp [calmCount, isCalm]; rfl) (by decide +kernel) (by decide +kernel) (by decide +kernel) (by decide +kernel) ?_
    | refine AW.seqDM ttOK etOK mixOK _ (by simp [calmCount, isCalm]; rfl) (by decide +kernel) (by decide +kernel) (by decide +kernel) (by simp; rfl) ?_
    | refine AW.lastDM ttOK etOK mixOK _ (by simp [calmCount, isCalm]; rfl) (by decide +kernel) (by decide +kernel) (by decide +kernel) (by simp; rfl) ?_
    | refine AW.seqR ttOK etOK ?_
    | refine AW.lastR ttOK etOK ?_
    | refine AW.seqSkip ?_
    | refine AW.seq ?_
    | refine AW.block ?_
    | (refine AW.skip ?_; simp only [andThen, inBlk, ↓reduceIte])
    | (refine AW.exit ?_; simp (disch := omega) only [andThen, inBlk, ↓reduceIte, Nat.reduceEqDiff])
    | (guard_target =~ andThen _ _ _ _; simp only [andThen, inBlk, ↓reduceIte])
  first | refine aops.cons fun K hK => ?_ | refine runD.cons fun K hK => ?_
  simp [and_assoc]
  first | refine callA (good_taker p fr m hp hf hm) (by repeat (first | exact LeL.nil | refine LeL.cons (by first | exact Le.refl _ | exact Le.bs _ _ | exact Le.bp _ | exact Le.nilb _ | exact Le.nild _ | exact Le.un _ | assumption) ?_)) (hK _ ?_) | refine callA (good_taker p fr m hp hf hm) (by repeat (first | exact LeL.nil | refine LeL.cons (by first | exact Le.refl _ | exact Le.bs _ _ | exact Le.bp _ | exact Le.nilb _ | exact Le.nild _ | exact Le.un _ | assumption) ?_)) (hK _ _ (runD.eqs (by simp; rfl) ?_))
  clear hK K
  have ht2 := taker_lt p.length (inputsOf p fr) m
  repeat first
    | (refine aops.cons fun K hK => ?_; simp [and_assoc]; (try simp (disch := omega) only [wrap64]); (first | refine hK _ ?_ | refine ⟨by omega, hK _ ?_⟩ | refine ⟨by omega, by omega, hK _ ?_⟩ | refine ⟨by omega, by omega, by omega, hK _ ?_⟩); clear hK K)
    | refine aops.nil ?_
    | refine runD.nil ?_
    | (refine runD.cons fun K hK => ?_; simp [and_assoc]; (try simp (disch := omega) only [wrap64]); (first | refine hK _ _ (runD.eqs (by simp; rfl) ?_) | refine ⟨by omega, hK _ _ (runD.eqs (by simp; rfl) ?_)⟩ | refine ⟨by omega, by omega, hK _ _ (runD.eqs (by simp; rfl) ?_)⟩); clear hK K)
    | refine AW.seqD ttOK etOK mixOK _ (by simp [calmCount, isCalm]; rfl) (by decide +kernel) (by decide +kernel) (by decide +kernel) (by decide +kernel) ?_
    | refine AW.lastD ttOK etOK mixOK _ (by simp [calmCount, isCalm]; rfl) (by decide +kernel) (by decide +kernel) (by decide +kernel) (by decide +kernel) ?_
    | refine AW.seqDM ttOK etOK mixOK _ (by simp [calmCount, isCalm]; rfl) (by decide +kernel) (by decide +kernel) (by decide +kernel) (by simp; rfl) ?_
    | refine AW.lastDM ttOK etOK mixOK _ (by simp [calmCount, isCalm]; rfl) (by decide +kernel) (by decide +kernel) (by decide +kernel) (by simp; rfl) ?_
    | refine AW.seqR ttOK etOK ?_
    | refine AW.lastR ttOK etOK ?_
    | refine AW.seqSkip ?_
    | refine AW.seq ?_
    | refine AW.block ?_
    | (refine AW.skip ?_; simp only [andThen, inBlk, ↓reduceIte])
    | (refine AW.exit ?_; simp (disch := omega) only [andThen, inBlk, ↓reduceIte, Nat.reduceEqDiff])
    | (guard_target =~ andThen _ _ _ _; simp only [andThen, inBlk, ↓reduceIte])
  refine ⟨by omega, ⟨35, [(2, .pt 2 0), (6, .d (.sl 1 (eI fr))), (8, aI (taker p.length (inputsOf p fr) m))], [(2, .var [.d (.sl 9 (p.map stepC))])]⟩, ?_, taker p.length (inputsOf p fr) m, rfl, by omega, ?_⟩
  · exact Weak.to2 (by simp) (by simp)
  · rw [← h2, show p.length + 1 - (i + 1) = p.length - i by omega]
    simp [looseGo, hneg, hka, h7]
end Go.Proofs.Ab.Try
