/- A part of the proof of the law: it holds for all states of the abstract kind told in the first of these texts; no condition besides those its statements name. -/
import Derived.Test.YtkpnoifnfoijbaaAbF1
namespace Go.Proofs.Ab.Try
open Go Go.Proofs Go.Proofs.Ab
set_option linter.unusedSimpArgs false
set_option linter.unusedVariables false
set_option maxHeartbeats 8000000
def ixGo (v : Int) : Nat → List Int → Int
  | _, [] => -1
  | k, x :: r => if v = x then k else ixGo v (k + 1) r
theorem ixGo_ge (v : Int) : ∀ (l : List Int) (k : Nat), 0 ≤ ixGo v k l ↔ v ∈ l := by
  intro l
  induction l with
  | nil => intro k; simp [ixGo]
  | cons x r ih =>
    intro k
    have := ih (k + 1)
    by_cases h : v = x
    · simp [ixGo, h]
    · simp only [ixGo, if_neg h, List.mem_cons, this]; simp [h]
theorem ixGo_mem (v : Int) (l : List Int) (k : Nat) : decide (0 ≤ ixGo v k l) = decide (v ∈ l) := by simp [ixGo_ge]
theorem good_Index (l : List Int) (v : Int) (hl : l.length ≤ 9000000000000000000) : Good Try.prog 25 [.bs 1 (eI l), aI v] (aI (ixGo v 0 l)) := by
  refine goodF ttOK Try.func25 (vs := [.tmp 4]) (nt := 19) rfl rfl rfl (by kernel_rfl) (by simp) trivial ?_
  repeat first
    | (refine aops.cons fun K hK => ?_; simp [and_assoc]; (try simp (disch := omega) only [wrap64]); (first | refine hK _ ?_ | refine ⟨by omega, hK _ ?_⟩ | refine ⟨by omega, by omega, hK _ ?_⟩ | refine ⟨by omega, by omega, by omega, hK _ ?_⟩); clear hK K)
    | refine aops.nil ?_
    | refine runD.nil ?_
    | (refine runD.cons fun K hK => ?_; simp [and_assoc]; (try simp (disch := omega) only [wrap64]); (first | refine hK _ _ (runD.eqs (by simp; rfl) ?_) | refine ⟨by omega, hK _ _ (runD.eqs (by simp; rfl) ?_)⟩ | refine ⟨by omega, by omega, hK _ _ (runD.eqs (by simp; rfl) ?_)⟩); clear hK K)
    | refine AW.seqD ttOK etOK mixOK _ (by simp [calmCount, isCalm]; rfl) (by kernel_rfl) (by kernel_rfl) (by kernel_rfl) (by kernel_rfl) ?_
    | refine AW.lastD ttOK etOK mixOK _ (by simp [calmCount, isCalm]; rfl) (by kernel_rfl) (by kernel_rfl) (by kernel_rfl) (by kernel_rfl) ?_
    | refine AW.seqDM ttOK etOK mixOK _ (by simp [calmCount, isCalm]; rfl) (by kernel_rfl) (by kernel_rfl) (by kernel_rfl) (by simp; rfl) ?_
    | refine AW.lastDM ttOK etOK mixOK _ (by simp [calmCount, isCalm]; rfl) (by kernel_rfl) (by kernel_rfl) (by kernel_rfl) (by simp; rfl) ?_
    | refine AW.seqR ttOK etOK ?_
    | refine AW.lastR ttOK etOK ?_
    | refine AW.seqSkip ?_
    | refine AW.seq ?_
    | refine AW.block ?_
    | (refine AW.skip ?_; simp only [andThen, inBlk, ↓reduceIte])
    | (refine AW.exit ?_; simp (disch := omega) only [andThen, inBlk, ↓reduceIte, Nat.reduceEqDiff])
    | (guard_target =~ andThen _ _ _ _; simp only [andThen, inBlk, ↓reduceIte])
  refine AW.iterI (fun k s => s = ⟨19, [(0, .bs 1 (eI l)), (1, aI v), (7, aI l.length), (8, aI k)], []⟩ ∧ ixGo v k (l.drop k) = ixGo v 0 l) l.length (s₀ := ⟨19, [(0, .bs 1 (eI l)), (1, aI v), (7, aI l.length), (8, aI 0)], []⟩) ?_ ?_ ?_
  · exact Weak.to (by simp)
  · exact ⟨rfl, rfl⟩
  rintro k s hk ⟨rfl, h2⟩
  cases hd : l.drop k with
  | nil =>
    have : l.length ≤ k := by simpa using hd
    rw [hd] at h2
    repeat first
      | (refine aops.cons fun K hK => ?_; simp [and_assoc]; (try simp (disch := omega) only [wrap64]); (first | refine hK _ ?_ | refine ⟨by omega, hK _ ?_⟩ | refine ⟨by omega, by omega, hK _ ?_⟩ | refine ⟨by omega, by omega, by omega, hK _ ?_⟩); clear hK K)
      | refine aops.nil ?_
      | refine runD.nil ?_
      | (refine runD.cons fun K hK => ?_; simp [and_assoc]; (try simp (disch := omega) only [wrap64]); (first | refine hK _ _ (runD.eqs (by simp; rfl) ?_) | refine ⟨by omega, hK _ _ (runD.eqs (by simp; rfl) ?_)⟩ | refine ⟨by omega, by omega, hK _ _ (runD.eqs (by simp; rfl) ?_)⟩); clear hK K)
      | refine AW.seqD ttOK etOK mixOK _ (by simp [calmCount, isCalm]; rfl) (by kernel_rfl) (by kernel_rfl) (by kernel_rfl) (by kernel_rfl) ?_
      | refine AW.lastD ttOK etOK mixOK _ (by simp [calmCount, isCalm]; rfl) (by kernel_rfl) (by kernel_rfl) (by kernel_rfl) (by kernel_rfl) ?_
      | refine AW.seqDM ttOK etOK mixOK _ (by simp [calmCount, isCalm]; rfl) (by kernel_rfl) (by kernel_rfl) (by kernel_rfl) (by simp; rfl) ?_
      | refine AW.lastDM ttOK etOK mixOK _ (by simp [calmCount, isCalm]; rfl) (by kernel_rfl) (by kernel_rfl) (by kernel_rfl) (by simp; rfl) ?_
      | refine AW.seqR ttOK etOK ?_
      | refine AW.lastR ttOK etOK ?_
      | refine AW.seqSkip ?_
      | refine AW.seq ?_
      | refine AW.block ?_
      | (refine AW.skip ?_; simp only [andThen, inBlk, ↓reduceIte])
      | (refine AW.exit ?_; simp (disch := omega) only [andThen, inBlk, ↓reduceIte, Nat.reduceEqDiff])
      | (guard_target =~ andThen _ _ _ _; simp only [andThen, inBlk, ↓reduceIte])
    refine AW.cond _ (by rfl) (fun hx => absurd hx (by simp [this])) (fun _ => ?_)
    repeat first
      | (refine aops.cons fun K hK => ?_; simp [and_assoc]; (try simp (disch := omega) only [wrap64]); (first | refine hK _ ?_ | refine ⟨by omega, hK _ ?_⟩ | refine ⟨by omega, by omega, hK _ ?_⟩ | refine ⟨by omega, by omega, by omega, hK _ ?_⟩); clear hK K)
      | refine aops.nil ?_
      | refine runD.nil ?_
      | (refine runD.cons fun K hK => ?_; simp [and_assoc]; (try simp (disch := omega) only [wrap64]); (first | refine hK _ _ (runD.eqs (by simp; rfl) ?_) | refine ⟨by omega, hK _ _ (runD.eqs (by simp; rfl) ?_)⟩ | refine ⟨by omega, by omega, hK _ _ (runD.eqs (by simp; rfl) ?_)⟩); clear hK K)
      | refine AW.seqD ttOK etOK mixOK _ (by simp [calmCount, isCalm]; rfl) (by kernel_rfl) (by kernel_rfl) (by kernel_rfl) (by kernel_rfl) ?_
      | refine AW.lastD ttOK etOK mixOK _ (by simp [calmCount, isCalm]; rfl) (by kernel_rfl) (by kernel_rfl) (by kernel_rfl) (by kernel_rfl) ?_
      | refine AW.seqDM ttOK etOK mixOK _ (by simp [calmCount, isCalm]; rfl) (by kernel_rfl) (by kernel_rfl) (by kernel_rfl) (by simp; rfl) ?_
      | refine AW.lastDM ttOK etOK mixOK _ (by simp [calmCount, isCalm]; rfl) (by kernel_rfl) (by kernel_rfl) (by kernel_rfl) (by simp; rfl) ?_
      | refine AW.seqR ttOK etOK ?_
      | refine AW.lastR ttOK etOK ?_
      | refine AW.seqSkip ?_
      | refine AW.seq ?_
      | refine AW.block ?_
      | (refine AW.skip ?_; simp only [andThen, inBlk, ↓reduceIte])
      | (refine AW.exit ?_; simp (disch := omega) only [andThen, inBlk, ↓reduceIte, Nat.reduceEqDiff])
      | (guard_target =~ andThen _ _ _ _; simp only [andThen, inBlk, ↓reduceIte])
    exact AW.ret (by simp [resL, resA, resV, resVs, andThen, inBlk, ← h2, ixGo])
  | cons x r =>
    obtain ⟨hx, hr, hlt⟩ := get_of_drop hd
    rw [hd] at h2
    repeat first
      | (refine aops.cons fun K hK => ?_; simp [and_assoc]; (try simp (disch := omega) only [wrap64]); (first | refine hK _ ?_ | refine ⟨by omega, hK _ ?_⟩ | refine ⟨by omega, by omega, hK _ ?_⟩ | refine ⟨by omega, by omega, by omega, hK _ ?_⟩); clear hK K)
      | refine aops.nil ?_
      | refine runD.nil ?_
      | (refine runD.cons fun K hK => ?_; simp [and_assoc]; (try simp (disch := omega) only [wrap64]); (first | refine hK _ _ (runD.eqs (by simp; rfl) ?_) | refine ⟨by omega, hK _ _ (runD.eqs (by simp; rfl) ?_)⟩ | refine ⟨by omega, by omega, hK _ _ (runD.eqs (by simp; rfl) ?_)⟩); clear hK K)
      | refine AW.seqD ttOK etOK mixOK _ (by simp [calmCount, isCalm]; rfl) (by kernel_rfl) (by kernel_rfl) (by kernel_rfl) (by kernel_rfl) ?_
      | refine AW.lastD ttOK etOK mixOK _ (by simp [calmCount, isCalm]; rfl) (by kernel_rfl) (by kernel_rfl) (by kernel_rfl) (by kernel_rfl) ?_
      | refine AW.seqDM ttOK etOK mixOK _ (by simp [calmCount, isCalm]; rfl) (by kernel_rfl) (by kernel_rfl) (by kernel_rfl) (by simp; rfl) ?_
      | refine AW.lastDM ttOK etOK mixOK _ (by simp [calmCount, isCalm]; rfl) (by kernel_rfl) (by kernel_rfl) (by kernel_rfl) (by simp; rfl) ?_
      | refine AW.seqR ttOK etOK ?_
      | refine AW.lastR ttOK etOK ?_
      | refine AW.seqSkip ?_
      | refine AW.seq ?_
      | refine AW.block ?_
      | (refine AW.skip ?_; simp only [andThen, inBlk, ↓reduceIte])
      | (refine AW.exit ?_; simp (disch := omega) only [andThen, inBlk, ↓reduceIte, Nat.reduceEqDiff])
      | (guard_target =~ andThen _ _ _ _; simp only [andThen, inBlk, ↓reduceIte])
    refine AW.cond _ (by rfl) (fun _ => ?_) (fun hx => absurd hx (by simp [hlt]))
    repeat first
      | (refine aops.cons fun K hK => ?_; simp [and_assoc, eI_get, hx]; (try simp (disch := omega) only [wrap64]); (first | refine hK _ ?_ | refine ⟨by omega, hK _ ?_⟩ | refine ⟨by omega, by omega, hK _ ?_⟩ | refine ⟨by omega, by omega, by omega, hK _ ?_⟩); clear hK K)
      | refine aops.nil ?_
      | refine runD.nil ?_
      | (refine runD.cons fun K hK => ?_; simp [and_assoc, eI_get, hx]; (try simp (disch := omega) only [wrap64]); (first | refine hK _ _ (runD.eqs (by simp; rfl) ?_) | refine ⟨by omega, hK _ _ (runD.eqs (by simp; rfl) ?_)⟩ | refine ⟨by omega, by omega, hK _ _ (runD.eqs (by simp; rfl) ?_)⟩); clear hK K)
      | refine AW.seqD ttOK etOK mixOK _ (by simp [calmCount, isCalm]; rfl) (by kernel_rfl) (by kernel_rfl) (by kernel_rfl) (by kernel_rfl) ?_
      | refine AW.lastD ttOK etOK mixOK _ (by simp [calmCount, isCalm]; rfl) (by kernel_rfl) (by kernel_rfl) (by kernel_rfl) (by kernel_rfl) ?_
      | refine AW.seqDM ttOK etOK mixOK _ (by simp [calmCount, isCalm]; rfl) (by kernel_rfl) (by kernel_rfl) (by kernel_rfl) (by simp; rfl) ?_
      | refine AW.lastDM ttOK etOK mixOK _ (by simp [calmCount, isCalm]; rfl) (by kernel_rfl) (by kernel_rfl) (by kernel_rfl) (by simp; rfl) ?_
      | refine AW.seqR ttOK etOK ?_
      | refine AW.lastR ttOK etOK ?_
      | refine AW.seqSkip ?_
      | refine AW.seq ?_
      | refine AW.block ?_
      | (refine AW.skip ?_; simp only [andThen, inBlk, ↓reduceIte])
      | (refine AW.exit ?_; simp (disch := omega) only [andThen, inBlk, ↓reduceIte, Nat.reduceEqDiff])
      | (guard_target =~ andThen _ _ _ _; simp only [andThen, inBlk, ↓reduceIte])
    refine AW.cond _ (by rfl) (fun h3 => ?_) (fun h3 => ?_) <;> (try simp at h3)
    · subst h3
      repeat first
        | (refine aops.cons fun K hK => ?_; simp [and_assoc]; (try simp (disch := omega) only [wrap64]); (first | refine hK _ ?_ | refine ⟨by omega, hK _ ?_⟩ | refine ⟨by omega, by omega, hK _ ?_⟩ | refine ⟨by omega, by omega, by omega, hK _ ?_⟩); clear hK K)
        | refine aops.nil ?_
        | refine runD.nil ?_
        | (refine runD.cons fun K hK => ?_; simp [and_assoc]; (try simp (disch := omega) only [wrap64]); (first | refine hK _ _ (runD.eqs (by simp; rfl) ?_) | refine ⟨by omega, hK _ _ (runD.eqs (by simp; rfl) ?_)⟩ | refine ⟨by omega, by omega, hK _ _ (runD.eqs (by simp; rfl) ?_)⟩); clear hK K)
        | refine AW.seqD ttOK etOK mixOK _ (by simp [calmCount, isCalm]; rfl) (by kernel_rfl) (by kernel_rfl) (by kernel_rfl) (by kernel_rfl) ?_
        | refine AW.lastD ttOK etOK mixOK _ (by simp [calmCount, isCalm]; rfl) (by kernel_rfl) (by kernel_rfl) (by kernel_rfl) (by kernel_rfl) ?_
        | refine AW.seqDM ttOK etOK mixOK _ (by simp [calmCount, isCalm]; rfl) (by kernel_rfl) (by kernel_rfl) (by kernel_rfl) (by simp; rfl) ?_
        | refine AW.lastDM ttOK etOK mixOK _ (by simp [calmCount, isCalm]; rfl) (by kernel_rfl) (by kernel_rfl) (by kernel_rfl) (by simp; rfl) ?_
        | refine AW.seqR ttOK etOK ?_
        | refine AW.lastR ttOK etOK ?_
        | refine AW.seqSkip ?_
        | refine AW.seq ?_
        | refine AW.block ?_
        | (refine AW.skip ?_; simp only [andThen, inBlk, ↓reduceIte])
        | (refine AW.exit ?_; simp (disch := omega) only [andThen, inBlk, ↓reduceIte, Nat.reduceEqDiff])
        | (guard_target =~ andThen _ _ _ _; simp only [andThen, inBlk, ↓reduceIte])
      exact AW.ret (by simp [resL, resA, resV, resVs, andThen, inBlk, ← h2, ixGo])
    repeat first
      | (refine aops.cons fun K hK => ?_; simp [and_assoc]; (try simp (disch := omega) only [wrap64]); (first | refine hK _ ?_ | refine ⟨by omega, hK _ ?_⟩ | refine ⟨by omega, by omega, hK _ ?_⟩ | refine ⟨by omega, by omega, by omega, hK _ ?_⟩); clear hK K)
      | refine aops.nil ?_
      | refine runD.nil ?_
      | (refine runD.cons fun K hK => ?_; simp [and_assoc]; (try simp (disch := omega) only [wrap64]); (first | refine hK _ _ (runD.eqs (by simp; rfl) ?_) | refine ⟨by omega, hK _ _ (runD.eqs (by simp; rfl) ?_)⟩ | refine ⟨by omega, by omega, hK _ _ (runD.eqs (by simp; rfl) ?_)⟩); clear hK K)
      | refine AW.seqD ttOK etOK mixOK _ (by simp [calmCount, isCalm]; rfl) (by kernel_rfl) (by kernel_rfl) (by kernel_rfl) (by kernel_rfl) ?_
      | refine AW.lastD ttOK etOK mixOK _ (by simp [calmCount, isCalm]; rfl) (by kernel_rfl) (by kernel_rfl) (by kernel_rfl) (by kernel_rfl) ?_
      | refine AW.seqDM ttOK etOK mixOK _ (by simp [calmCount, isCalm]; rfl) (by kernel_rfl) (by kernel_rfl) (by kernel_rfl) (by simp; rfl) ?_
      | refine AW.lastDM ttOK etOK mixOK _ (by simp [calmCount, isCalm]; rfl) (by kernel_rfl) (by kernel_rfl) (by kernel_rfl) (by simp; rfl) ?_
      | refine AW.seqR ttOK etOK ?_
      | refine AW.lastR ttOK etOK ?_
      | refine AW.seqSkip ?_
      | refine AW.seq ?_
      | refine AW.block ?_
      | (refine AW.skip ?_; simp only [andThen, inBlk, ↓reduceIte])
      | (refine AW.exit ?_; simp (disch := omega) only [andThen, inBlk, ↓reduceIte, Nat.reduceEqDiff])
      | (guard_target =~ andThen _ _ _ _; simp only [andThen, inBlk, ↓reduceIte])
    refine ⟨hlt, ⟨19, [(0, .bs 1 (eI l)), (1, aI v), (7, aI l.length), (8, aI (k + 1))], []⟩, ?_, by simp, ?_⟩
    · exact Weak.to (by simp)
    · rw [hr, ← h2]; simp [ixGo, h3]
theorem good_Contains (l : List Int) (v : Int) (hl : l.length ≤ 9000000000000000000) : Good Try.prog 14 [.bs 1 (eI l), aI v] (aB (decide (v ∈ l))) := by
  refine goodF ttOK Try.func14 (vs := [.tmp 4]) (nt := 9) rfl rfl rfl (by kernel_rfl) (by simp) trivial ?_
  repeat first
    | (refine aops.cons fun K hK => ?_; simp [and_assoc]; (try simp (disch := omega) only [wrap64]); (first | refine hK _ ?_ | refine ⟨by omega, hK _ ?_⟩ | refine ⟨by omega, by omega, hK _ ?_⟩ | refine ⟨by omega, by omega, by omega, hK _ ?_⟩); clear hK K)
    | refine aops.nil ?_
    | refine runD.nil ?_
    | (refine runD.cons fun K hK => ?_; simp [and_assoc]; (try simp (disch := omega) only [wrap64]); (first | refine hK _ _ (runD.eqs (by simp; rfl) ?_) | refine ⟨by omega, hK _ _ (runD.eqs (by simp; rfl) ?_)⟩ | refine ⟨by omega, by omega, hK _ _ (runD.eqs (by simp; rfl) ?_)⟩); clear hK K)
    | refine AW.seqD ttOK etOK mixOK _ (by simp [calmCount, isCalm]; rfl) (by kernel_rfl) (by kernel_rfl) (by kernel_rfl) (by kernel_rfl) ?_
    | refine AW.lastD ttOK etOK mixOK _ (by simp [calmCount, isCalm]; rfl) (by kernel_rfl) (by kernel_rfl) (by kernel_rfl) (by kernel_rfl) ?_
    | refine AW.seqDM ttOK etOK mixOK _ (by simp [calmCount, isCalm]; rfl) (by kernel_rfl) (by kernel_rfl) (by kernel_rfl) (by simp; rfl) ?_
    | refine AW.lastDM ttOK etOK mixOK _ (by simp [calmCount, isCalm]; rfl) (by kernel_rfl) (by kernel_rfl) (by kernel_rfl) (by simp; rfl) ?_
    | refine AW.seqR ttOK etOK ?_
    | refine AW.lastR ttOK etOK ?_
    | refine AW.seqSkip ?_
    | refine AW.seq ?_
    | refine AW.block ?_
    | (refine AW.skip ?_; simp only [andThen, inBlk, ↓reduceIte])
    | (refine AW.exit ?_; simp (disch := omega) only [andThen, inBlk, ↓reduceIte, Nat.reduceEqDiff])
    | (guard_target =~ andThen _ _ _ _; simp only [andThen, inBlk, ↓reduceIte])
  first | refine aops.cons fun K hK => ?_ | refine runD.cons fun K hK => ?_
  simp [and_assoc]
  first | refine callA (good_Index l v hl) (by repeat (first | exact LeL.nil | refine LeL.cons (by first | exact Le.refl _ | exact Le.bs _ _ | exact Le.bp _ | exact Le.nilb _ | exact Le.nild _ | exact Le.un _) ?_)) (hK _ ?_) | refine callA (good_Index l v hl) (by repeat (first | exact LeL.nil | refine LeL.cons (by first | exact Le.refl _ | exact Le.bs _ _ | exact Le.bp _ | exact Le.nilb _ | exact Le.nild _ | exact Le.un _) ?_)) (hK _ _ (runD.eqs (by simp; rfl) ?_))
  clear hK K
  repeat first
    | (refine aops.cons fun K hK => ?_; simp [and_assoc]; (try simp (disch := omega) only [wrap64]); (first | refine hK _ ?_ | refine ⟨by omega, hK _ ?_⟩ | refine ⟨by omega, by omega, hK _ ?_⟩ | refine ⟨by omega, by omega, by omega, hK _ ?_⟩); clear hK K)
    | refine aops.nil ?_
    | refine runD.nil ?_
    | (refine runD.cons fun K hK => ?_; simp [and_assoc]; (try simp (disch := omega) only [wrap64]); (first | refine hK _ _ (runD.eqs (by simp; rfl) ?_) | refine ⟨by omega, hK _ _ (runD.eqs (by simp; rfl) ?_)⟩ | refine ⟨by omega, by omega, hK _ _ (runD.eqs (by simp; rfl) ?_)⟩); clear hK K)
    | refine AW.seqD ttOK etOK mixOK _ (by simp [calmCount, isCalm]; rfl) (by kernel_rfl) (by kernel_rfl) (by kernel_rfl) (by kernel_rfl) ?_
    | refine AW.lastD ttOK etOK mixOK _ (by simp [calmCount, isCalm]; rfl) (by kernel_rfl) (by kernel_rfl) (by kernel_rfl) (by kernel_rfl) ?_
    | refine AW.seqDM ttOK etOK mixOK _ (by simp [calmCount, isCalm]; rfl) (by kernel_rfl) (by kernel_rfl) (by kernel_rfl) (by simp; rfl) ?_
    | refine AW.lastDM ttOK etOK mixOK _ (by simp [calmCount, isCalm]; rfl) (by kernel_rfl) (by kernel_rfl) (by kernel_rfl) (by simp; rfl) ?_
    | refine AW.seqR ttOK etOK ?_
    | refine AW.lastR ttOK etOK ?_
    | refine AW.seqSkip ?_
    | refine AW.seq ?_
    | refine AW.block ?_
    | (refine AW.skip ?_; simp only [andThen, inBlk, ↓reduceIte])
    | (refine AW.exit ?_; simp (disch := omega) only [andThen, inBlk, ↓reduceIte, Nat.reduceEqDiff])
    | (guard_target =~ andThen _ _ _ _; simp only [andThen, inBlk, ↓reduceIte])
  have := ixGo_mem v l 0
  exact AW.ret (by simp [resL, resA, resV, resVs, andThen, inBlk, this])
theorem good_Equal (a b : List Int) (ha : a.length ≤ 9000000000000000000) (hb : b.length ≤ 9000000000000000000) : Good Try.prog 7 [.bs 1 (eI a), .bs 1 (eI b)] (aB (decide (a = b))) := by
  refine goodF ttOK Try.func7 (vs := [.tmp 4]) (nt := 26) rfl rfl rfl (by kernel_rfl) (by simp) trivial ?_
  repeat first
    | (refine aops.cons fun K hK => ?_; simp [and_assoc]; (try simp (disch := omega) only [wrap64]); (first | refine hK _ ?_ | refine ⟨by omega, hK _ ?_⟩ | refine ⟨by omega, by omega, hK _ ?_⟩ | refine ⟨by omega, by omega, by omega, hK _ ?_⟩); clear hK K)
    | refine aops.nil ?_
    | refine runD.nil ?_
    | (refine runD.cons fun K hK => ?_; simp [and_assoc]; (try simp (disch := omega) only [wrap64]); (first | refine hK _ _ (runD.eqs (by simp; rfl) ?_) | refine ⟨by omega, hK _ _ (runD.eqs (by simp; rfl) ?_)⟩ | refine ⟨by omega, by omega, hK _ _ (runD.eqs (by simp; rfl) ?_)⟩); clear hK K)
    | refine AW.seqD ttOK etOK mixOK _ (by simp [calmCount, isCalm]; rfl) (by kernel_rfl) (by kernel_rfl) (by kernel_rfl) (by kernel_rfl) ?_
    | refine AW.lastD ttOK etOK mixOK _ (by simp [calmCount, isCalm]; rfl) (by kernel_rfl) (by kernel_rfl) (by kernel_rfl) (by kernel_rfl) ?_
    | refine AW.seqDM ttOK etOK mixOK _ (by simp [calmCount, isCalm]; rfl) (by kernel_rfl) (by kernel_rfl) (by kernel_rfl) (by simp; rfl) ?_
    | refine AW.lastDM ttOK etOK mixOK _ (by simp [calmCount, isCalm]; rfl) (by kernel_rfl) (by kernel_rfl) (by kernel_rfl) (by simp; rfl) ?_
    | refine AW.seqR ttOK etOK ?_
    | refine AW.lastR ttOK etOK ?_
    | refine AW.seqSkip ?_
    | refine AW.seq ?_
    | refine AW.block ?_
    | (refine AW.skip ?_; simp only [andThen, inBlk, ↓reduceIte])
    | (refine AW.exit ?_; simp (disch := omega) only [andThen, inBlk, ↓reduceIte, Nat.reduceEqDiff])
    | (guard_target =~ andThen _ _ _ _; simp only [andThen, inBlk, ↓reduceIte])
  by_cases hlen : a.length = b.length
  rotate_left
  · have hlen' : ¬ (a.length : Int) = b.length := by omega
    refine AW.cond _ (by rfl) (fun _ => ?_) (fun hx => absurd hx (by simp [hlen']))
    repeat first
      | (refine aops.cons fun K hK => ?_; simp [and_assoc]; (try simp (disch := omega) only [wrap64]); (first | refine hK _ ?_ | refine ⟨by omega, hK _ ?_⟩ | refine ⟨by omega, by omega, hK _ ?_⟩ | refine ⟨by omega, by omega, by omega, hK _ ?_⟩); clear hK K)
      | refine aops.nil ?_
      | refine runD.nil ?_
      | (refine runD.cons fun K hK => ?_; simp [and_assoc]; (try simp (disch := omega) only [wrap64]); (first | refine hK _ _ (runD.eqs (by simp; rfl) ?_) | refine ⟨by omega, hK _ _ (runD.eqs (by simp; rfl) ?_)⟩ | refine ⟨by omega, by omega, hK _ _ (runD.eqs (by simp; rfl) ?_)⟩); clear hK K)
      | refine AW.seqD ttOK etOK mixOK _ (by simp [calmCount, isCalm]; rfl) (by kernel_rfl) (by kernel_rfl) (by kernel_rfl) (by kernel_rfl) ?_
      | refine AW.lastD ttOK etOK mixOK _ (by simp [calmCount, isCalm]; rfl) (by kernel_rfl) (by kernel_rfl) (by kernel_rfl) (by kernel_rfl) ?_
      | refine AW.seqDM ttOK etOK mixOK _ (by simp [calmCount, isCalm]; rfl) (by kernel_rfl) (by kernel_rfl) (by kernel_rfl) (by simp; rfl) ?_
      | refine AW.lastDM ttOK etOK mixOK _ (by simp [calmCount, isCalm]; rfl) (by kernel_rfl) (by kernel_rfl) (by kernel_rfl) (by simp; rfl) ?_
      | refine AW.seqR ttOK etOK ?_
      | refine AW.lastR ttOK etOK ?_
      | refine AW.seqSkip ?_
      | refine AW.seq ?_
      | refine AW.block ?_
      | (refine AW.skip ?_; simp only [andThen, inBlk, ↓reduceIte])
      | (refine AW.exit ?_; simp (disch := omega) only [andThen, inBlk, ↓reduceIte, Nat.reduceEqDiff])
      | (guard_target =~ andThen _ _ _ _; simp only [andThen, inBlk, ↓reduceIte])
    have : a ≠ b := fun e => hlen (by rw [e])
    exact AW.ret (by simp [resL, resA, resV, resVs, andThen, inBlk, this])
  refine AW.cond _ (by rfl) (fun hx => absurd hx (by simp [hlen])) (fun _ => ?_)
  repeat first
    | (refine aops.cons fun K hK => ?_; simp [and_assoc]; (try simp (disch := omega) only [wrap64]); (first | refine hK _ ?_ | refine ⟨by omega, hK _ ?_⟩ | refine ⟨by omega, by omega, hK _ ?_⟩ | refine ⟨by omega, by omega, by omega, hK _ ?_⟩); clear hK K)
    | refine aops.nil ?_
    | refine runD.nil ?_
    | (refine runD.cons fun K hK => ?_; simp [and_assoc]; (try simp (disch := omega) only [wrap64]); (first | refine hK _ _ (runD.eqs (by simp; rfl) ?_) | refine ⟨by omega, hK _ _ (runD.eqs (by simp; rfl) ?_)⟩ | refine ⟨by omega, by omega, hK _ _ (runD.eqs (by simp; rfl) ?_)⟩); clear hK K)
    | refine AW.seqD ttOK etOK mixOK _ (by simp [calmCount, isCalm]; rfl) (by kernel_rfl) (by kernel_rfl) (by kernel_rfl) (by kernel_rfl) ?_
    | refine AW.lastD ttOK etOK mixOK _ (by simp [calmCount, isCalm]; rfl) (by kernel_rfl) (by kernel_rfl) (by kernel_rfl) (by kernel_rfl) ?_
    | refine AW.seqDM ttOK etOK mixOK _ (by simp [calmCount, isCalm]; rfl) (by kernel_rfl) (by kernel_rfl) (by kernel_rfl) (by simp; rfl) ?_
    | refine AW.lastDM ttOK etOK mixOK _ (by simp [calmCount, isCalm]; rfl) (by kernel_rfl) (by kernel_rfl) (by kernel_rfl) (by simp; rfl) ?_
    | refine AW.seqR ttOK etOK ?_
    | refine AW.lastR ttOK etOK ?_
    | refine AW.seqSkip ?_
    | refine AW.seq ?_
    | refine AW.block ?_
    | (refine AW.skip ?_; simp only [andThen, inBlk, ↓reduceIte])
    | (refine AW.exit ?_; simp (disch := omega) only [andThen, inBlk, ↓reduceIte, Nat.reduceEqDiff])
    | (guard_target =~ andThen _ _ _ _; simp only [andThen, inBlk, ↓reduceIte])
  refine AW.iterI (fun k s => s = ⟨26, [(0, .bs 1 (eI a)), (1, .bs 1 (eI b)), (12, aI a.length), (13, aI k)], []⟩ ∧ decide (a.drop k = b.drop k) = decide (a = b)) a.length (s₀ := ⟨26, [(0, .bs 1 (eI a)), (1, .bs 1 (eI b)), (12, aI a.length), (13, aI 0)], []⟩) ?_ ?_ ?_
  · exact Weak.to (by simp)
  · exact ⟨rfl, rfl⟩
  rintro k s hk ⟨rfl, h2⟩
  cases hd : a.drop k with
  | nil =>
    have h3 : a.length ≤ k := by simpa using hd
    have h4 : b.drop k = [] := by simpa [← hlen] using h3
    rw [hd, h4] at h2
    repeat first
      | (refine aops.cons fun K hK => ?_; simp [and_assoc]; (try simp (disch := omega) only [wrap64]); (first | refine hK _ ?_ | refine ⟨by omega, hK _ ?_⟩ | refine ⟨by omega, by omega, hK _ ?_⟩ | refine ⟨by omega, by omega, by omega, hK _ ?_⟩); clear hK K)
      | refine aops.nil ?_
      | refine runD.nil ?_
      | (refine runD.cons fun K hK => ?_; simp [and_assoc]; (try simp (disch := omega) only [wrap64]); (first | refine hK _ _ (runD.eqs (by simp; rfl) ?_) | refine ⟨by omega, hK _ _ (runD.eqs (by simp; rfl) ?_)⟩ | refine ⟨by omega, by omega, hK _ _ (runD.eqs (by simp; rfl) ?_)⟩); clear hK K)
      | refine AW.seqD ttOK etOK mixOK _ (by simp [calmCount, isCalm]; rfl) (by kernel_rfl) (by kernel_rfl) (by kernel_rfl) (by kernel_rfl) ?_
      | refine AW.lastD ttOK etOK mixOK _ (by simp [calmCount, isCalm]; rfl) (by kernel_rfl) (by kernel_rfl) (by kernel_rfl) (by kernel_rfl) ?_
      | refine AW.seqDM ttOK etOK mixOK _ (by simp [calmCount, isCalm]; rfl) (by kernel_rfl) (by kernel_rfl) (by kernel_rfl) (by simp; rfl) ?_
      | refine AW.lastDM ttOK etOK mixOK _ (by simp [calmCount, isCalm]; rfl) (by kernel_rfl) (by kernel_rfl) (by kernel_rfl) (by simp; rfl) ?_
      | refine AW.seqR ttOK etOK ?_
      | refine AW.lastR ttOK etOK ?_
      | refine AW.seqSkip ?_
      | refine AW.seq ?_
      | refine AW.block ?_
      | (refine AW.skip ?_; simp only [andThen, inBlk, ↓reduceIte])
      | (refine AW.exit ?_; simp (disch := omega) only [andThen, inBlk, ↓reduceIte, Nat.reduceEqDiff])
      | (guard_target =~ andThen _ _ _ _; simp only [andThen, inBlk, ↓reduceIte])
    refine AW.cond _ (by rfl) (fun hx => absurd hx (by simp [h3])) (fun _ => ?_)
    repeat first
      | (refine aops.cons fun K hK => ?_; simp [and_assoc]; (try simp (disch := omega) only [wrap64]); (first | refine hK _ ?_ | refine ⟨by omega, hK _ ?_⟩ | refine ⟨by omega, by omega, hK _ ?_⟩ | refine ⟨by omega, by omega, by omega, hK _ ?_⟩); clear hK K)
      | refine aops.nil ?_
      | refine runD.nil ?_
      | (refine runD.cons fun K hK => ?_; simp [and_assoc]; (try simp (disch := omega) only [wrap64]); (first | refine hK _ _ (runD.eqs (by simp; rfl) ?_) | refine ⟨by omega, hK _ _ (runD.eqs (by simp; rfl) ?_)⟩ | refine ⟨by omega, by omega, hK _ _ (runD.eqs (by simp; rfl) ?_)⟩); clear hK K)
      | refine AW.seqD ttOK etOK mixOK _ (by simp [calmCount, isCalm]; rfl) (by kernel_rfl) (by kernel_rfl) (by kernel_rfl) (by kernel_rfl) ?_
      | refine AW.lastD ttOK etOK mixOK _ (by simp [calmCount, isCalm]; rfl) (by kernel_rfl) (by kernel_rfl) (by kernel_rfl) (by kernel_rfl) ?_
      | refine AW.seqDM ttOK etOK mixOK _ (by simp [calmCount, isCalm]; rfl) (by kernel_rfl) (by kernel_rfl) (by kernel_rfl) (by simp; rfl) ?_
      | refine AW.lastDM ttOK etOK mixOK _ (by simp [calmCount, isCalm]; rfl) (by kernel_rfl) (by kernel_rfl) (by kernel_rfl) (by simp; rfl) ?_
      | refine AW.seqR ttOK etOK ?_
      | refine AW.lastR ttOK etOK ?_
      | refine AW.seqSkip ?_
      | refine AW.seq ?_
      | refine AW.block ?_
      | (refine AW.skip ?_; simp only [andThen, inBlk, ↓reduceIte])
      | (refine AW.exit ?_; simp (disch := omega) only [andThen, inBlk, ↓reduceIte, Nat.reduceEqDiff])
      | (guard_target =~ andThen _ _ _ _; simp only [andThen, inBlk, ↓reduceIte])
    exact AW.ret (by simp [resL, resA, resV, resVs, andThen, inBlk, ← h2])
  | cons x r =>
    obtain ⟨hx, hr, hlt⟩ := get_of_drop hd
    obtain ⟨y, q, hd2⟩ : ∃ y q, b.drop k = y :: q := by
      cases h : b.drop k with
      | nil => simp at h; omega
      | cons y q => exact ⟨y, q, rfl⟩
    obtain ⟨hy, hq, _⟩ := get_of_drop hd2
    rw [hd, hd2] at h2
    repeat first
      | (refine aops.cons fun K hK => ?_; simp [and_assoc]; (try simp (disch := omega) only [wrap64]); (first | refine hK _ ?_ | refine ⟨by omega, hK _ ?_⟩ | refine ⟨by omega, by omega, hK _ ?_⟩ | refine ⟨by omega, by omega, by omega, hK _ ?_⟩); clear hK K)
      | refine aops.nil ?_
      | refine runD.nil ?_
      | (refine runD.cons fun K hK => ?_; simp [and_assoc]; (try simp (disch := omega) only [wrap64]); (first | refine hK _ _ (runD.eqs (by simp; rfl) ?_) | refine ⟨by omega, hK _ _ (runD.eqs (by simp; rfl) ?_)⟩ | refine ⟨by omega, by omega, hK _ _ (runD.eqs (by simp; rfl) ?_)⟩); clear hK K)
      | refine AW.seqD ttOK etOK mixOK _ (by simp [calmCount, isCalm]; rfl) (by kernel_rfl) (by kernel_rfl) (by kernel_rfl) (by kernel_rfl) ?_
      | refine AW.lastD ttOK etOK mixOK _ (by simp [calmCount, isCalm]; rfl) (by kernel_rfl) (by kernel_rfl) (by kernel_rfl) (by kernel_rfl) ?_
      | refine AW.seqDM ttOK etOK mixOK _ (by simp [calmCount, isCalm]; rfl) (by kernel_rfl) (by kernel_rfl) (by kernel_rfl) (by simp; rfl) ?_
      | refine AW.lastDM ttOK etOK mixOK _ (by simp [calmCount, isCalm]; rfl) (by kernel_rfl) (by kernel_rfl) (by kernel_rfl) (by simp; rfl) ?_
      | refine AW.seqR ttOK etOK ?_
      | refine AW.lastR ttOK etOK ?_
      | refine AW.seqSkip ?_
      | refine AW.seq ?_
      | refine AW.block ?_
      | (refine AW.skip ?_; simp only [andThen, inBlk, ↓reduceIte])
      | (refine AW.exit ?_; simp (disch := omega) only [andThen, inBlk, ↓reduceIte, Nat.reduceEqDiff])
      | (guard_target =~ andThen _ _ _ _; simp only [andThen, inBlk, ↓reduceIte])
    refine AW.cond _ (by rfl) (fun _ => ?_) (fun hx => absurd hx (by simp [hlt]))
    repeat first
      | (refine aops.cons fun K hK => ?_; simp [and_assoc, eI_get, hx, hy]; (try simp (disch := omega) only [wrap64]); (first | refine hK _ ?_ | refine ⟨by omega, hK _ ?_⟩ | refine ⟨by omega, by omega, hK _ ?_⟩ | refine ⟨by omega, by omega, by omega, hK _ ?_⟩); clear hK K)
      | refine aops.nil ?_
      | refine runD.nil ?_
      | (refine runD.cons fun K hK => ?_; simp [and_assoc, eI_get, hx, hy]; (try simp (disch := omega) only [wrap64]); (first | refine hK _ _ (runD.eqs (by simp; rfl) ?_) | refine ⟨by omega, hK _ _ (runD.eqs (by simp; rfl) ?_)⟩ | refine ⟨by omega, by omega, hK _ _ (runD.eqs (by simp; rfl) ?_)⟩); clear hK K)
      | refine AW.seqD ttOK etOK mixOK _ (by simp [calmCount, isCalm]; rfl) (by kernel_rfl) (by kernel_rfl) (by kernel_rfl) (by kernel_rfl) ?_
      | refine AW.lastD ttOK etOK mixOK _ (by simp [calmCount, isCalm]; rfl) (by kernel_rfl) (by kernel_rfl) (by kernel_rfl) (by kernel_rfl) ?_
      | refine AW.seqDM ttOK etOK mixOK _ (by simp [calmCount, isCalm]; rfl) (by kernel_rfl) (by kernel_rfl) (by kernel_rfl) (by simp; rfl) ?_
      | refine AW.lastDM ttOK etOK mixOK _ (by simp [calmCount, isCalm]; rfl) (by kernel_rfl) (by kernel_rfl) (by kernel_rfl) (by simp; rfl) ?_
      | refine AW.seqR ttOK etOK ?_
      | refine AW.lastR ttOK etOK ?_
      | refine AW.seqSkip ?_
      | refine AW.seq ?_
      | refine AW.block ?_
      | (refine AW.skip ?_; simp only [andThen, inBlk, ↓reduceIte])
      | (refine AW.exit ?_; simp (disch := omega) only [andThen, inBlk, ↓reduceIte, Nat.reduceEqDiff])
      | (guard_target =~ andThen _ _ _ _; simp only [andThen, inBlk, ↓reduceIte])
    refine AW.cond _ (by rfl) (fun h3 => ?_) (fun h3 => ?_) <;> (try simp at h3)
    · repeat first
        | (refine aops.cons fun K hK => ?_; simp [and_assoc]; (try simp (disch := omega) only [wrap64]); (first | refine hK _ ?_ | refine ⟨by omega, hK _ ?_⟩ | refine ⟨by omega, by omega, hK _ ?_⟩ | refine ⟨by omega, by omega, by omega, hK _ ?_⟩); clear hK K)
        | refine aops.nil ?_
        | refine runD.nil ?_
        | (refine runD.cons fun K hK => ?_; simp [and_assoc]; (try simp (disch := omega) only [wrap64]); (first | refine hK _ _ (runD.eqs (by simp; rfl) ?_) | refine ⟨by omega, hK _ _ (runD.eqs (by simp; rfl) ?_)⟩ | refine ⟨by omega, by omega, hK _ _ (runD.eqs (by simp; rfl) ?_)⟩); clear hK K)
        | refine AW.seqD ttOK etOK mixOK _ (by simp [calmCount, isCalm]; rfl) (by kernel_rfl) (by kernel_rfl) (by kernel_rfl) (by kernel_rfl) ?_
        | refine AW.lastD ttOK etOK mixOK _ (by simp [calmCount, isCalm]; rfl) (by kernel_rfl) (by kernel_rfl) (by kernel_rfl) (by kernel_rfl) ?_
        | refine AW.seqDM ttOK etOK mixOK _ (by simp [calmCount, isCalm]; rfl) (by kernel_rfl) (by kernel_rfl) (by kernel_rfl) (by simp; rfl) ?_
        | refine AW.lastDM ttOK etOK mixOK _ (by simp [calmCount, isCalm]; rfl) (by kernel_rfl) (by kernel_rfl) (by kernel_rfl) (by simp; rfl) ?_
        | refine AW.seqR ttOK etOK ?_
        | refine AW.lastR ttOK etOK ?_
        | refine AW.seqSkip ?_
        | refine AW.seq ?_
        | refine AW.block ?_
        | (refine AW.skip ?_; simp only [andThen, inBlk, ↓reduceIte])
        | (refine AW.exit ?_; simp (disch := omega) only [andThen, inBlk, ↓reduceIte, Nat.reduceEqDiff])
        | (guard_target =~ andThen _ _ _ _; simp only [andThen, inBlk, ↓reduceIte])
      exact AW.ret (by simp [resL, resA, resV, resVs, andThen, inBlk, ← h2, h3])
    repeat first
      | (refine aops.cons fun K hK => ?_; simp [and_assoc]; (try simp (disch := omega) only [wrap64]); (first | refine hK _ ?_ | refine ⟨by omega, hK _ ?_⟩ | refine ⟨by omega, by omega, hK _ ?_⟩ | refine ⟨by omega, by omega, by omega, hK _ ?_⟩); clear hK K)
      | refine aops.nil ?_
      | refine runD.nil ?_
      | (refine runD.cons fun K hK => ?_; simp [and_assoc]; (try simp (disch := omega) only [wrap64]); (first | refine hK _ _ (runD.eqs (by simp; rfl) ?_) | refine ⟨by omega, hK _ _ (runD.eqs (by simp; rfl) ?_)⟩ | refine ⟨by omega, by omega, hK _ _ (runD.eqs (by simp; rfl) ?_)⟩); clear hK K)
      | refine AW.seqD ttOK etOK mixOK _ (by simp [calmCount, isCalm]; rfl) (by kernel_rfl) (by kernel_rfl) (by kernel_rfl) (by kernel_rfl) ?_
      | refine AW.lastD ttOK etOK mixOK _ (by simp [calmCount, isCalm]; rfl) (by kernel_rfl) (by kernel_rfl) (by kernel_rfl) (by kernel_rfl) ?_
      | refine AW.seqDM ttOK etOK mixOK _ (by simp [calmCount, isCalm]; rfl) (by kernel_rfl) (by kernel_rfl) (by kernel_rfl) (by simp; rfl) ?_
      | refine AW.lastDM ttOK etOK mixOK _ (by simp [calmCount, isCalm]; rfl) (by kernel_rfl) (by kernel_rfl) (by kernel_rfl) (by simp; rfl) ?_
      | refine AW.seqR ttOK etOK ?_
      | refine AW.lastR ttOK etOK ?_
      | refine AW.seqSkip ?_
      | refine AW.seq ?_
      | refine AW.block ?_
      | (refine AW.skip ?_; simp only [andThen, inBlk, ↓reduceIte])
      | (refine AW.exit ?_; simp (disch := omega) only [andThen, inBlk, ↓reduceIte, Nat.reduceEqDiff])
      | (guard_target =~ andThen _ _ _ _; simp only [andThen, inBlk, ↓reduceIte])
    refine ⟨hlt, ⟨26, [(0, .bs 1 (eI a)), (1, .bs 1 (eI b)), (12, aI a.length), (13, aI (k + 1))], []⟩, ?_, by simp, ?_⟩
    · exact Weak.to (by simp)
    · rw [hr, hq, ← h2]; simp [h3]
/-! ### KeepsLists -/
def keepF (k : Int) : Int := if inR k 1 18 then 0 else 4
def keepB (k : Int) : Bool := inR k 1 18 && decide (k < 16)
theorem good_KeepsLists (k : Int) : Good Try.prog 8 [aI k] (.tp [aB (keepB k), aI (keepF k)]) := by
  refine goodF ttOK Try.func8 (vs := [.tmp 2, .tmp 3]) (nt := 17) rfl rfl rfl (by kernel_rfl) (by simp) (by simp [dataA, dataL]) ?_
  repeat first
    | (refine aops.cons fun K hK => ?_; simp [and_assoc]; (try simp (disch := omega) only [wrap64]); (first | refine hK _ ?_ | refine ⟨by omega, hK _ ?_⟩ | refine ⟨by omega, by omega, hK _ ?_⟩ | refine ⟨by omega, by omega, by omega, hK _ ?_⟩); clear hK K)
    | refine aops.nil ?_
    | refine runD.nil ?_
    | (refine runD.cons fun K hK => ?_; simp [and_assoc]; (try simp (disch := omega) only [wrap64]); (first | refine hK _ _ (runD.eqs (by simp; rfl) ?_) | refine ⟨by omega, hK _ _ (runD.eqs (by simp; rfl) ?_)⟩ | refine ⟨by omega, by omega, hK _ _ (runD.eqs (by simp; rfl) ?_)⟩); clear hK K)
    | refine AW.seqD ttOK etOK mixOK _ (by simp [calmCount, isCalm]; rfl) (by kernel_rfl) (by kernel_rfl) (by kernel_rfl) (by kernel_rfl) ?_
    | refine AW.lastD ttOK etOK mixOK _ (by simp [calmCount, isCalm]; rfl) (by kernel_rfl) (by kernel_rfl) (by kernel_rfl) (by kernel_rfl) ?_
    | refine AW.seqDM ttOK etOK mixOK _ (by simp [calmCount, isCalm]; rfl) (by kernel_rfl) (by kernel_rfl) (by kernel_rfl) (by simp; rfl) ?_
    | refine AW.lastDM ttOK etOK mixOK _ (by simp [calmCount, isCalm]; rfl) (by kernel_rfl) (by kernel_rfl) (by kernel_rfl) (by simp; rfl) ?_
    | refine AW.seqR ttOK etOK ?_
    | refine AW.lastR ttOK etOK ?_
    | refine AW.seqSkip ?_
    | refine AW.seq ?_
    | refine AW.block ?_
    | (refine AW.skip ?_; simp only [andThen, inBlk, ↓reduceIte])
    | (refine AW.exit ?_; simp (disch := omega) only [andThen, inBlk, ↓reduceIte, Nat.reduceEqDiff])
    | (guard_target =~ andThen _ _ _ _; simp only [andThen, inBlk, ↓reduceIte])
  first | refine aops.cons fun K hK => ?_ | refine runD.cons fun K hK => ?_
  simp [and_assoc]
  first | refine callA (good_In k 1 18) (by repeat (first | exact LeL.nil | refine LeL.cons (by first | exact Le.refl _ | exact Le.bs _ _ | exact Le.bp _ | exact Le.nilb _ | exact Le.nild _ | exact Le.un _) ?_)) (hK _ ?_) | refine callA (good_In k 1 18) (by repeat (first | exact LeL.nil | refine LeL.cons (by first | exact Le.refl _ | exact Le.bs _ _ | exact Le.bp _ | exact Le.nilb _ | exact Le.nild _ | exact Le.un _) ?_)) (hK _ _ (runD.eqs (by simp; rfl) ?_))
  clear hK K
  by_cases hin : inR k 1 18 = true
  rotate_left
  · repeat first
      | (refine aops.cons fun K hK => ?_; simp [and_assoc]; (try simp (disch := omega) only [wrap64]); (first | refine hK _ ?_ | refine ⟨by omega, hK _ ?_⟩ | refine ⟨by omega, by omega, hK _ ?_⟩ | refine ⟨by omega, by omega, by omega, hK _ ?_⟩); clear hK K)
      | refine aops.nil ?_
      | refine runD.nil ?_
      | (refine runD.cons fun K hK => ?_; simp [and_assoc]; (try simp (disch := omega) only [wrap64]); (first | refine hK _ _ (runD.eqs (by simp; rfl) ?_) | refine ⟨by omega, hK _ _ (runD.eqs (by simp; rfl) ?_)⟩ | refine ⟨by omega, by omega, hK _ _ (runD.eqs (by simp; rfl) ?_)⟩); clear hK K)
      | refine AW.seqD ttOK etOK mixOK _ (by simp [calmCount, isCalm]; rfl) (by kernel_rfl) (by kernel_rfl) (by kernel_rfl) (by kernel_rfl) ?_
      | refine AW.lastD ttOK etOK mixOK _ (by simp [calmCount, isCalm]; rfl) (by kernel_rfl) (by kernel_rfl) (by kernel_rfl) (by kernel_rfl) ?_
      | refine AW.seqDM ttOK etOK mixOK _ (by simp [calmCount, isCalm]; rfl) (by kernel_rfl) (by kernel_rfl) (by kernel_rfl) (by simp; rfl) ?_
      | refine AW.lastDM ttOK etOK mixOK _ (by simp [calmCount, isCalm]; rfl) (by kernel_rfl) (by kernel_rfl) (by kernel_rfl) (by simp; rfl) ?_
      | refine AW.seqR ttOK etOK ?_
      | refine AW.lastR ttOK etOK ?_
      | refine AW.seqSkip ?_
      | refine AW.seq ?_
      | refine AW.block ?_
      | (refine AW.skip ?_; simp only [andThen, inBlk, ↓reduceIte])
      | (refine AW.exit ?_; simp (disch := omega) only [andThen, inBlk, ↓reduceIte, Nat.reduceEqDiff])
      | (guard_target =~ andThen _ _ _ _; simp only [andThen, inBlk, ↓reduceIte])
    refine AW.cond _ (by rfl) (fun _ => ?_) (fun hx => absurd hx (by simp [hin]))
    repeat first
      | (refine aops.cons fun K hK => ?_; simp [and_assoc]; (try simp (disch := omega) only [wrap64]); (first | refine hK _ ?_ | refine ⟨by omega, hK _ ?_⟩ | refine ⟨by omega, by omega, hK _ ?_⟩ | refine ⟨by omega, by omega, by omega, hK _ ?_⟩); clear hK K)
      | refine aops.nil ?_
      | refine runD.nil ?_
      | (refine runD.cons fun K hK => ?_; simp [and_assoc]; (try simp (disch := omega) only [wrap64]); (first | refine hK _ _ (runD.eqs (by simp; rfl) ?_) | refine ⟨by omega, hK _ _ (runD.eqs (by simp; rfl) ?_)⟩ | refine ⟨by omega, by omega, hK _ _ (runD.eqs (by simp; rfl) ?_)⟩); clear hK K)
      | refine AW.seqD ttOK etOK mixOK _ (by simp [calmCount, isCalm]; rfl) (by kernel_rfl) (by kernel_rfl) (by kernel_rfl) (by kernel_rfl) ?_
      | refine AW.lastD ttOK etOK mixOK _ (by simp [calmCount, isCalm]; rfl) (by kernel_rfl) (by kernel_rfl) (by kernel_rfl) (by kernel_rfl) ?_
      | refine AW.seqDM ttOK etOK mixOK _ (by simp [calmCount, isCalm]; rfl) (by kernel_rfl) (by kernel_rfl) (by kernel_rfl) (by simp; rfl) ?_
      | refine AW.lastDM ttOK etOK mixOK _ (by simp [calmCount, isCalm]; rfl) (by kernel_rfl) (by kernel_rfl) (by kernel_rfl) (by simp; rfl) ?_
      | refine AW.seqR ttOK etOK ?_
      | refine AW.lastR ttOK etOK ?_
      | refine AW.seqSkip ?_
      | refine AW.seq ?_
      | refine AW.block ?_
      | (refine AW.skip ?_; simp only [andThen, inBlk, ↓reduceIte])
      | (refine AW.exit ?_; simp (disch := omega) only [andThen, inBlk, ↓reduceIte, Nat.reduceEqDiff])
      | (guard_target =~ andThen _ _ _ _; simp only [andThen, inBlk, ↓reduceIte])
    exact AW.ret (by simp [resL, resA, resV, resVs, andThen, inBlk, keepB, keepF, hin])
  have hin' := hin
  simp [inR] at hin'
  by_cases h1 : k = 16
  · subst h1
    repeat first
      | (refine aops.cons fun K hK => ?_; simp [and_assoc]; (try simp (disch := omega) only [wrap64]); (first | refine hK _ ?_ | refine ⟨by omega, hK _ ?_⟩ | refine ⟨by omega, by omega, hK _ ?_⟩ | refine ⟨by omega, by omega, by omega, hK _ ?_⟩); clear hK K)
      | refine aops.nil ?_
      | refine runD.nil ?_
      | (refine runD.cons fun K hK => ?_; simp [and_assoc]; (try simp (disch := omega) only [wrap64]); (first | refine hK _ _ (runD.eqs (by simp; rfl) ?_) | refine ⟨by omega, hK _ _ (runD.eqs (by simp; rfl) ?_)⟩ | refine ⟨by omega, by omega, hK _ _ (runD.eqs (by simp; rfl) ?_)⟩); clear hK K)
      | refine AW.seqD ttOK etOK mixOK _ (by simp [calmCount, isCalm]; rfl) (by kernel_rfl) (by kernel_rfl) (by kernel_rfl) (by kernel_rfl) ?_
      | refine AW.lastD ttOK etOK mixOK _ (by simp [calmCount, isCalm]; rfl) (by kernel_rfl) (by kernel_rfl) (by kernel_rfl) (by kernel_rfl) ?_
      | refine AW.seqDM ttOK etOK mixOK _ (by simp [calmCount, isCalm]; rfl) (by kernel_rfl) (by kernel_rfl) (by kernel_rfl) (by simp; rfl) ?_
      | refine AW.lastDM ttOK etOK mixOK _ (by simp [calmCount, isCalm]; rfl) (by kernel_rfl) (by kernel_rfl) (by kernel_rfl) (by simp; rfl) ?_
      | refine AW.seqR ttOK etOK ?_
      | refine AW.lastR ttOK etOK ?_
      | refine AW.seqSkip ?_
      | refine AW.seq ?_
      | refine AW.block ?_
      | (refine AW.skip ?_; simp only [andThen, inBlk, ↓reduceIte])
      | (refine AW.exit ?_; simp (disch := omega) only [andThen, inBlk, ↓reduceIte, Nat.reduceEqDiff])
      | (guard_target =~ andThen _ _ _ _; simp only [andThen, inBlk, ↓reduceIte])
    refine AW.cond _ (by rfl) (fun hx => absurd hx (by simp [hin])) (fun _ => ?_)
    repeat first
      | (refine aops.cons fun K hK => ?_; simp [and_assoc]; (try simp (disch := omega) only [wrap64]); (first | refine hK _ ?_ | refine ⟨by omega, hK _ ?_⟩ | refine ⟨by omega, by omega, hK _ ?_⟩ | refine ⟨by omega, by omega, by omega, hK _ ?_⟩); clear hK K)
      | refine aops.nil ?_
      | refine runD.nil ?_
      | (refine runD.cons fun K hK => ?_; simp [and_assoc]; (try simp (disch := omega) only [wrap64]); (first | refine hK _ _ (runD.eqs (by simp; rfl) ?_) | refine ⟨by omega, hK _ _ (runD.eqs (by simp; rfl) ?_)⟩ | refine ⟨by omega, by omega, hK _ _ (runD.eqs (by simp; rfl) ?_)⟩); clear hK K)
      | refine AW.seqD ttOK etOK mixOK _ (by simp [calmCount, isCalm]; rfl) (by kernel_rfl) (by kernel_rfl) (by kernel_rfl) (by kernel_rfl) ?_
      | refine AW.lastD ttOK etOK mixOK _ (by simp [calmCount, isCalm]; rfl) (by kernel_rfl) (by kernel_rfl) (by kernel_rfl) (by kernel_rfl) ?_
      | refine AW.seqDM ttOK etOK mixOK _ (by simp [calmCount, isCalm]; rfl) (by kernel_rfl) (by kernel_rfl) (by kernel_rfl) (by simp; rfl) ?_
      | refine AW.lastDM ttOK etOK mixOK _ (by simp [calmCount, isCalm]; rfl) (by kernel_rfl) (by kernel_rfl) (by kernel_rfl) (by simp; rfl) ?_
      | refine AW.seqR ttOK etOK ?_
      | refine AW.lastR ttOK etOK ?_
      | refine AW.seqSkip ?_
      | refine AW.seq ?_
      | refine AW.block ?_
      | (refine AW.skip ?_; simp only [andThen, inBlk, ↓reduceIte])
      | (refine AW.exit ?_; simp (disch := omega) only [andThen, inBlk, ↓reduceIte, Nat.reduceEqDiff])
      | (guard_target =~ andThen _ _ _ _; simp only [andThen, inBlk, ↓reduceIte])
    exact AW.ret (by simp [resL, resA, resV, resVs, andThen, inBlk, keepB, keepF, hin])
  by_cases h2 : k = 17
  · subst h2
    repeat first
      | (refine aops.cons fun K hK => ?_; simp [and_assoc]; (try simp (disch := omega) only [wrap64]); (first | refine hK _ ?_ | refine ⟨by omega, hK _ ?_⟩ | refine ⟨by omega, by omega, hK _ ?_⟩ | refine ⟨by omega, by omega, by omega, hK _ ?_⟩); clear hK K)
      | refine aops.nil ?_
      | refine runD.nil ?_
      | (refine runD.cons fun K hK => ?_; simp [and_assoc]; (try simp (disch := omega) only [wrap64]); (first | refine hK _ _ (runD.eqs (by simp; rfl) ?_) | refine ⟨by omega, hK _ _ (runD.eqs (by simp; rfl) ?_)⟩ | refine ⟨by omega, by omega, hK _ _ (runD.eqs (by simp; rfl) ?_)⟩); clear hK K)
      | refine AW.seqD ttOK etOK mixOK _ (by simp [calmCount, isCalm]; rfl) (by kernel_rfl) (by kernel_rfl) (by kernel_rfl) (by kernel_rfl) ?_
      | refine AW.lastD ttOK etOK mixOK _ (by simp [calmCount, isCalm]; rfl) (by kernel_rfl) (by kernel_rfl) (by kernel_rfl) (by kernel_rfl) ?_
      | refine AW.seqDM ttOK etOK mixOK _ (by simp [calmCount, isCalm]; rfl) (by kernel_rfl) (by kernel_rfl) (by kernel_rfl) (by simp; rfl) ?_
      | refine AW.lastDM ttOK etOK mixOK _ (by simp [calmCount, isCalm]; rfl) (by kernel_rfl) (by kernel_rfl) (by kernel_rfl) (by simp; rfl) ?_
      | refine AW.seqR ttOK etOK ?_
      | refine AW.lastR ttOK etOK ?_
      | refine AW.seqSkip ?_
      | refine AW.seq ?_
      | refine AW.block ?_
      | (refine AW.skip ?_; simp only [andThen, inBlk, ↓reduceIte])
      | (refine AW.exit ?_; simp (disch := omega) only [andThen, inBlk, ↓reduceIte, Nat.reduceEqDiff])
      | (guard_target =~ andThen _ _ _ _; simp only [andThen, inBlk, ↓reduceIte])
    refine AW.cond _ (by rfl) (fun hx => absurd hx (by simp [hin])) (fun _ => ?_)
    repeat first
      | (refine aops.cons fun K hK => ?_; simp [and_assoc]; (try simp (disch := omega) only [wrap64]); (first | refine hK _ ?_ | refine ⟨by omega, hK _ ?_⟩ | refine ⟨by omega, by omega, hK _ ?_⟩ | refine ⟨by omega, by omega, by omega, hK _ ?_⟩); clear hK K)
      | refine aops.nil ?_
      | refine runD.nil ?_
      | (refine runD.cons fun K hK => ?_; simp [and_assoc]; (try simp (disch := omega) only [wrap64]); (first | refine hK _ _ (runD.eqs (by simp; rfl) ?_) | refine ⟨by omega, hK _ _ (runD.eqs (by simp; rfl) ?_)⟩ | refine ⟨by omega, by omega, hK _ _ (runD.eqs (by simp; rfl) ?_)⟩); clear hK K)
      | refine AW.seqD ttOK etOK mixOK _ (by simp [calmCount, isCalm]; rfl) (by kernel_rfl) (by kernel_rfl) (by kernel_rfl) (by kernel_rfl) ?_
      | refine AW.lastD ttOK etOK mixOK _ (by simp [calmCount, isCalm]; rfl) (by kernel_rfl) (by kernel_rfl) (by kernel_rfl) (by kernel_rfl) ?_
      | refine AW.seqDM ttOK etOK mixOK _ (by simp [calmCount, isCalm]; rfl) (by kernel_rfl) (by kernel_rfl) (by kernel_rfl) (by simp; rfl) ?_
      | refine AW.lastDM ttOK etOK mixOK _ (by simp [calmCount, isCalm]; rfl) (by kernel_rfl) (by kernel_rfl) (by kernel_rfl) (by simp; rfl) ?_
      | refine AW.seqR ttOK etOK ?_
      | refine AW.lastR ttOK etOK ?_
      | refine AW.seqSkip ?_
      | refine AW.seq ?_
      | refine AW.block ?_
      | (refine AW.skip ?_; simp only [andThen, inBlk, ↓reduceIte])
      | (refine AW.exit ?_; simp (disch := omega) only [andThen, inBlk, ↓reduceIte, Nat.reduceEqDiff])
      | (guard_target =~ andThen _ _ _ _; simp only [andThen, inBlk, ↓reduceIte])
    exact AW.ret (by simp [resL, resA, resV, resVs, andThen, inBlk, keepB, keepF, hin])
  repeat first
    | (refine aops.cons fun K hK => ?_; simp [and_assoc]; (try simp (disch := omega) only [wrap64]); (first | refine hK _ ?_ | refine ⟨by omega, hK _ ?_⟩ | refine ⟨by omega, by omega, hK _ ?_⟩ | refine ⟨by omega, by omega, by omega, hK _ ?_⟩); clear hK K)
    | refine aops.nil ?_
    | refine runD.nil ?_
    | (refine runD.cons fun K hK => ?_; simp [and_assoc]; (try simp (disch := omega) only [wrap64]); (first | refine hK _ _ (runD.eqs (by simp; rfl) ?_) | refine ⟨by omega, hK _ _ (runD.eqs (by simp; rfl) ?_)⟩ | refine ⟨by omega, by omega, hK _ _ (runD.eqs (by simp; rfl) ?_)⟩); clear hK K)
    | refine AW.seqD ttOK etOK mixOK _ (by simp [calmCount, isCalm]; rfl) (by kernel_rfl) (by kernel_rfl) (by kernel_rfl) (by kernel_rfl) ?_
    | refine AW.lastD ttOK etOK mixOK _ (by simp [calmCount, isCalm]; rfl) (by kernel_rfl) (by kernel_rfl) (by kernel_rfl) (by kernel_rfl) ?_
    | refine AW.seqDM ttOK etOK mixOK _ (by simp [calmCount, isCalm]; rfl) (by kernel_rfl) (by kernel_rfl) (by kernel_rfl) (by simp; rfl) ?_
    | refine AW.lastDM ttOK etOK mixOK _ (by simp [calmCount, isCalm]; rfl) (by kernel_rfl) (by kernel_rfl) (by kernel_rfl) (by simp; rfl) ?_
    | refine AW.seqR ttOK etOK ?_
    | refine AW.lastR ttOK etOK ?_
    | refine AW.seqSkip ?_
    | refine AW.seq ?_
    | refine AW.block ?_
    | (refine AW.skip ?_; simp only [andThen, inBlk, ↓reduceIte])
    | (refine AW.exit ?_; simp (disch := omega) only [andThen, inBlk, ↓reduceIte, Nat.reduceEqDiff])
    | (guard_target =~ andThen _ _ _ _; simp only [andThen, inBlk, ↓reduceIte])
  refine AW.cond _ (by rfl) (fun hx => absurd hx (by simp [hin])) (fun _ => ?_)
  repeat first
    | (refine aops.cons fun K hK => ?_; simp [and_assoc, h1, h2]; (try simp (disch := omega) only [wrap64]); (first | refine hK _ ?_ | refine ⟨by omega, hK _ ?_⟩ | refine ⟨by omega, by omega, hK _ ?_⟩ | refine ⟨by omega, by omega, by omega, hK _ ?_⟩); clear hK K)
    | refine aops.nil ?_
    | refine runD.nil ?_
    | (refine runD.cons fun K hK => ?_; simp [and_assoc, h1, h2]; (try simp (disch := omega) only [wrap64]); (first | refine hK _ _ (runD.eqs (by simp; rfl) ?_) | refine ⟨by omega, hK _ _ (runD.eqs (by simp; rfl) ?_)⟩ | refine ⟨by omega, by omega, hK _ _ (runD.eqs (by simp; rfl) ?_)⟩); clear hK K)
    | refine AW.seqD ttOK etOK mixOK _ (by simp [calmCount, isCalm]; rfl) (by kernel_rfl) (by kernel_rfl) (by kernel_rfl) (by kernel_rfl) ?_
    | refine AW.lastD ttOK etOK mixOK _ (by simp [calmCount, isCalm]; rfl) (by kernel_rfl) (by kernel_rfl) (by kernel_rfl) (by kernel_rfl) ?_
    | refine AW.seqDM ttOK etOK mixOK _ (by simp [calmCount, isCalm]; rfl) (by kernel_rfl) (by kernel_rfl) (by kernel_rfl) (by simp; rfl) ?_
    | refine AW.lastDM ttOK etOK mixOK _ (by simp [calmCount, isCalm]; rfl) (by kernel_rfl) (by kernel_rfl) (by kernel_rfl) (by simp; rfl) ?_
    | refine AW.seqR ttOK etOK ?_
    | refine AW.lastR ttOK etOK ?_
    | refine AW.seqSkip ?_
    | refine AW.seq ?_
    | refine AW.block ?_
    | (refine AW.skip ?_; simp only [andThen, inBlk, ↓reduceIte])
    | (refine AW.exit ?_; simp (disch := omega) only [andThen, inBlk, ↓reduceIte, Nat.reduceEqDiff])
    | (guard_target =~ andThen _ _ _ _; simp only [andThen, inBlk, ↓reduceIte])
  have : (k != 18) = decide (k < 16) := by
    rw [Bool.eq_iff_iff]; simp; omega
  exact AW.ret (by simp [resL, resA, resV, resVs, andThen, inBlk, keepB, keepF, hin, this])
theorem good_KeepsListsR (k : Int) : Good Try.prog 9 [aI k] (.tp [aB (keepB k), aI (keepF k)]) := by
  refine goodF ttOK Try.func9 (vs := [.tmp 2, .tmp 3]) (nt := 9) rfl rfl rfl (by kernel_rfl) (by simp) (by simp [dataA, dataL]) ?_
  repeat first
    | (refine aops.cons fun K hK => ?_; simp [and_assoc]; (try simp (disch := omega) only [wrap64]); (first | refine hK _ ?_ | refine ⟨by omega, hK _ ?_⟩ | refine ⟨by omega, by omega, hK _ ?_⟩ | refine ⟨by omega, by omega, by omega, hK _ ?_⟩); clear hK K)
    | refine aops.nil ?_
    | refine runD.nil ?_
    | (refine runD.cons fun K hK => ?_; simp [and_assoc]; (try simp (disch := omega) only [wrap64]); (first | refine hK _ _ (runD.eqs (by simp; rfl) ?_) | refine ⟨by omega, hK _ _ (runD.eqs (by simp; rfl) ?_)⟩ | refine ⟨by omega, by omega, hK _ _ (runD.eqs (by simp; rfl) ?_)⟩); clear hK K)
    | refine AW.seqD ttOK etOK mixOK _ (by simp [calmCount, isCalm]; rfl) (by kernel_rfl) (by kernel_rfl) (by kernel_rfl) (by kernel_rfl) ?_
    | refine AW.lastD ttOK etOK mixOK _ (by simp [calmCount, isCalm]; rfl) (by kernel_rfl) (by kernel_rfl) (by kernel_rfl) (by kernel_rfl) ?_
    | refine AW.seqDM ttOK etOK mixOK _ (by simp [calmCount, isCalm]; rfl) (by kernel_rfl) (by kernel_rfl) (by kernel_rfl) (by simp; rfl) ?_
    | refine AW.lastDM ttOK etOK mixOK _ (by simp [calmCount, isCalm]; rfl) (by kernel_rfl) (by kernel_rfl) (by kernel_rfl) (by simp; rfl) ?_
    | refine AW.seqR ttOK etOK ?_
    | refine AW.lastR ttOK etOK ?_
    | refine AW.seqSkip ?_
    | refine AW.seq ?_
    | refine AW.block ?_
    | (refine AW.skip ?_; simp only [andThen, inBlk, ↓reduceIte])
    | (refine AW.exit ?_; simp (disch := omega) only [andThen, inBlk, ↓reduceIte, Nat.reduceEqDiff])
    | (guard_target =~ andThen _ _ _ _; simp only [andThen, inBlk, ↓reduceIte])
  first | refine aops.cons fun K hK => ?_ | refine runD.cons fun K hK => ?_
  simp [and_assoc]
  first | refine callA (good_within k 1 18) (by repeat (first | exact LeL.nil | refine LeL.cons (by first | exact Le.refl _ | exact Le.bs _ _ | exact Le.bp _ | exact Le.nilb _ | exact Le.nild _ | exact Le.un _) ?_)) (hK _ ?_) | refine callA (good_within k 1 18) (by repeat (first | exact LeL.nil | refine LeL.cons (by first | exact Le.refl _ | exact Le.bs _ _ | exact Le.bp _ | exact Le.nilb _ | exact Le.nild _ | exact Le.un _) ?_)) (hK _ _ (runD.eqs (by simp; rfl) ?_))
  clear hK K
  by_cases hin : inR k 1 18 = true
  rotate_left
  · repeat first
      | (refine aops.cons fun K hK => ?_; simp [and_assoc]; (try simp (disch := omega) only [wrap64]); (first | refine hK _ ?_ | refine ⟨by omega, hK _ ?_⟩ | refine ⟨by omega, by omega, hK _ ?_⟩ | refine ⟨by omega, by omega, by omega, hK _ ?_⟩); clear hK K)
      | refine aops.nil ?_
      | refine runD.nil ?_
      | (refine runD.cons fun K hK => ?_; simp [and_assoc]; (try simp (disch := omega) only [wrap64]); (first | refine hK _ _ (runD.eqs (by simp; rfl) ?_) | refine ⟨by omega, hK _ _ (runD.eqs (by simp; rfl) ?_)⟩ | refine ⟨by omega, by omega, hK _ _ (runD.eqs (by simp; rfl) ?_)⟩); clear hK K)
      | refine AW.seqD ttOK etOK mixOK _ (by simp [calmCount, isCalm]; rfl) (by kernel_rfl) (by kernel_rfl) (by kernel_rfl) (by kernel_rfl) ?_
      | refine AW.lastD ttOK etOK mixOK _ (by simp [calmCount, isCalm]; rfl) (by kernel_rfl) (by kernel_rfl) (by kernel_rfl) (by kernel_rfl) ?_
      | refine AW.seqDM ttOK etOK mixOK _ (by simp [calmCount, isCalm]; rfl) (by kernel_rfl) (by kernel_rfl) (by kernel_rfl) (by simp; rfl) ?_
      | refine AW.lastDM ttOK etOK mixOK _ (by simp [calmCount, isCalm]; rfl) (by kernel_rfl) (by kernel_rfl) (by kernel_rfl) (by simp; rfl) ?_
      | refine AW.seqR ttOK etOK ?_
      | refine AW.lastR ttOK etOK ?_
      | refine AW.seqSkip ?_
      | refine AW.seq ?_
      | refine AW.block ?_
      | (refine AW.skip ?_; simp only [andThen, inBlk, ↓reduceIte])
      | (refine AW.exit ?_; simp (disch := omega) only [andThen, inBlk, ↓reduceIte, Nat.reduceEqDiff])
      | (guard_target =~ andThen _ _ _ _; simp only [andThen, inBlk, ↓reduceIte])
    refine AW.cond _ (by rfl) (fun _ => ?_) (fun hx => absurd hx (by simp [hin]))
    repeat first
      | (refine aops.cons fun K hK => ?_; simp [and_assoc]; (try simp (disch := omega) only [wrap64]); (first | refine hK _ ?_ | refine ⟨by omega, hK _ ?_⟩ | refine ⟨by omega, by omega, hK _ ?_⟩ | refine ⟨by omega, by omega, by omega, hK _ ?_⟩); clear hK K)
      | refine aops.nil ?_
      | refine runD.nil ?_
      | (refine runD.cons fun K hK => ?_; simp [and_assoc]; (try simp (disch := omega) only [wrap64]); (first | refine hK _ _ (runD.eqs (by simp; rfl) ?_) | refine ⟨by omega, hK _ _ (runD.eqs (by simp; rfl) ?_)⟩ | refine ⟨by omega, by omega, hK _ _ (runD.eqs (by simp; rfl) ?_)⟩); clear hK K)
      | refine AW.seqD ttOK etOK mixOK _ (by simp [calmCount, isCalm]; rfl) (by kernel_rfl) (by kernel_rfl) (by kernel_rfl) (by kernel_rfl) ?_
      | refine AW.lastD ttOK etOK mixOK _ (by simp [calmCount, isCalm]; rfl) (by kernel_rfl) (by kernel_rfl) (by kernel_rfl) (by kernel_rfl) ?_
      | refine AW.seqDM ttOK etOK mixOK _ (by simp [calmCount, isCalm]; rfl) (by kernel_rfl) (by kernel_rfl) (by kernel_rfl) (by simp; rfl) ?_
      | refine AW.lastDM ttOK etOK mixOK _ (by simp [calmCount, isCalm]; rfl) (by kernel_rfl) (by kernel_rfl) (by kernel_rfl) (by simp; rfl) ?_
      | refine AW.seqR ttOK etOK ?_
      | refine AW.lastR ttOK etOK ?_
      | refine AW.seqSkip ?_
      | refine AW.seq ?_
      | refine AW.block ?_
      | (refine AW.skip ?_; simp only [andThen, inBlk, ↓reduceIte])
      | (refine AW.exit ?_; simp (disch := omega) only [andThen, inBlk, ↓reduceIte, Nat.reduceEqDiff])
      | (guard_target =~ andThen _ _ _ _; simp only [andThen, inBlk, ↓reduceIte])
    exact AW.ret (by simp [resL, resA, resV, resVs, andThen, inBlk, keepB, keepF, hin])
  repeat first
    | (refine aops.cons fun K hK => ?_; simp [and_assoc]; (try simp (disch := omega) only [wrap64]); (first | refine hK _ ?_ | refine ⟨by omega, hK _ ?_⟩ | refine ⟨by omega, by omega, hK _ ?_⟩ | refine ⟨by omega, by omega, by omega, hK _ ?_⟩); clear hK K)
    | refine aops.nil ?_
    | refine runD.nil ?_
    | (refine runD.cons fun K hK => ?_; simp [and_assoc]; (try simp (disch := omega) only [wrap64]); (first | refine hK _ _ (runD.eqs (by simp; rfl) ?_) | refine ⟨by omega, hK _ _ (runD.eqs (by simp; rfl) ?_)⟩ | refine ⟨by omega, by omega, hK _ _ (runD.eqs (by simp; rfl) ?_)⟩); clear hK K)
    | refine AW.seqD ttOK etOK mixOK _ (by simp [calmCount, isCalm]; rfl) (by kernel_rfl) (by kernel_rfl) (by kernel_rfl) (by kernel_rfl) ?_
    | refine AW.lastD ttOK etOK mixOK _ (by simp [calmCount, isCalm]; rfl) (by kernel_rfl) (by kernel_rfl) (by kernel_rfl) (by kernel_rfl) ?_
    | refine AW.seqDM ttOK etOK mixOK _ (by simp [calmCount, isCalm]; rfl) (by kernel_rfl) (by kernel_rfl) (by kernel_rfl) (by simp; rfl) ?_
    | refine AW.lastDM ttOK etOK mixOK _ (by simp [calmCount, isCalm]; rfl) (by kernel_rfl) (by kernel_rfl) (by kernel_rfl) (by simp; rfl) ?_
    | refine AW.seqR ttOK etOK ?_
    | refine AW.lastR ttOK etOK ?_
    | refine AW.seqSkip ?_
    | refine AW.seq ?_
    | refine AW.block ?_
    | (refine AW.skip ?_; simp only [andThen, inBlk, ↓reduceIte])
    | (refine AW.exit ?_; simp (disch := omega) only [andThen, inBlk, ↓reduceIte, Nat.reduceEqDiff])
    | (guard_target =~ andThen _ _ _ _; simp only [andThen, inBlk, ↓reduceIte])
  refine AW.cond _ (by rfl) (fun hx => absurd hx (by simp [hin])) (fun _ => ?_)
  repeat first
    | (refine aops.cons fun K hK => ?_; simp [and_assoc]; (try simp (disch := omega) only [wrap64]); (first | refine hK _ ?_ | refine ⟨by omega, hK _ ?_⟩ | refine ⟨by omega, by omega, hK _ ?_⟩ | refine ⟨by omega, by omega, by omega, hK _ ?_⟩); clear hK K)
    | refine aops.nil ?_
    | refine runD.nil ?_
    | (refine runD.cons fun K hK => ?_; simp [and_assoc]; (try simp (disch := omega) only [wrap64]); (first | refine hK _ _ (runD.eqs (by simp; rfl) ?_) | refine ⟨by omega, hK _ _ (runD.eqs (by simp; rfl) ?_)⟩ | refine ⟨by omega, by omega, hK _ _ (runD.eqs (by simp; rfl) ?_)⟩); clear hK K)
    | refine AW.seqD ttOK etOK mixOK _ (by simp [calmCount, isCalm]; rfl) (by kernel_rfl) (by kernel_rfl) (by kernel_rfl) (by kernel_rfl) ?_
    | refine AW.lastD ttOK etOK mixOK _ (by simp [calmCount, isCalm]; rfl) (by kernel_rfl) (by kernel_rfl) (by kernel_rfl) (by kernel_rfl) ?_
    | refine AW.seqDM ttOK etOK mixOK _ (by simp [calmCount, isCalm]; rfl) (by kernel_rfl) (by kernel_rfl) (by kernel_rfl) (by simp; rfl) ?_
    | refine AW.lastDM ttOK etOK mixOK _ (by simp [calmCount, isCalm]; rfl) (by kernel_rfl) (by kernel_rfl) (by kernel_rfl) (by simp; rfl) ?_
    | refine AW.seqR ttOK etOK ?_
    | refine AW.lastR ttOK etOK ?_
    | refine AW.seqSkip ?_
    | refine AW.seq ?_
    | refine AW.block ?_
    | (refine AW.skip ?_; simp only [andThen, inBlk, ↓reduceIte])
    | (refine AW.exit ?_; simp (disch := omega) only [andThen, inBlk, ↓reduceIte, Nat.reduceEqDiff])
    | (guard_target =~ andThen _ _ _ _; simp only [andThen, inBlk, ↓reduceIte])
  exact AW.ret (by simp [resL, resA, resV, resVs, andThen, inBlk, keepB, keepF, hin])
theorem good_awake : Good Try.prog 12 [] (aB true) := by
  refine goodF ttOK Try.func12 (vs := [.tmp 0]) (nt := 12) rfl rfl rfl (by kernel_rfl) (by simp) trivial ?_
  repeat first
    | (refine aops.cons fun K hK => ?_; simp [and_assoc]; (try simp (disch := omega) only [wrap64]); (first | refine hK _ ?_ | refine ⟨by omega, hK _ ?_⟩ | refine ⟨by omega, by omega, hK _ ?_⟩ | refine ⟨by omega, by omega, by omega, hK _ ?_⟩); clear hK K)
    | refine aops.nil ?_
    | refine runD.nil ?_
    | (refine runD.cons fun K hK => ?_; simp [and_assoc]; (try simp (disch := omega) only [wrap64]); (first | refine hK _ _ (runD.eqs (by simp; rfl) ?_) | refine ⟨by omega, hK _ _ (runD.eqs (by simp; rfl) ?_)⟩ | refine ⟨by omega, by omega, hK _ _ (runD.eqs (by simp; rfl) ?_)⟩); clear hK K)
    | refine AW.seqD ttOK etOK mixOK _ (by simp [calmCount, isCalm]; rfl) (by kernel_rfl) (by kernel_rfl) (by kernel_rfl) (by kernel_rfl) ?_
    | refine AW.lastD ttOK etOK mixOK _ (by simp [calmCount, isCalm]; rfl) (by kernel_rfl) (by kernel_rfl) (by kernel_rfl) (by kernel_rfl) ?_
    | refine AW.seqDM ttOK etOK mixOK _ (by simp [calmCount, isCalm]; rfl) (by kernel_rfl) (by kernel_rfl) (by kernel_rfl) (by simp; rfl) ?_
    | refine AW.lastDM ttOK etOK mixOK _ (by simp [calmCount, isCalm]; rfl) (by kernel_rfl) (by kernel_rfl) (by kernel_rfl) (by simp; rfl) ?_
    | refine AW.seqR ttOK etOK ?_
    | refine AW.lastR ttOK etOK ?_
    | refine AW.seqSkip ?_
    | refine AW.seq ?_
    | refine AW.block ?_
    | (refine AW.skip ?_; simp only [andThen, inBlk, ↓reduceIte])
    | (refine AW.exit ?_; simp (disch := omega) only [andThen, inBlk, ↓reduceIte, Nat.reduceEqDiff])
    | (guard_target =~ andThen _ _ _ _; simp only [andThen, inBlk, ↓reduceIte])
  first | refine aops.cons fun K hK => ?_ | refine runD.cons fun K hK => ?_
  simp [and_assoc]
  first | refine callA (good_KeepsLists 1) (by repeat (first | exact LeL.nil | refine LeL.cons (by first | exact Le.refl _ | exact Le.bs _ _ | exact Le.bp _ | exact Le.nilb _ | exact Le.nild _ | exact Le.un _) ?_)) (hK _ ?_) | refine callA (good_KeepsLists 1) (by repeat (first | exact LeL.nil | refine LeL.cons (by first | exact Le.refl _ | exact Le.bs _ _ | exact Le.bp _ | exact Le.nilb _ | exact Le.nild _ | exact Le.un _) ?_)) (hK _ _ (runD.eqs (by simp; rfl) ?_))
  clear hK K
  repeat first
    | (refine aops.cons fun K hK => ?_; simp [and_assoc, keepF, keepB, inR]; (try simp (disch := omega) only [wrap64]); (first | refine hK _ ?_ | refine ⟨by omega, hK _ ?_⟩ | refine ⟨by omega, by omega, hK _ ?_⟩ | refine ⟨by omega, by omega, by omega, hK _ ?_⟩); clear hK K)
    | refine aops.nil ?_
    | refine runD.nil ?_
    | (refine runD.cons fun K hK => ?_; simp [and_assoc, keepF, keepB, inR]; (try simp (disch := omega) only [wrap64]); (first | refine hK _ _ (runD.eqs (by simp; rfl) ?_) | refine ⟨by omega, hK _ _ (runD.eqs (by simp; rfl) ?_)⟩ | refine ⟨by omega, by omega, hK _ _ (runD.eqs (by simp; rfl) ?_)⟩); clear hK K)
    | refine AW.seqD ttOK etOK mixOK _ (by simp [calmCount, isCalm]; rfl) (by kernel_rfl) (by kernel_rfl) (by kernel_rfl) (by kernel_rfl) ?_
    | refine AW.lastD ttOK etOK mixOK _ (by simp [calmCount, isCalm]; rfl) (by kernel_rfl) (by kernel_rfl) (by kernel_rfl) (by kernel_rfl) ?_
    | refine AW.seqDM ttOK etOK mixOK _ (by simp [calmCount, isCalm]; rfl) (by kernel_rfl) (by kernel_rfl) (by kernel_rfl) (by simp; rfl) ?_
    | refine AW.lastDM ttOK etOK mixOK _ (by simp [calmCount, isCalm]; rfl) (by kernel_rfl) (by kernel_rfl) (by kernel_rfl) (by simp; rfl) ?_
    | refine AW.seqR ttOK etOK ?_
    | refine AW.lastR ttOK etOK ?_
    | refine AW.seqSkip ?_
    | refine AW.seq ?_
    | refine AW.block ?_
    | (refine AW.skip ?_; simp only [andThen, inBlk, ↓reduceIte])
    | (refine AW.exit ?_; simp (disch := omega) only [andThen, inBlk, ↓reduceIte, Nat.reduceEqDiff])
    | (guard_target =~ andThen _ _ _ _; simp only [andThen, inBlk, ↓reduceIte])
  exact AW.ret (by simp [resL, resA, resV, resVs, andThen, inBlk])
def takesI (k : Int) : Int := if inR k 1 9 then takes k else -1
theorem good_takesOf (k : Int) : Good Try.prog 28 [aI k] (aI (takesI k)) := by
  refine goodF ttOK Try.func28 (vs := [.tmp 2]) (nt := 11) rfl rfl rfl (by kernel_rfl) (by simp) trivial ?_
  repeat first
    | (refine aops.cons fun K hK => ?_; simp [and_assoc]; (try simp (disch := omega) only [wrap64]); (first | refine hK _ ?_ | refine ⟨by omega, hK _ ?_⟩ | refine ⟨by omega, by omega, hK _ ?_⟩ | refine ⟨by omega, by omega, by omega, hK _ ?_⟩); clear hK K)
    | refine aops.nil ?_
    | refine runD.nil ?_
    | (refine runD.cons fun K hK => ?_; simp [and_assoc]; (try simp (disch := omega) only [wrap64]); (first | refine hK _ _ (runD.eqs (by simp; rfl) ?_) | refine ⟨by omega, hK _ _ (runD.eqs (by simp; rfl) ?_)⟩ | refine ⟨by omega, by omega, hK _ _ (runD.eqs (by simp; rfl) ?_)⟩); clear hK K)
    | refine AW.seqD ttOK etOK mixOK _ (by simp [calmCount, isCalm]; rfl) (by kernel_rfl) (by kernel_rfl) (by kernel_rfl) (by kernel_rfl) ?_
    | refine AW.lastD ttOK etOK mixOK _ (by simp [calmCount, isCalm]; rfl) (by kernel_rfl) (by kernel_rfl) (by kernel_rfl) (by kernel_rfl) ?_
    | refine AW.seqDM ttOK etOK mixOK _ (by simp [calmCount, isCalm]; rfl) (by kernel_rfl) (by kernel_rfl) (by kernel_rfl) (by simp; rfl) ?_
    | refine AW.lastDM ttOK etOK mixOK _ (by simp [calmCount, isCalm]; rfl) (by kernel_rfl) (by kernel_rfl) (by kernel_rfl) (by simp; rfl) ?_
    | refine AW.seqR ttOK etOK ?_
    | refine AW.lastR ttOK etOK ?_
    | refine AW.seqSkip ?_
    | refine AW.seq ?_
    | refine AW.block ?_
    | (refine AW.skip ?_; simp only [andThen, inBlk, ↓reduceIte])
    | (refine AW.exit ?_; simp (disch := omega) only [andThen, inBlk, ↓reduceIte, Nat.reduceEqDiff])
    | (guard_target =~ andThen _ _ _ _; simp only [andThen, inBlk, ↓reduceIte])
  refine AW.cond _ (by rfl) (fun h1 => ?_) (fun h1 => ?_) <;> (try simp at h1)
  · repeat first
      | (refine aops.cons fun K hK => ?_; simp [and_assoc]; (try simp (disch := omega) only [wrap64]); (first | refine hK _ ?_ | refine ⟨by omega, hK _ ?_⟩ | refine ⟨by omega, by omega, hK _ ?_⟩ | refine ⟨by omega, by omega, by omega, hK _ ?_⟩); clear hK K)
      | refine aops.nil ?_
      | refine runD.nil ?_
      | (refine runD.cons fun K hK => ?_; simp [and_assoc]; (try simp (disch := omega) only [wrap64]); (first | refine hK _ _ (runD.eqs (by simp; rfl) ?_) | refine ⟨by omega, hK _ _ (runD.eqs (by simp; rfl) ?_)⟩ | refine ⟨by omega, by omega, hK _ _ (runD.eqs (by simp; rfl) ?_)⟩); clear hK K)
      | refine AW.seqD ttOK etOK mixOK _ (by simp [calmCount, isCalm]; rfl) (by kernel_rfl) (by kernel_rfl) (by kernel_rfl) (by kernel_rfl) ?_
      | refine AW.lastD ttOK etOK mixOK _ (by simp [calmCount, isCalm]; rfl) (by kernel_rfl) (by kernel_rfl) (by kernel_rfl) (by kernel_rfl) ?_
      | refine AW.seqDM ttOK etOK mixOK _ (by simp [calmCount, isCalm]; rfl) (by kernel_rfl) (by kernel_rfl) (by kernel_rfl) (by simp; rfl) ?_
      | refine AW.lastDM ttOK etOK mixOK _ (by simp [calmCount, isCalm]; rfl) (by kernel_rfl) (by kernel_rfl) (by kernel_rfl) (by simp; rfl) ?_
      | refine AW.seqR ttOK etOK ?_
      | refine AW.lastR ttOK etOK ?_
      | refine AW.seqSkip ?_
      | refine AW.seq ?_
      | refine AW.block ?_
      | (refine AW.skip ?_; simp only [andThen, inBlk, ↓reduceIte])
      | (refine AW.exit ?_; simp (disch := omega) only [andThen, inBlk, ↓reduceIte, Nat.reduceEqDiff])
      | (guard_target =~ andThen _ _ _ _; simp only [andThen, inBlk, ↓reduceIte])
    exact AW.ret (by simp [resL, resA, resV, resVs, andThen, inBlk, h1, takesI, takes, inR])
  repeat first
    | (refine aops.cons fun K hK => ?_; simp [and_assoc]; (try simp (disch := omega) only [wrap64]); (first | refine hK _ ?_ | refine ⟨by omega, hK _ ?_⟩ | refine ⟨by omega, by omega, hK _ ?_⟩ | refine ⟨by omega, by omega, by omega, hK _ ?_⟩); clear hK K)
    | refine aops.nil ?_
    | refine runD.nil ?_
    | (refine runD.cons fun K hK => ?_; simp [and_assoc]; (try simp (disch := omega) only [wrap64]); (first | refine hK _ _ (runD.eqs (by simp; rfl) ?_) | refine ⟨by omega, hK _ _ (runD.eqs (by simp; rfl) ?_)⟩ | refine ⟨by omega, by omega, hK _ _ (runD.eqs (by simp; rfl) ?_)⟩); clear hK K)
    | refine AW.seqD ttOK etOK mixOK _ (by simp [calmCount, isCalm]; rfl) (by kernel_rfl) (by kernel_rfl) (by kernel_rfl) (by kernel_rfl) ?_
    | refine AW.lastD ttOK etOK mixOK _ (by simp [calmCount, isCalm]; rfl) (by kernel_rfl) (by kernel_rfl) (by kernel_rfl) (by kernel_rfl) ?_
    | refine AW.seqDM ttOK etOK mixOK _ (by simp [calmCount, isCalm]; rfl) (by kernel_rfl) (by kernel_rfl) (by kernel_rfl) (by simp; rfl) ?_
    | refine AW.lastDM ttOK etOK mixOK _ (by simp [calmCount, isCalm]; rfl) (by kernel_rfl) (by kernel_rfl) (by kernel_rfl) (by simp; rfl) ?_
    | refine AW.seqR ttOK etOK ?_
    | refine AW.lastR ttOK etOK ?_
    | refine AW.seqSkip ?_
    | refine AW.seq ?_
    | refine AW.block ?_
    | (refine AW.skip ?_; simp only [andThen, inBlk, ↓reduceIte])
    | (refine AW.exit ?_; simp (disch := omega) only [andThen, inBlk, ↓reduceIte, Nat.reduceEqDiff])
    | (guard_target =~ andThen _ _ _ _; simp only [andThen, inBlk, ↓reduceIte])
  refine AW.cond _ (by rfl) (fun h2 => ?_) (fun h2 => ?_) <;> (try simp at h2)
  · repeat first
      | (refine aops.cons fun K hK => ?_; simp [and_assoc]; (try simp (disch := omega) only [wrap64]); (first | refine hK _ ?_ | refine ⟨by omega, hK _ ?_⟩ | refine ⟨by omega, by omega, hK _ ?_⟩ | refine ⟨by omega, by omega, by omega, hK _ ?_⟩); clear hK K)
      | refine aops.nil ?_
      | refine runD.nil ?_
      | (refine runD.cons fun K hK => ?_; simp [and_assoc]; (try simp (disch := omega) only [wrap64]); (first | refine hK _ _ (runD.eqs (by simp; rfl) ?_) | refine ⟨by omega, hK _ _ (runD.eqs (by simp; rfl) ?_)⟩ | refine ⟨by omega, by omega, hK _ _ (runD.eqs (by simp; rfl) ?_)⟩); clear hK K)
      | refine AW.seqD ttOK etOK mixOK _ (by simp [calmCount, isCalm]; rfl) (by kernel_rfl) (by kernel_rfl) (by kernel_rfl) (by kernel_rfl) ?_
      | refine AW.lastD ttOK etOK mixOK _ (by simp [calmCount, isCalm]; rfl) (by kernel_rfl) (by kernel_rfl) (by kernel_rfl) (by kernel_rfl) ?_
      | refine AW.seqDM ttOK etOK mixOK _ (by simp [calmCount, isCalm]; rfl) (by kernel_rfl) (by kernel_rfl) (by kernel_rfl) (by simp; rfl) ?_
      | refine AW.lastDM ttOK etOK mixOK _ (by simp [calmCount, isCalm]; rfl) (by kernel_rfl) (by kernel_rfl) (by kernel_rfl) (by simp; rfl) ?_
      | refine AW.seqR ttOK etOK ?_
      | refine AW.lastR ttOK etOK ?_
      | refine AW.seqSkip ?_
      | refine AW.seq ?_
      | refine AW.block ?_
      | (refine AW.skip ?_; simp only [andThen, inBlk, ↓reduceIte])
      | (refine AW.exit ?_; simp (disch := omega) only [andThen, inBlk, ↓reduceIte, Nat.reduceEqDiff])
      | (guard_target =~ andThen _ _ _ _; simp only [andThen, inBlk, ↓reduceIte])
    refine AW.cond _ (by rfl) (fun _ => ?_) (fun hx => absurd hx (by simp [h2]))
    repeat first
      | (refine aops.cons fun K hK => ?_; simp [and_assoc]; (try simp (disch := omega) only [wrap64]); (first | refine hK _ ?_ | refine ⟨by omega, hK _ ?_⟩ | refine ⟨by omega, by omega, hK _ ?_⟩ | refine ⟨by omega, by omega, by omega, hK _ ?_⟩); clear hK K)
      | refine aops.nil ?_
      | refine runD.nil ?_
      | (refine runD.cons fun K hK => ?_; simp [and_assoc]; (try simp (disch := omega) only [wrap64]); (first | refine hK _ _ (runD.eqs (by simp; rfl) ?_) | refine ⟨by omega, hK _ _ (runD.eqs (by simp; rfl) ?_)⟩ | refine ⟨by omega, by omega, hK _ _ (runD.eqs (by simp; rfl) ?_)⟩); clear hK K)
      | refine AW.seqD ttOK etOK mixOK _ (by simp [calmCount, isCalm]; rfl) (by kernel_rfl) (by kernel_rfl) (by kernel_rfl) (by kernel_rfl) ?_
      | refine AW.lastD ttOK etOK mixOK _ (by simp [calmCount, isCalm]; rfl) (by kernel_rfl) (by kernel_rfl) (by kernel_rfl) (by kernel_rfl) ?_
      | refine AW.seqDM ttOK etOK mixOK _ (by simp [calmCount, isCalm]; rfl) (by kernel_rfl) (by kernel_rfl) (by kernel_rfl) (by simp; rfl) ?_
      | refine AW.lastDM ttOK etOK mixOK _ (by simp [calmCount, isCalm]; rfl) (by kernel_rfl) (by kernel_rfl) (by kernel_rfl) (by simp; rfl) ?_
      | refine AW.seqR ttOK etOK ?_
      | refine AW.lastR ttOK etOK ?_
      | refine AW.seqSkip ?_
      | refine AW.seq ?_
      | refine AW.block ?_
      | (refine AW.skip ?_; simp only [andThen, inBlk, ↓reduceIte])
      | (refine AW.exit ?_; simp (disch := omega) only [andThen, inBlk, ↓reduceIte, Nat.reduceEqDiff])
      | (guard_target =~ andThen _ _ _ _; simp only [andThen, inBlk, ↓reduceIte])
    exact AW.ret (by simp [resL, resA, resV, resVs, andThen, inBlk, h2, takesI, takes, inR])
  repeat first
    | (refine aops.cons fun K hK => ?_; simp [and_assoc]; (try simp (disch := omega) only [wrap64]); (first | refine hK _ ?_ | refine ⟨by omega, hK _ ?_⟩ | refine ⟨by omega, by omega, hK _ ?_⟩ | refine ⟨by omega, by omega, by omega, hK _ ?_⟩); clear hK K)
    | refine aops.nil ?_
    | refine runD.nil ?_
    | (refine runD.cons fun K hK => ?_; simp [and_assoc]; (try simp (disch := omega) only [wrap64]); (first | refine hK _ _ (runD.eqs (by simp; rfl) ?_) | refine ⟨by omega, hK _ _ (runD.eqs (by simp; rfl) ?_)⟩ | refine ⟨by omega, by omega, hK _ _ (runD.eqs (by simp; rfl) ?_)⟩); clear hK K)
    | refine AW.seqD ttOK etOK mixOK _ (by simp [calmCount, isCalm]; rfl) (by kernel_rfl) (by kernel_rfl) (by kernel_rfl) (by kernel_rfl) ?_
    | refine AW.lastD ttOK etOK mixOK _ (by simp [calmCount, isCalm]; rfl) (by kernel_rfl) (by kernel_rfl) (by kernel_rfl) (by kernel_rfl) ?_
    | refine AW.seqDM ttOK etOK mixOK _ (by simp [calmCount, isCalm]; rfl) (by kernel_rfl) (by kernel_rfl) (by kernel_rfl) (by simp; rfl) ?_
    | refine AW.lastDM ttOK etOK mixOK _ (by simp [calmCount, isCalm]; rfl) (by kernel_rfl) (by kernel_rfl) (by kernel_rfl) (by simp; rfl) ?_
    | refine AW.seqR ttOK etOK ?_
    | refine AW.lastR ttOK etOK ?_
    | refine AW.seqSkip ?_
    | refine AW.seq ?_
    | refine AW.block ?_
    | (refine AW.skip ?_; simp only [andThen, inBlk, ↓reduceIte])
    | (refine AW.exit ?_; simp (disch := omega) only [andThen, inBlk, ↓reduceIte, Nat.reduceEqDiff])
    | (guard_target =~ andThen _ _ _ _; simp only [andThen, inBlk, ↓reduceIte])
  refine AW.cond _ (by rfl) (fun h3 => ?_) (fun h3 => ?_) <;> (try simp at h3)
  · repeat first
      | (refine aops.cons fun K hK => ?_; simp [and_assoc]; (try simp (disch := omega) only [wrap64]); (first | refine hK _ ?_ | refine ⟨by omega, hK _ ?_⟩ | refine ⟨by omega, by omega, hK _ ?_⟩ | refine ⟨by omega, by omega, by omega, hK _ ?_⟩); clear hK K)
      | refine aops.nil ?_
      | refine runD.nil ?_
      | (refine runD.cons fun K hK => ?_; simp [and_assoc]; (try simp (disch := omega) only [wrap64]); (first | refine hK _ _ (runD.eqs (by simp; rfl) ?_) | refine ⟨by omega, hK _ _ (runD.eqs (by simp; rfl) ?_)⟩ | refine ⟨by omega, by omega, hK _ _ (runD.eqs (by simp; rfl) ?_)⟩); clear hK K)
      | refine AW.seqD ttOK etOK mixOK _ (by simp [calmCount, isCalm]; rfl) (by kernel_rfl) (by kernel_rfl) (by kernel_rfl) (by kernel_rfl) ?_
      | refine AW.lastD ttOK etOK mixOK _ (by simp [calmCount, isCalm]; rfl) (by kernel_rfl) (by kernel_rfl) (by kernel_rfl) (by kernel_rfl) ?_
      | refine AW.seqDM ttOK etOK mixOK _ (by simp [calmCount, isCalm]; rfl) (by kernel_rfl) (by kernel_rfl) (by kernel_rfl) (by simp; rfl) ?_
      | refine AW.lastDM ttOK etOK mixOK _ (by simp [calmCount, isCalm]; rfl) (by kernel_rfl) (by kernel_rfl) (by kernel_rfl) (by simp; rfl) ?_
      | refine AW.seqR ttOK etOK ?_
      | refine AW.lastR ttOK etOK ?_
      | refine AW.seqSkip ?_
      | refine AW.seq ?_
      | refine AW.block ?_
      | (refine AW.skip ?_; simp only [andThen, inBlk, ↓reduceIte])
      | (refine AW.exit ?_; simp (disch := omega) only [andThen, inBlk, ↓reduceIte, Nat.reduceEqDiff])
      | (guard_target =~ andThen _ _ _ _; simp only [andThen, inBlk, ↓reduceIte])
    exact AW.ret (by simp [resL, resA, resV, resVs, andThen, inBlk, h3, takesI, takes, inR])
  repeat first
    | (refine aops.cons fun K hK => ?_; simp [and_assoc]; (try simp (disch := omega) only [wrap64]); (first | refine hK _ ?_ | refine ⟨by omega, hK _ ?_⟩ | refine ⟨by omega, by omega, hK _ ?_⟩ | refine ⟨by omega, by omega, by omega, hK _ ?_⟩); clear hK K)
    | refine aops.nil ?_
    | refine runD.nil ?_
    | (refine runD.cons fun K hK => ?_; simp [and_assoc]; (try simp (disch := omega) only [wrap64]); (first | refine hK _ _ (runD.eqs (by simp; rfl) ?_) | refine ⟨by omega, hK _ _ (runD.eqs (by simp; rfl) ?_)⟩ | refine ⟨by omega, by omega, hK _ _ (runD.eqs (by simp; rfl) ?_)⟩); clear hK K)
    | refine AW.seqD ttOK etOK mixOK _ (by simp [calmCount, isCalm]; rfl) (by kernel_rfl) (by kernel_rfl) (by kernel_rfl) (by kernel_rfl) ?_
    | refine AW.lastD ttOK etOK mixOK _ (by simp [calmCount, isCalm]; rfl) (by kernel_rfl) (by kernel_rfl) (by kernel_rfl) (by kernel_rfl) ?_
    | refine AW.seqDM ttOK etOK mixOK _ (by simp [calmCount, isCalm]; rfl) (by kernel_rfl) (by kernel_rfl) (by kernel_rfl) (by simp; rfl) ?_
    | refine AW.lastDM ttOK etOK mixOK _ (by simp [calmCount, isCalm]; rfl) (by kernel_rfl) (by kernel_rfl) (by kernel_rfl) (by simp; rfl) ?_
    | refine AW.seqR ttOK etOK ?_
    | refine AW.lastR ttOK etOK ?_
    | refine AW.seqSkip ?_
    | refine AW.seq ?_
    | refine AW.block ?_
    | (refine AW.skip ?_; simp only [andThen, inBlk, ↓reduceIte])
    | (refine AW.exit ?_; simp (disch := omega) only [andThen, inBlk, ↓reduceIte, Nat.reduceEqDiff])
    | (guard_target =~ andThen _ _ _ _; simp only [andThen, inBlk, ↓reduceIte])
  first | refine aops.cons fun K hK => ?_ | refine runD.cons fun K hK => ?_
  simp [and_assoc]
  first | refine callA (good_within k 2 9) (by repeat (first | exact LeL.nil | refine LeL.cons (by first | exact Le.refl _ | exact Le.bs _ _ | exact Le.bp _ | exact Le.nilb _ | exact Le.nild _ | exact Le.un _) ?_)) (hK _ ?_) | refine callA (good_within k 2 9) (by repeat (first | exact LeL.nil | refine LeL.cons (by first | exact Le.refl _ | exact Le.bs _ _ | exact Le.bp _ | exact Le.nilb _ | exact Le.nild _ | exact Le.un _) ?_)) (hK _ _ (runD.eqs (by simp; rfl) ?_))
  clear hK K
  repeat first
    | (refine aops.cons fun K hK => ?_; simp [and_assoc]; (try simp (disch := omega) only [wrap64]); (first | refine hK _ ?_ | refine ⟨by omega, hK _ ?_⟩ | refine ⟨by omega, by omega, hK _ ?_⟩ | refine ⟨by omega, by omega, by omega, hK _ ?_⟩); clear hK K)
    | refine aops.nil ?_
    | refine runD.nil ?_
    | (refine runD.cons fun K hK => ?_; simp [and_assoc]; (try simp (disch := omega) only [wrap64]); (first | refine hK _ _ (runD.eqs (by simp; rfl) ?_) | refine ⟨by omega, hK _ _ (runD.eqs (by simp; rfl) ?_)⟩ | refine ⟨by omega, by omega, hK _ _ (runD.eqs (by simp; rfl) ?_)⟩); clear hK K)
    | refine AW.seqD ttOK etOK mixOK _ (by simp [calmCount, isCalm]; rfl) (by kernel_rfl) (by kernel_rfl) (by kernel_rfl) (by kernel_rfl) ?_
    | refine AW.lastD ttOK etOK mixOK _ (by simp [calmCount, isCalm]; rfl) (by kernel_rfl) (by kernel_rfl) (by kernel_rfl) (by kernel_rfl) ?_
    | refine AW.seqDM ttOK etOK mixOK _ (by simp [calmCount, isCalm]; rfl) (by kernel_rfl) (by kernel_rfl) (by kernel_rfl) (by simp; rfl) ?_
    | refine AW.lastDM ttOK etOK mixOK _ (by simp [calmCount, isCalm]; rfl) (by kernel_rfl) (by kernel_rfl) (by kernel_rfl) (by simp; rfl) ?_
    | refine AW.seqR ttOK etOK ?_
    | refine AW.lastR ttOK etOK ?_
    | refine AW.seqSkip ?_
    | refine AW.seq ?_
    | refine AW.block ?_
    | (refine AW.skip ?_; simp only [andThen, inBlk, ↓reduceIte])
    | (refine AW.exit ?_; simp (disch := omega) only [andThen, inBlk, ↓reduceIte, Nat.reduceEqDiff])
    | (guard_target =~ andThen _ _ _ _; simp only [andThen, inBlk, ↓reduceIte])
  refine AW.cond _ (by rfl) (fun h4 => ?_) (fun h4 => ?_) <;> (try simp at h4)
  · repeat first
      | (refine aops.cons fun K hK => ?_; simp [and_assoc]; (try simp (disch := omega) only [wrap64]); (first | refine hK _ ?_ | refine ⟨by omega, hK _ ?_⟩ | refine ⟨by omega, by omega, hK _ ?_⟩ | refine ⟨by omega, by omega, by omega, hK _ ?_⟩); clear hK K)
      | refine aops.nil ?_
      | refine runD.nil ?_
      | (refine runD.cons fun K hK => ?_; simp [and_assoc]; (try simp (disch := omega) only [wrap64]); (first | refine hK _ _ (runD.eqs (by simp; rfl) ?_) | refine ⟨by omega, hK _ _ (runD.eqs (by simp; rfl) ?_)⟩ | refine ⟨by omega, by omega, hK _ _ (runD.eqs (by simp; rfl) ?_)⟩); clear hK K)
      | refine AW.seqD ttOK etOK mixOK _ (by simp [calmCount, isCalm]; rfl) (by kernel_rfl) (by kernel_rfl) (by kernel_rfl) (by kernel_rfl) ?_
      | refine AW.lastD ttOK etOK mixOK _ (by simp [calmCount, isCalm]; rfl) (by kernel_rfl) (by kernel_rfl) (by kernel_rfl) (by kernel_rfl) ?_
      | refine AW.seqDM ttOK etOK mixOK _ (by simp [calmCount, isCalm]; rfl) (by kernel_rfl) (by kernel_rfl) (by kernel_rfl) (by simp; rfl) ?_
      | refine AW.lastDM ttOK etOK mixOK _ (by simp [calmCount, isCalm]; rfl) (by kernel_rfl) (by kernel_rfl) (by kernel_rfl) (by simp; rfl) ?_
      | refine AW.seqR ttOK etOK ?_
      | refine AW.lastR ttOK etOK ?_
      | refine AW.seqSkip ?_
      | refine AW.seq ?_
      | refine AW.block ?_
      | (refine AW.skip ?_; simp only [andThen, inBlk, ↓reduceIte])
      | (refine AW.exit ?_; simp (disch := omega) only [andThen, inBlk, ↓reduceIte, Nat.reduceEqDiff])
      | (guard_target =~ andThen _ _ _ _; simp only [andThen, inBlk, ↓reduceIte])
    have : inR k 1 9 = true := by simp [inR] at h4 ⊢; omega
    exact AW.ret (by simp [resL, resA, resV, resVs, andThen, inBlk, h1, h2, h3, takesI, takes, this])
  repeat first
    | (refine aops.cons fun K hK => ?_; simp [and_assoc]; (try simp (disch := omega) only [wrap64]); (first | refine hK _ ?_ | refine ⟨by omega, hK _ ?_⟩ | refine ⟨by omega, by omega, hK _ ?_⟩ | refine ⟨by omega, by omega, by omega, hK _ ?_⟩); clear hK K)
    | refine aops.nil ?_
    | refine runD.nil ?_
    | (refine runD.cons fun K hK => ?_; simp [and_assoc]; (try simp (disch := omega) only [wrap64]); (first | refine hK _ _ (runD.eqs (by simp; rfl) ?_) | refine ⟨by omega, hK _ _ (runD.eqs (by simp; rfl) ?_)⟩ | refine ⟨by omega, by omega, hK _ _ (runD.eqs (by simp; rfl) ?_)⟩); clear hK K)
    | refine AW.seqD ttOK etOK mixOK _ (by simp [calmCount, isCalm]; rfl) (by kernel_rfl) (by kernel_rfl) (by kernel_rfl) (by kernel_rfl) ?_
    | refine AW.lastD ttOK etOK mixOK _ (by simp [calmCount, isCalm]; rfl) (by kernel_rfl) (by kernel_rfl) (by kernel_rfl) (by kernel_rfl) ?_
    | refine AW.seqDM ttOK etOK mixOK _ (by simp [calmCount, isCalm]; rfl) (by kernel_rfl) (by kernel_rfl) (by kernel_rfl) (by simp; rfl) ?_
    | refine AW.lastDM ttOK etOK mixOK _ (by simp [calmCount, isCalm]; rfl) (by kernel_rfl) (by kernel_rfl) (by kernel_rfl) (by simp; rfl) ?_
    | refine AW.seqR ttOK etOK ?_
    | refine AW.lastR ttOK etOK ?_
    | refine AW.seqSkip ?_
    | refine AW.seq ?_
    | refine AW.block ?_
    | (refine AW.skip ?_; simp only [andThen, inBlk, ↓reduceIte])
    | (refine AW.exit ?_; simp (disch := omega) only [andThen, inBlk, ↓reduceIte, Nat.reduceEqDiff])
    | (guard_target =~ andThen _ _ _ _; simp only [andThen, inBlk, ↓reduceIte])
  have : inR k 1 9 = false := by simp [inR] at h4 ⊢; omega
  exact AW.ret (by simp [resL, resA, resV, resVs, andThen, inBlk, takesI, this])
end Go.Proofs.Ab.Try
