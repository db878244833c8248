/- A part of the proof of the law: it holds for all states of the abstract kind told in the first of these texts; no condition besides those its statements name. -/
import Derived.Test.YtkpnoifnfoijbaaAbF8
namespace Go.Proofs.Ab.Try
open Go Go.Proofs Go.Proofs.Ab
set_option linter.unusedSimpArgs false
set_option linter.unusedVariables false
set_option maxHeartbeats 8000000
theorem good_InputsR (p : List PStep) (step : Int) (hp : p.length ≤ 2000000) : Good Try.prog 6 [aPlan p, aI step]
    (.tp [if askedF p step = 0 then .d (.sl 1 (eI (inputsOf p (startsGo 0 [] p) step.toNat))) else aNil, aI (if askedF p step = 0 then ((startsGo 0 [] p)[step.toNat]?).getD 0 else 0), aI (askedF p step)]) := by
  refine goodF ttOK Try.func6 (vs := [.tmp 4, .tmp 5, .tmp 6]) (nt := 34) rfl rfl rfl (by kernel_rfl) (by simp) (by split <;> simp [dataA, dataL]) ?_
  repeat first
    | (refine aops.cons fun K hK => ?_; simp [and_assoc]; (try simp (disch := omega) only [wrap64]); (first | refine hK _ ?_ | refine ⟨by omega, hK _ ?_⟩ | refine ⟨by omega, by omega, hK _ ?_⟩ | refine ⟨by omega, by omega, by omega, hK _ ?_⟩); clear hK K)
    | refine aops.nil ?_
    | refine runD.nil ?_
    | (refine runD.cons fun K hK => ?_; simp [and_assoc]; (try simp (disch := omega) only [wrap64]); (first | refine hK _ _ (runD.eqs (by simp; rfl) ?_) | refine ⟨by omega, hK _ _ (runD.eqs (by simp; rfl) ?_)⟩ | refine ⟨by omega, by omega, hK _ _ (runD.eqs (by simp; rfl) ?_)⟩); clear hK K)
    | refine AW.seqD ttOK etOK mixOK _ (by simp [calmCount, isCalm]; rfl) (by decide +kernel) (by decide +kernel) (by decide +kernel) (by decide +kernel) ?_
    | refine AW.lastD ttOK etOK mixOK _ (by simp [calmCount, isCalm]; rfl) (by decide +kernel) (by decide +kernel) (by decide +kernel) (by decide +kernel) ?_
    | refine AW.seqDM ttOK etOK mixOK _ (by simp [calmCount, isCalm]; rfl) (by decide +kernel) (by decide +kernel) (by decide +kernel) (by simp; rfl) ?_
    | refine AW.lastDM ttOK etOK mixOK _ (by simp [calmCount, isCalm]; rfl) (by decide +kernel) (by decide +kernel) (by decide +kernel) (by simp; rfl) ?_
    | refine AW.seqR ttOK etOK ?_
    | refine AW.lastR ttOK etOK ?_
    | refine AW.seqSkip ?_
    | refine AW.seq ?_
    | refine AW.block ?_
    | (refine AW.skip ?_; simp only [andThen, inBlk, ↓reduceIte])
    | (refine AW.exit ?_; simp (disch := omega) only [andThen, inBlk, ↓reduceIte, Nat.reduceEqDiff])
    | (guard_target =~ andThen _ _ _ _; simp only [andThen, inBlk, ↓reduceIte])
  first | refine aops.cons fun K hK => ?_ | refine runD.cons fun K hK => ?_
  simp [and_assoc]
  first | refine callA (good_within step 0 (p.length - 1)) (by repeat (first | exact LeL.nil | refine LeL.cons (by first | exact Le.refl _ | exact Le.bs _ _ | exact Le.bp _ | exact Le.nilb _ | exact Le.nild _ | exact Le.un _ | assumption) ?_)) (hK _ ?_) | refine callA (good_within step 0 (p.length - 1)) (by repeat (first | exact LeL.nil | refine LeL.cons (by first | exact Le.refl _ | exact Le.bs _ _ | exact Le.bp _ | exact Le.nilb _ | exact Le.nild _ | exact Le.un _ | assumption) ?_)) (hK _ _ (runD.eqs (by simp; rfl) ?_))
  clear hK K
  by_cases hin : inR step 0 (p.length - 1) = true
  rotate_left
  · repeat first
      | (refine aops.cons fun K hK => ?_; simp [and_assoc]; (try simp (disch := omega) only [wrap64]); (first | refine hK _ ?_ | refine ⟨by omega, hK _ ?_⟩ | refine ⟨by omega, by omega, hK _ ?_⟩ | refine ⟨by omega, by omega, by omega, hK _ ?_⟩); clear hK K)
      | refine aops.nil ?_
      | refine runD.nil ?_
      | (refine runD.cons fun K hK => ?_; simp [and_assoc]; (try simp (disch := omega) only [wrap64]); (first | refine hK _ _ (runD.eqs (by simp; rfl) ?_) | refine ⟨by omega, hK _ _ (runD.eqs (by simp; rfl) ?_)⟩ | refine ⟨by omega, by omega, hK _ _ (runD.eqs (by simp; rfl) ?_)⟩); clear hK K)
      | refine AW.seqD ttOK etOK mixOK _ (by simp [calmCount, isCalm]; rfl) (by decide +kernel) (by decide +kernel) (by decide +kernel) (by decide +kernel) ?_
      | refine AW.lastD ttOK etOK mixOK _ (by simp [calmCount, isCalm]; rfl) (by decide +kernel) (by decide +kernel) (by decide +kernel) (by decide +kernel) ?_
      | refine AW.seqDM ttOK etOK mixOK _ (by simp [calmCount, isCalm]; rfl) (by decide +kernel) (by decide +kernel) (by decide +kernel) (by simp; rfl) ?_
      | refine AW.lastDM ttOK etOK mixOK _ (by simp [calmCount, isCalm]; rfl) (by decide +kernel) (by decide +kernel) (by decide +kernel) (by simp; rfl) ?_
      | refine AW.seqR ttOK etOK ?_
      | refine AW.lastR ttOK etOK ?_
      | refine AW.seqSkip ?_
      | refine AW.seq ?_
      | refine AW.block ?_
      | (refine AW.skip ?_; simp only [andThen, inBlk, ↓reduceIte])
      | (refine AW.exit ?_; simp (disch := omega) only [andThen, inBlk, ↓reduceIte, Nat.reduceEqDiff])
      | (guard_target =~ andThen _ _ _ _; simp only [andThen, inBlk, ↓reduceIte])
    refine AW.cond _ (by rfl) (fun _ => ?_) (fun hx => absurd hx (by simp [hin]))
    repeat first
      | (refine aops.cons fun K hK => ?_; simp [and_assoc]; (try simp (disch := omega) only [wrap64]); (first | refine hK _ ?_ | refine ⟨by omega, hK _ ?_⟩ | refine ⟨by omega, by omega, hK _ ?_⟩ | refine ⟨by omega, by omega, by omega, hK _ ?_⟩); clear hK K)
      | refine aops.nil ?_
      | refine runD.nil ?_
      | (refine runD.cons fun K hK => ?_; simp [and_assoc]; (try simp (disch := omega) only [wrap64]); (first | refine hK _ _ (runD.eqs (by simp; rfl) ?_) | refine ⟨by omega, hK _ _ (runD.eqs (by simp; rfl) ?_)⟩ | refine ⟨by omega, by omega, hK _ _ (runD.eqs (by simp; rfl) ?_)⟩); clear hK K)
      | refine AW.seqD ttOK etOK mixOK _ (by simp [calmCount, isCalm]; rfl) (by decide +kernel) (by decide +kernel) (by decide +kernel) (by decide +kernel) ?_
      | refine AW.lastD ttOK etOK mixOK _ (by simp [calmCount, isCalm]; rfl) (by decide +kernel) (by decide +kernel) (by decide +kernel) (by decide +kernel) ?_
      | refine AW.seqDM ttOK etOK mixOK _ (by simp [calmCount, isCalm]; rfl) (by decide +kernel) (by decide +kernel) (by decide +kernel) (by simp; rfl) ?_
      | refine AW.lastDM ttOK etOK mixOK _ (by simp [calmCount, isCalm]; rfl) (by decide +kernel) (by decide +kernel) (by decide +kernel) (by simp; rfl) ?_
      | refine AW.seqR ttOK etOK ?_
      | refine AW.lastR ttOK etOK ?_
      | refine AW.seqSkip ?_
      | refine AW.seq ?_
      | refine AW.block ?_
      | (refine AW.skip ?_; simp only [andThen, inBlk, ↓reduceIte])
      | (refine AW.exit ?_; simp (disch := omega) only [andThen, inBlk, ↓reduceIte, Nat.reduceEqDiff])
      | (guard_target =~ andThen _ _ _ _; simp only [andThen, inBlk, ↓reduceIte])
    have h0 : askedF p step = 6 := by simp [askedF, hin]
    exact AW.ret (by simp [resL, resA, resV, resVs, andThen, inBlk, h0])
  repeat first
    | (refine aops.cons fun K hK => ?_; simp [and_assoc]; (try simp (disch := omega) only [wrap64]); (first | refine hK _ ?_ | refine ⟨by omega, hK _ ?_⟩ | refine ⟨by omega, by omega, hK _ ?_⟩ | refine ⟨by omega, by omega, by omega, hK _ ?_⟩); clear hK K)
    | refine aops.nil ?_
    | refine runD.nil ?_
    | (refine runD.cons fun K hK => ?_; simp [and_assoc]; (try simp (disch := omega) only [wrap64]); (first | refine hK _ _ (runD.eqs (by simp; rfl) ?_) | refine ⟨by omega, hK _ _ (runD.eqs (by simp; rfl) ?_)⟩ | refine ⟨by omega, by omega, hK _ _ (runD.eqs (by simp; rfl) ?_)⟩); clear hK K)
    | refine AW.seqD ttOK etOK mixOK _ (by simp [calmCount, isCalm]; rfl) (by decide +kernel) (by decide +kernel) (by decide +kernel) (by decide +kernel) ?_
    | refine AW.lastD ttOK etOK mixOK _ (by simp [calmCount, isCalm]; rfl) (by decide +kernel) (by decide +kernel) (by decide +kernel) (by decide +kernel) ?_
    | refine AW.seqDM ttOK etOK mixOK _ (by simp [calmCount, isCalm]; rfl) (by decide +kernel) (by decide +kernel) (by decide +kernel) (by simp; rfl) ?_
    | refine AW.lastDM ttOK etOK mixOK _ (by simp [calmCount, isCalm]; rfl) (by decide +kernel) (by decide +kernel) (by decide +kernel) (by simp; rfl) ?_
    | refine AW.seqR ttOK etOK ?_
    | refine AW.lastR ttOK etOK ?_
    | refine AW.seqSkip ?_
    | refine AW.seq ?_
    | refine AW.block ?_
    | (refine AW.skip ?_; simp only [andThen, inBlk, ↓reduceIte])
    | (refine AW.exit ?_; simp (disch := omega) only [andThen, inBlk, ↓reduceIte, Nat.reduceEqDiff])
    | (guard_target =~ andThen _ _ _ _; simp only [andThen, inBlk, ↓reduceIte])
  refine AW.cond _ (by rfl) (fun hx => absurd hx (by simp [hin])) (fun _ => ?_)
  repeat first
    | (refine aops.cons fun K hK => ?_; simp [and_assoc]; (try simp (disch := omega) only [wrap64]); (first | refine hK _ ?_ | refine ⟨by omega, hK _ ?_⟩ | refine ⟨by omega, by omega, hK _ ?_⟩ | refine ⟨by omega, by omega, by omega, hK _ ?_⟩); clear hK K)
    | refine aops.nil ?_
    | refine runD.nil ?_
    | (refine runD.cons fun K hK => ?_; simp [and_assoc]; (try simp (disch := omega) only [wrap64]); (first | refine hK _ _ (runD.eqs (by simp; rfl) ?_) | refine ⟨by omega, hK _ _ (runD.eqs (by simp; rfl) ?_)⟩ | refine ⟨by omega, by omega, hK _ _ (runD.eqs (by simp; rfl) ?_)⟩); clear hK K)
    | refine AW.seqD ttOK etOK mixOK _ (by simp [calmCount, isCalm]; rfl) (by decide +kernel) (by decide +kernel) (by decide +kernel) (by decide +kernel) ?_
    | refine AW.lastD ttOK etOK mixOK _ (by simp [calmCount, isCalm]; rfl) (by decide +kernel) (by decide +kernel) (by decide +kernel) (by decide +kernel) ?_
    | refine AW.seqDM ttOK etOK mixOK _ (by simp [calmCount, isCalm]; rfl) (by decide +kernel) (by decide +kernel) (by decide +kernel) (by simp; rfl) ?_
    | refine AW.lastDM ttOK etOK mixOK _ (by simp [calmCount, isCalm]; rfl) (by decide +kernel) (by decide +kernel) (by decide +kernel) (by simp; rfl) ?_
    | refine AW.seqR ttOK etOK ?_
    | refine AW.lastR ttOK etOK ?_
    | refine AW.seqSkip ?_
    | refine AW.seq ?_
    | refine AW.block ?_
    | (refine AW.skip ?_; simp only [andThen, inBlk, ↓reduceIte])
    | (refine AW.exit ?_; simp (disch := omega) only [andThen, inBlk, ↓reduceIte, Nat.reduceEqDiff])
    | (guard_target =~ andThen _ _ _ _; simp only [andThen, inBlk, ↓reduceIte])
  first | refine aops.cons fun K hK => ?_ | refine runD.cons fun K hK => ?_
  simp [and_assoc]
  first | refine callA (good_shapeOf p hp) (by repeat (first | exact LeL.nil | refine LeL.cons (by first | exact Le.refl _ | exact Le.bs _ _ | exact Le.bp _ | exact Le.nilb _ | exact Le.nild _ | exact Le.un _ | assumption) ?_)) (hK _ ?_) | refine callA (good_shapeOf p hp) (by repeat (first | exact LeL.nil | refine LeL.cons (by first | exact Le.refl _ | exact Le.bs _ _ | exact Le.bp _ | exact Le.nilb _ | exact Le.nild _ | exact Le.un _ | assumption) ?_)) (hK _ _ (runD.eqs (by simp; rfl) ?_))
  clear hK K
  by_cases hw : wfGo 0 p = true
  rotate_left
  · have hn := shape_no p (by simpa using hw)
    obtain ⟨⟨gs, fs⟩, hat⟩ : ∃ x, shapeAt [] [] p = x := ⟨_, rfl⟩
    have hR : shapeR p = .ag [.d (.sl 1 (eG gs)), .d (.sl 1 (eI fs))] := by simp [shapeR, hat]
    rw [hR, hn]
    have h0 : askedF p step = 3 := by simp [askedF, hin, hw]
    repeat first
      | (refine aops.cons fun K hK => ?_; simp [and_assoc]; (try simp (disch := omega) only [wrap64]); (first | refine hK _ ?_ | refine ⟨by omega, hK _ ?_⟩ | refine ⟨by omega, by omega, hK _ ?_⟩ | refine ⟨by omega, by omega, by omega, hK _ ?_⟩); clear hK K)
      | refine aops.nil ?_
      | refine runD.nil ?_
      | (refine runD.cons fun K hK => ?_; simp [and_assoc]; (try simp (disch := omega) only [wrap64]); (first | refine hK _ _ (runD.eqs (by simp; rfl) ?_) | refine ⟨by omega, hK _ _ (runD.eqs (by simp; rfl) ?_)⟩ | refine ⟨by omega, by omega, hK _ _ (runD.eqs (by simp; rfl) ?_)⟩); clear hK K)
      | refine AW.seqD ttOK etOK mixOK _ (by simp [calmCount, isCalm]; rfl) (by decide +kernel) (by decide +kernel) (by decide +kernel) (by decide +kernel) ?_
      | refine AW.lastD ttOK etOK mixOK _ (by simp [calmCount, isCalm]; rfl) (by decide +kernel) (by decide +kernel) (by decide +kernel) (by decide +kernel) ?_
      | refine AW.seqDM ttOK etOK mixOK _ (by simp [calmCount, isCalm]; rfl) (by decide +kernel) (by decide +kernel) (by decide +kernel) (by simp; rfl) ?_
      | refine AW.lastDM ttOK etOK mixOK _ (by simp [calmCount, isCalm]; rfl) (by decide +kernel) (by decide +kernel) (by decide +kernel) (by simp; rfl) ?_
      | refine AW.seqR ttOK etOK ?_
      | refine AW.lastR ttOK etOK ?_
      | refine AW.seqSkip ?_
      | refine AW.seq ?_
      | refine AW.block ?_
      | (refine AW.skip ?_; simp only [andThen, inBlk, ↓reduceIte])
      | (refine AW.exit ?_; simp (disch := omega) only [andThen, inBlk, ↓reduceIte, Nat.reduceEqDiff])
      | (guard_target =~ andThen _ _ _ _; simp only [andThen, inBlk, ↓reduceIte])
    refine AW.cond _ (by rfl) (fun _ => ?_) (fun hx => absurd hx (by simp []))
    repeat first
      | (refine aops.cons fun K hK => ?_; simp [and_assoc]; (try simp (disch := omega) only [wrap64]); (first | refine hK _ ?_ | refine ⟨by omega, hK _ ?_⟩ | refine ⟨by omega, by omega, hK _ ?_⟩ | refine ⟨by omega, by omega, by omega, hK _ ?_⟩); clear hK K)
      | refine aops.nil ?_
      | refine runD.nil ?_
      | (refine runD.cons fun K hK => ?_; simp [and_assoc]; (try simp (disch := omega) only [wrap64]); (first | refine hK _ _ (runD.eqs (by simp; rfl) ?_) | refine ⟨by omega, hK _ _ (runD.eqs (by simp; rfl) ?_)⟩ | refine ⟨by omega, by omega, hK _ _ (runD.eqs (by simp; rfl) ?_)⟩); clear hK K)
      | refine AW.seqD ttOK etOK mixOK _ (by simp [calmCount, isCalm]; rfl) (by decide +kernel) (by decide +kernel) (by decide +kernel) (by decide +kernel) ?_
      | refine AW.lastD ttOK etOK mixOK _ (by simp [calmCount, isCalm]; rfl) (by decide +kernel) (by decide +kernel) (by decide +kernel) (by decide +kernel) ?_
      | refine AW.seqDM ttOK etOK mixOK _ (by simp [calmCount, isCalm]; rfl) (by decide +kernel) (by decide +kernel) (by decide +kernel) (by simp; rfl) ?_
      | refine AW.lastDM ttOK etOK mixOK _ (by simp [calmCount, isCalm]; rfl) (by decide +kernel) (by decide +kernel) (by decide +kernel) (by simp; rfl) ?_
      | refine AW.seqR ttOK etOK ?_
      | refine AW.lastR ttOK etOK ?_
      | refine AW.seqSkip ?_
      | refine AW.seq ?_
      | refine AW.block ?_
      | (refine AW.skip ?_; simp only [andThen, inBlk, ↓reduceIte])
      | (refine AW.exit ?_; simp (disch := omega) only [andThen, inBlk, ↓reduceIte, Nat.reduceEqDiff])
      | (guard_target =~ andThen _ _ _ _; simp only [andThen, inBlk, ↓reduceIte])
    exact AW.ret (by simp [resL, resA, resV, resVs, andThen, inBlk, h0])
  obtain ⟨gs, hg1, hg2, hg3⟩ := shape_ok p hw
  obtain ⟨j, rfl, hj2⟩ : ∃ j : Nat, step = j ∧ j < p.length := by
    simp [inR] at hin; exact ⟨step.toNat, by omega, by omega⟩
  have hf := frOk hp hw
  have h0 : askedF p (j : Int) = 0 := by simp [askedF, hin, hw]
  have hR : shapeR p = .ag [.d (.sl 1 (eG gs)), .d (.sl 1 (eI (startsGo 0 [] p)))] := by simp [shapeR, shapeAt_of _ _ _ _ hg1]
  have hl : j < (startsGo 0 [] p).length := by rw [hf.len]; exact hj2
  have hl2 : j < gs.length := by rw [hg2]; exact hj2
  have hgj := hg3 j gs[j] (List.getElem?_eq_getElem hl2)
  rw [hR, hg1]
  repeat first
    | (refine aops.cons fun K hK => ?_; simp [and_assoc]; (try simp (disch := omega) only [wrap64]); (first | refine hK _ ?_ | refine ⟨by omega, hK _ ?_⟩ | refine ⟨by omega, by omega, hK _ ?_⟩ | refine ⟨by omega, by omega, by omega, hK _ ?_⟩); clear hK K)
    | refine aops.nil ?_
    | refine runD.nil ?_
    | (refine runD.cons fun K hK => ?_; simp [and_assoc]; (try simp (disch := omega) only [wrap64]); (first | refine hK _ _ (runD.eqs (by simp; rfl) ?_) | refine ⟨by omega, hK _ _ (runD.eqs (by simp; rfl) ?_)⟩ | refine ⟨by omega, by omega, hK _ _ (runD.eqs (by simp; rfl) ?_)⟩); clear hK K)
    | refine AW.seqD ttOK etOK mixOK _ (by simp [calmCount, isCalm]; rfl) (by decide +kernel) (by decide +kernel) (by decide +kernel) (by decide +kernel) ?_
    | refine AW.lastD ttOK etOK mixOK _ (by simp [calmCount, isCalm]; rfl) (by decide +kernel) (by decide +kernel) (by decide +kernel) (by decide +kernel) ?_
    | refine AW.seqDM ttOK etOK mixOK _ (by simp [calmCount, isCalm]; rfl) (by decide +kernel) (by decide +kernel) (by decide +kernel) (by simp; rfl) ?_
    | refine AW.lastDM ttOK etOK mixOK _ (by simp [calmCount, isCalm]; rfl) (by decide +kernel) (by decide +kernel) (by decide +kernel) (by simp; rfl) ?_
    | refine AW.seqR ttOK etOK ?_
    | refine AW.lastR ttOK etOK ?_
    | refine AW.seqSkip ?_
    | refine AW.seq ?_
    | refine AW.block ?_
    | (refine AW.skip ?_; simp only [andThen, inBlk, ↓reduceIte])
    | (refine AW.exit ?_; simp (disch := omega) only [andThen, inBlk, ↓reduceIte, Nat.reduceEqDiff])
    | (guard_target =~ andThen _ _ _ _; simp only [andThen, inBlk, ↓reduceIte])
  refine AW.cond _ (by rfl) (fun hx => absurd hx (by simp [])) (fun _ => ?_)
  repeat first
    | (refine aops.cons fun K hK => ?_; simp [and_assoc, hl, hl2]; (try simp (disch := omega) only [wrap64]); (first | refine hK _ ?_ | refine ⟨by omega, hK _ ?_⟩ | refine ⟨by omega, by omega, hK _ ?_⟩ | refine ⟨by omega, by omega, by omega, hK _ ?_⟩); clear hK K)
    | refine aops.nil ?_
    | refine runD.nil ?_
    | (refine runD.cons fun K hK => ?_; simp [and_assoc, hl, hl2]; (try simp (disch := omega) only [wrap64]); (first | refine hK _ _ (runD.eqs (by simp; rfl) ?_) | refine ⟨by omega, hK _ _ (runD.eqs (by simp; rfl) ?_)⟩ | refine ⟨by omega, by omega, hK _ _ (runD.eqs (by simp; rfl) ?_)⟩); clear hK K)
    | refine AW.seqD ttOK etOK mixOK _ (by simp [calmCount, isCalm]; rfl) (by decide +kernel) (by decide +kernel) (by decide +kernel) (by decide +kernel) ?_
    | refine AW.lastD ttOK etOK mixOK _ (by simp [calmCount, isCalm]; rfl) (by decide +kernel) (by decide +kernel) (by decide +kernel) (by decide +kernel) ?_
    | refine AW.seqDM ttOK etOK mixOK _ (by simp [calmCount, isCalm]; rfl) (by decide +kernel) (by decide +kernel) (by decide +kernel) (by simp; rfl) ?_
    | refine AW.lastDM ttOK etOK mixOK _ (by simp [calmCount, isCalm]; rfl) (by decide +kernel) (by decide +kernel) (by decide +kernel) (by simp; rfl) ?_
    | refine AW.seqR ttOK etOK ?_
    | refine AW.lastR ttOK etOK ?_
    | refine AW.seqSkip ?_
    | refine AW.seq ?_
    | refine AW.block ?_
    | (refine AW.skip ?_; simp only [andThen, inBlk, ↓reduceIte])
    | (refine AW.exit ?_; simp (disch := omega) only [andThen, inBlk, ↓reduceIte, Nat.reduceEqDiff])
    | (guard_target =~ andThen _ _ _ _; simp only [andThen, inBlk, ↓reduceIte])
  exact AW.ret (by simp [resL, resA, resV, resVs, andThen, inBlk, h0, hl, ← hgj])
theorem good_takerR (gs : List (List Int)) (y : D) (j : Nat) (hg : gs.length ≤ 2000000) (hg2 : ∀ g ∈ gs, g.length ≤ 2) (hj : j < gs.length) (hy : y.one = true) : Good Try.prog 21 [.ag [.d (.sl 1 (eG gs)), .d y], aI j] (.tp [aI (taker gs.length (fun k => (gs[k]?).getD []) j), .un]) := by
  refine goodF ttOK Try.func21 (vs := [.tmp 4, .tmp 5]) (nt := 39) rfl rfl rfl (by kernel_rfl) (by simp) (by simp [dataA, dataL]) ?_
  have hj' : (j : Int) < 2000000 := by omega
  repeat first
    | (refine aops.cons fun K hK => ?_; simp [and_assoc]; (try simp (disch := omega) only [wrap64]); (first | refine hK _ ?_ | refine ⟨by omega, hK _ ?_⟩ | refine ⟨by omega, by omega, hK _ ?_⟩ | refine ⟨by omega, by omega, by omega, hK _ ?_⟩); clear hK K)
    | refine aops.nil ?_
    | refine runD.nil ?_
    | (refine runD.cons fun K hK => ?_; simp [and_assoc]; (try simp (disch := omega) only [wrap64]); (first | refine hK _ _ (runD.eqs (by simp; rfl) ?_) | refine ⟨by omega, hK _ _ (runD.eqs (by simp; rfl) ?_)⟩ | refine ⟨by omega, by omega, hK _ _ (runD.eqs (by simp; rfl) ?_)⟩); clear hK K)
    | refine AW.seqD ttOK etOK mixOK _ (by simp [calmCount, isCalm]; rfl) (by decide +kernel) (by decide +kernel) (by decide +kernel) (by decide +kernel) ?_
    | refine AW.lastD ttOK etOK mixOK _ (by simp [calmCount, isCalm]; rfl) (by decide +kernel) (by decide +kernel) (by decide +kernel) (by decide +kernel) ?_
    | refine AW.seqDM ttOK etOK mixOK _ (by simp [calmCount, isCalm]; rfl) (by decide +kernel) (by decide +kernel) (by decide +kernel) (by simp; rfl) ?_
    | refine AW.lastDM ttOK etOK mixOK _ (by simp [calmCount, isCalm]; rfl) (by decide +kernel) (by decide +kernel) (by decide +kernel) (by simp; rfl) ?_
    | refine AW.seqR ttOK etOK ?_
    | refine AW.lastR ttOK etOK ?_
    | refine AW.seqSkip ?_
    | refine AW.seq ?_
    | refine AW.block ?_
    | (refine AW.skip ?_; simp only [andThen, inBlk, ↓reduceIte])
    | (refine AW.exit ?_; simp (disch := omega) only [andThen, inBlk, ↓reduceIte, Nat.reduceEqDiff])
    | (guard_target =~ andThen _ _ _ _; simp only [andThen, inBlk, ↓reduceIte])
  refine AW.iterI (fun i s => s = ⟨39, [(1, aI j), (2, .pt 2 0), (6, aI ((j + 1 + i : Nat) : Int))], [(2, .var [.d (.sl 1 (eG gs)), .d y])]⟩ ∧ takerGo (fun k => (gs[k]?).getD []) j (gs.length - (j + 1 + i)) (j + 1 + i) = taker gs.length (fun k => (gs[k]?).getD []) j) (gs.length - (j + 1)) (s₀ := ⟨39, [(1, aI j), (2, .pt 2 0), (6, aI ((j + 1 : Nat) : Int))], [(2, .var [.d (.sl 1 (eG gs)), .d y])]⟩) ?_ ?_ ?_
  · exact Weak.to2 (by simp) (by simp)
  · exact ⟨rfl, rfl⟩
  rintro i s hi ⟨rfl, h2⟩
  obtain ⟨k, hk⟩ : ∃ k, j + 1 + i = k := ⟨_, rfl⟩
  rw [hk] at h2
  rw [hk]
  have hkk : (k : Int) ≤ 2000000 := by omega
  repeat first
    | (refine aops.cons fun K hK => ?_; simp [and_assoc]; (try simp (disch := omega) only [wrap64]); (first | refine hK _ ?_ | refine ⟨by omega, hK _ ?_⟩ | refine ⟨by omega, by omega, hK _ ?_⟩ | refine ⟨by omega, by omega, by omega, hK _ ?_⟩); clear hK K)
    | refine aops.nil ?_
    | refine runD.nil ?_
    | (refine runD.cons fun K hK => ?_; simp [and_assoc]; (try simp (disch := omega) only [wrap64]); (first | refine hK _ _ (runD.eqs (by simp; rfl) ?_) | refine ⟨by omega, hK _ _ (runD.eqs (by simp; rfl) ?_)⟩ | refine ⟨by omega, by omega, hK _ _ (runD.eqs (by simp; rfl) ?_)⟩); clear hK K)
    | refine AW.seqD ttOK etOK mixOK _ (by simp [calmCount, isCalm]; rfl) (by decide +kernel) (by decide +kernel) (by decide +kernel) (by decide +kernel) ?_
    | refine AW.lastD ttOK etOK mixOK _ (by simp [calmCount, isCalm]; rfl) (by decide +kernel) (by decide +kernel) (by decide +kernel) (by decide +kernel) ?_
    | refine AW.seqDM ttOK etOK mixOK _ (by simp [calmCount, isCalm]; rfl) (by decide +kernel) (by decide +kernel) (by decide +kernel) (by simp; rfl) ?_
    | refine AW.lastDM ttOK etOK mixOK _ (by simp [calmCount, isCalm]; rfl) (by decide +kernel) (by decide +kernel) (by decide +kernel) (by simp; rfl) ?_
    | refine AW.seqR ttOK etOK ?_
    | refine AW.lastR ttOK etOK ?_
    | refine AW.seqSkip ?_
    | refine AW.seq ?_
    | refine AW.block ?_
    | (refine AW.skip ?_; simp only [andThen, inBlk, ↓reduceIte])
    | (refine AW.exit ?_; simp (disch := omega) only [andThen, inBlk, ↓reduceIte, Nat.reduceEqDiff])
    | (guard_target =~ andThen _ _ _ _; simp only [andThen, inBlk, ↓reduceIte])
  by_cases hlt : k < gs.length
  rotate_left
  · refine AW.cond _ (by rfl) (fun hx => absurd hx (by simp [hlt])) (fun _ => ?_)
    repeat first
      | (refine aops.cons fun K hK => ?_; simp [and_assoc]; (try simp (disch := omega) only [wrap64]); (first | refine hK _ ?_ | refine ⟨by omega, hK _ ?_⟩ | refine ⟨by omega, by omega, hK _ ?_⟩ | refine ⟨by omega, by omega, by omega, hK _ ?_⟩); clear hK K)
      | refine aops.nil ?_
      | refine runD.nil ?_
      | (refine runD.cons fun K hK => ?_; simp [and_assoc]; (try simp (disch := omega) only [wrap64]); (first | refine hK _ _ (runD.eqs (by simp; rfl) ?_) | refine ⟨by omega, hK _ _ (runD.eqs (by simp; rfl) ?_)⟩ | refine ⟨by omega, by omega, hK _ _ (runD.eqs (by simp; rfl) ?_)⟩); clear hK K)
      | refine AW.seqD ttOK etOK mixOK _ (by simp [calmCount, isCalm]; rfl) (by decide +kernel) (by decide +kernel) (by decide +kernel) (by decide +kernel) ?_
      | refine AW.lastD ttOK etOK mixOK _ (by simp [calmCount, isCalm]; rfl) (by decide +kernel) (by decide +kernel) (by decide +kernel) (by decide +kernel) ?_
      | refine AW.seqDM ttOK etOK mixOK _ (by simp [calmCount, isCalm]; rfl) (by decide +kernel) (by decide +kernel) (by decide +kernel) (by simp; rfl) ?_
      | refine AW.lastDM ttOK etOK mixOK _ (by simp [calmCount, isCalm]; rfl) (by decide +kernel) (by decide +kernel) (by decide +kernel) (by simp; rfl) ?_
      | refine AW.seqR ttOK etOK ?_
      | refine AW.lastR ttOK etOK ?_
      | refine AW.seqSkip ?_
      | refine AW.seq ?_
      | refine AW.block ?_
      | (refine AW.skip ?_; simp only [andThen, inBlk, ↓reduceIte])
      | (refine AW.exit ?_; simp (disch := omega) only [andThen, inBlk, ↓reduceIte, Nat.reduceEqDiff])
      | (guard_target =~ andThen _ _ _ _; simp only [andThen, inBlk, ↓reduceIte])
    have : gs.length - k = 0 := by omega
    rw [this] at h2
    refine AW.weak (Weak.to2 (tm' := [(4, aI (-1))]) rfl (by simp)) ?_
    exact AW.ret (by simp [resL, resA, resV, resVs, andThen, inBlk, ← h2, takerGo])
  refine AW.cond _ (by rfl) (fun _ => ?_) (fun hx => absurd hx (by simp [hlt]))
  have e : gs.length - k = (gs.length - k - 1) + 1 := by omega
  rw [e] at h2
  obtain ⟨g, hgk⟩ : ∃ g, gs[k]? = some g := ⟨gs[k], List.getElem?_eq_getElem hlt⟩
  have hgl := hg2 g (List.mem_of_getElem? hgk)
  repeat first
    | (refine aops.cons fun K hK => ?_; simp [and_assoc]; (try simp (disch := omega) only [wrap64]); (first | refine hK _ ?_ | refine ⟨by omega, hK _ ?_⟩ | refine ⟨by omega, by omega, hK _ ?_⟩ | refine ⟨by omega, by omega, by omega, hK _ ?_⟩); clear hK K)
    | refine aops.nil ?_
    | refine runD.nil ?_
    | (refine runD.cons fun K hK => ?_; simp [and_assoc]; (try simp (disch := omega) only [wrap64]); (first | refine hK _ _ (runD.eqs (by simp; rfl) ?_) | refine ⟨by omega, hK _ _ (runD.eqs (by simp; rfl) ?_)⟩ | refine ⟨by omega, by omega, hK _ _ (runD.eqs (by simp; rfl) ?_)⟩); clear hK K)
    | refine AW.seqD ttOK etOK mixOK _ (by simp [calmCount, isCalm]; rfl) (by decide +kernel) (by decide +kernel) (by decide +kernel) (by decide +kernel) ?_
    | refine AW.lastD ttOK etOK mixOK _ (by simp [calmCount, isCalm]; rfl) (by decide +kernel) (by decide +kernel) (by decide +kernel) (by decide +kernel) ?_
    | refine AW.seqDM ttOK etOK mixOK _ (by simp [calmCount, isCalm]; rfl) (by decide +kernel) (by decide +kernel) (by decide +kernel) (by simp; rfl) ?_
    | refine AW.lastDM ttOK etOK mixOK _ (by simp [calmCount, isCalm]; rfl) (by decide +kernel) (by decide +kernel) (by decide +kernel) (by simp; rfl) ?_
    | refine AW.seqR ttOK etOK ?_
    | refine AW.lastR ttOK etOK ?_
    | refine AW.seqSkip ?_
    | refine AW.seq ?_
    | refine AW.block ?_
    | (refine AW.skip ?_; simp only [andThen, inBlk, ↓reduceIte])
    | (refine AW.exit ?_; simp (disch := omega) only [andThen, inBlk, ↓reduceIte, Nat.reduceEqDiff])
    | (guard_target =~ andThen _ _ _ _; simp only [andThen, inBlk, ↓reduceIte])
  refine AW.iterI (fun n s => s = ⟨39, [(1, aI j), (2, .pt 2 0), (6, aI k), (7, aI n)], [(2, .var [.d (.sl 1 (eG gs)), .d y])]⟩ ∧ decide ((j : Int) ∈ g.drop n) = decide ((j : Int) ∈ g)) g.length (s₀ := ⟨39, [(1, aI j), (2, .pt 2 0), (6, aI k), (7, aI 0)], [(2, .var [.d (.sl 1 (eG gs)), .d y])]⟩) ?_ ?_ ?_
  · exact Weak.to2 (by simp) (by simp)
  · exact ⟨rfl, rfl⟩
  rintro n s hn ⟨rfl, h3⟩
  cases hd : g.drop n with
  | nil =>
    have hnn : g.length ≤ n := by simpa using hd
    rw [hd] at h3
    have hnm : ¬ (j : Int) ∈ g := by simpa using h3
    repeat first
      | (refine aops.cons fun K hK => ?_; simp [and_assoc, eG_get, hgk]; (try simp (disch := omega) only [wrap64]); (first | refine hK _ ?_ | refine ⟨by omega, hK _ ?_⟩ | refine ⟨by omega, by omega, hK _ ?_⟩ | refine ⟨by omega, by omega, by omega, hK _ ?_⟩); clear hK K)
      | refine aops.nil ?_
      | refine runD.nil ?_
      | (refine runD.cons fun K hK => ?_; simp [and_assoc, eG_get, hgk]; (try simp (disch := omega) only [wrap64]); (first | refine hK _ _ (runD.eqs (by simp; rfl) ?_) | refine ⟨by omega, hK _ _ (runD.eqs (by simp; rfl) ?_)⟩ | refine ⟨by omega, by omega, hK _ _ (runD.eqs (by simp; rfl) ?_)⟩); clear hK K)
      | refine AW.seqD ttOK etOK mixOK _ (by simp [calmCount, isCalm]; rfl) (by decide +kernel) (by decide +kernel) (by decide +kernel) (by decide +kernel) ?_
      | refine AW.lastD ttOK etOK mixOK _ (by simp [calmCount, isCalm]; rfl) (by decide +kernel) (by decide +kernel) (by decide +kernel) (by decide +kernel) ?_
      | refine AW.seqDM ttOK etOK mixOK _ (by simp [calmCount, isCalm]; rfl) (by decide +kernel) (by decide +kernel) (by decide +kernel) (by simp; rfl) ?_
      | refine AW.lastDM ttOK etOK mixOK _ (by simp [calmCount, isCalm]; rfl) (by decide +kernel) (by decide +kernel) (by decide +kernel) (by simp; rfl) ?_
      | refine AW.seqR ttOK etOK ?_
      | refine AW.lastR ttOK etOK ?_
      | refine AW.seqSkip ?_
      | refine AW.seq ?_
      | refine AW.block ?_
      | (refine AW.skip ?_; simp only [andThen, inBlk, ↓reduceIte])
      | (refine AW.exit ?_; simp (disch := omega) only [andThen, inBlk, ↓reduceIte, Nat.reduceEqDiff])
      | (guard_target =~ andThen _ _ _ _; simp only [andThen, inBlk, ↓reduceIte])
    refine AW.cond _ (by rfl) (fun hx => absurd hx (by simp [hnn])) (fun _ => ?_)
    repeat first
      | (refine aops.cons fun K hK => ?_; simp [and_assoc]; (try simp (disch := omega) only [wrap64]); (first | refine hK _ ?_ | refine ⟨by omega, hK _ ?_⟩ | refine ⟨by omega, by omega, hK _ ?_⟩ | refine ⟨by omega, by omega, by omega, hK _ ?_⟩); clear hK K)
      | refine aops.nil ?_
      | refine runD.nil ?_
      | (refine runD.cons fun K hK => ?_; simp [and_assoc]; (try simp (disch := omega) only [wrap64]); (first | refine hK _ _ (runD.eqs (by simp; rfl) ?_) | refine ⟨by omega, hK _ _ (runD.eqs (by simp; rfl) ?_)⟩ | refine ⟨by omega, by omega, hK _ _ (runD.eqs (by simp; rfl) ?_)⟩); clear hK K)
      | refine AW.seqD ttOK etOK mixOK _ (by simp [calmCount, isCalm]; rfl) (by decide +kernel) (by decide +kernel) (by decide +kernel) (by decide +kernel) ?_
      | refine AW.lastD ttOK etOK mixOK _ (by simp [calmCount, isCalm]; rfl) (by decide +kernel) (by decide +kernel) (by decide +kernel) (by decide +kernel) ?_
      | refine AW.seqDM ttOK etOK mixOK _ (by simp [calmCount, isCalm]; rfl) (by decide +kernel) (by decide +kernel) (by decide +kernel) (by simp; rfl) ?_
      | refine AW.lastDM ttOK etOK mixOK _ (by simp [calmCount, isCalm]; rfl) (by decide +kernel) (by decide +kernel) (by decide +kernel) (by simp; rfl) ?_
      | refine AW.seqR ttOK etOK ?_
      | refine AW.lastR ttOK etOK ?_
      | refine AW.seqSkip ?_
      | refine AW.seq ?_
      | refine AW.block ?_
      | (refine AW.skip ?_; simp only [andThen, inBlk, ↓reduceIte])
      | (refine AW.exit ?_; simp (disch := omega) only [andThen, inBlk, ↓reduceIte, Nat.reduceEqDiff])
      | (guard_target =~ andThen _ _ _ _; simp only [andThen, inBlk, ↓reduceIte])
    refine ⟨by omega, ⟨39, [(1, aI j), (2, .pt 2 0), (6, aI ((j + 1 + (i + 1) : Nat) : Int))], [(2, .var [.d (.sl 1 (eG gs)), .d y])]⟩, ?_, rfl, ?_⟩
    · have e2 : ((j + 1 + (i + 1) : Nat) : Int) = k + 1 := by omega
      rw [e2]
      exact Weak.to2 (by simp) (by simp)
    · rw [← h2, show j + 1 + (i + 1) = k + 1 by omega, show gs.length - (k + 1) = gs.length - k - 1 by omega]
      simp [takerGo, hgk, hnm]
  | cons x r =>
    obtain ⟨hx, hr, hnlt⟩ := get_of_drop hd
    rw [hd] at h3
    repeat first
      | (refine aops.cons fun K hK => ?_; simp [and_assoc, eG_get, hgk]; (try simp (disch := omega) only [wrap64]); (first | refine hK _ ?_ | refine ⟨by omega, hK _ ?_⟩ | refine ⟨by omega, by omega, hK _ ?_⟩ | refine ⟨by omega, by omega, by omega, hK _ ?_⟩); clear hK K)
      | refine aops.nil ?_
      | refine runD.nil ?_
      | (refine runD.cons fun K hK => ?_; simp [and_assoc, eG_get, hgk]; (try simp (disch := omega) only [wrap64]); (first | refine hK _ _ (runD.eqs (by simp; rfl) ?_) | refine ⟨by omega, hK _ _ (runD.eqs (by simp; rfl) ?_)⟩ | refine ⟨by omega, by omega, hK _ _ (runD.eqs (by simp; rfl) ?_)⟩); clear hK K)
      | refine AW.seqD ttOK etOK mixOK _ (by simp [calmCount, isCalm]; rfl) (by decide +kernel) (by decide +kernel) (by decide +kernel) (by decide +kernel) ?_
      | refine AW.lastD ttOK etOK mixOK _ (by simp [calmCount, isCalm]; rfl) (by decide +kernel) (by decide +kernel) (by decide +kernel) (by decide +kernel) ?_
      | refine AW.seqDM ttOK etOK mixOK _ (by simp [calmCount, isCalm]; rfl) (by decide +kernel) (by decide +kernel) (by decide +kernel) (by simp; rfl) ?_
      | refine AW.lastDM ttOK etOK mixOK _ (by simp [calmCount, isCalm]; rfl) (by decide +kernel) (by decide +kernel) (by decide +kernel) (by simp; rfl) ?_
      | refine AW.seqR ttOK etOK ?_
      | refine AW.lastR ttOK etOK ?_
      | refine AW.seqSkip ?_
      | refine AW.seq ?_
      | refine AW.block ?_
      | (refine AW.skip ?_; simp only [andThen, inBlk, ↓reduceIte])
      | (refine AW.exit ?_; simp (disch := omega) only [andThen, inBlk, ↓reduceIte, Nat.reduceEqDiff])
      | (guard_target =~ andThen _ _ _ _; simp only [andThen, inBlk, ↓reduceIte])
    refine AW.cond _ (by rfl) (fun _ => ?_) (fun hx => absurd hx (by simp [hnlt]))
    repeat first
      | (refine aops.cons fun K hK => ?_; simp [and_assoc, eG_get, hgk, eI_get, hx]; (try simp (disch := omega) only [wrap64]); (first | refine hK _ ?_ | refine ⟨by omega, hK _ ?_⟩ | refine ⟨by omega, by omega, hK _ ?_⟩ | refine ⟨by omega, by omega, by omega, hK _ ?_⟩); clear hK K)
      | refine aops.nil ?_
      | refine runD.nil ?_
      | (refine runD.cons fun K hK => ?_; simp [and_assoc, eG_get, hgk, eI_get, hx]; (try simp (disch := omega) only [wrap64]); (first | refine hK _ _ (runD.eqs (by simp; rfl) ?_) | refine ⟨by omega, hK _ _ (runD.eqs (by simp; rfl) ?_)⟩ | refine ⟨by omega, by omega, hK _ _ (runD.eqs (by simp; rfl) ?_)⟩); clear hK K)
      | refine AW.seqD ttOK etOK mixOK _ (by simp [calmCount, isCalm]; rfl) (by decide +kernel) (by decide +kernel) (by decide +kernel) (by decide +kernel) ?_
      | refine AW.lastD ttOK etOK mixOK _ (by simp [calmCount, isCalm]; rfl) (by decide +kernel) (by decide +kernel) (by decide +kernel) (by decide +kernel) ?_
      | refine AW.seqDM ttOK etOK mixOK _ (by simp [calmCount, isCalm]; rfl) (by decide +kernel) (by decide +kernel) (by decide +kernel) (by simp; rfl) ?_
      | refine AW.lastDM ttOK etOK mixOK _ (by simp [calmCount, isCalm]; rfl) (by decide +kernel) (by decide +kernel) (by decide +kernel) (by simp; rfl) ?_
      | refine AW.seqR ttOK etOK ?_
      | refine AW.lastR ttOK etOK ?_
      | refine AW.seqSkip ?_
      | refine AW.seq ?_
      | refine AW.block ?_
      | (refine AW.skip ?_; simp only [andThen, inBlk, ↓reduceIte])
      | (refine AW.exit ?_; simp (disch := omega) only [andThen, inBlk, ↓reduceIte, Nat.reduceEqDiff])
      | (guard_target =~ andThen _ _ _ _; simp only [andThen, inBlk, ↓reduceIte])
    by_cases hxj : x = j
    · subst hxj
      refine AW.cond _ (by rfl) (fun _ => ?_) (fun hx => absurd hx (by simp []))
      repeat first
        | (refine aops.cons fun K hK => ?_; simp [and_assoc]; (try simp (disch := omega) only [wrap64]); (first | refine hK _ ?_ | refine ⟨by omega, hK _ ?_⟩ | refine ⟨by omega, by omega, hK _ ?_⟩ | refine ⟨by omega, by omega, by omega, hK _ ?_⟩); clear hK K)
        | refine aops.nil ?_
        | refine runD.nil ?_
        | (refine runD.cons fun K hK => ?_; simp [and_assoc]; (try simp (disch := omega) only [wrap64]); (first | refine hK _ _ (runD.eqs (by simp; rfl) ?_) | refine ⟨by omega, hK _ _ (runD.eqs (by simp; rfl) ?_)⟩ | refine ⟨by omega, by omega, hK _ _ (runD.eqs (by simp; rfl) ?_)⟩); clear hK K)
        | refine AW.seqD ttOK etOK mixOK _ (by simp [calmCount, isCalm]; rfl) (by decide +kernel) (by decide +kernel) (by decide +kernel) (by decide +kernel) ?_
        | refine AW.lastD ttOK etOK mixOK _ (by simp [calmCount, isCalm]; rfl) (by decide +kernel) (by decide +kernel) (by decide +kernel) (by decide +kernel) ?_
        | refine AW.seqDM ttOK etOK mixOK _ (by simp [calmCount, isCalm]; rfl) (by decide +kernel) (by decide +kernel) (by decide +kernel) (by simp; rfl) ?_
        | refine AW.lastDM ttOK etOK mixOK _ (by simp [calmCount, isCalm]; rfl) (by decide +kernel) (by decide +kernel) (by decide +kernel) (by simp; rfl) ?_
        | refine AW.seqR ttOK etOK ?_
        | refine AW.lastR ttOK etOK ?_
        | refine AW.seqSkip ?_
        | refine AW.seq ?_
        | refine AW.block ?_
        | (refine AW.skip ?_; simp only [andThen, inBlk, ↓reduceIte])
        | (refine AW.exit ?_; simp (disch := omega) only [andThen, inBlk, ↓reduceIte, Nat.reduceEqDiff])
        | (guard_target =~ andThen _ _ _ _; simp only [andThen, inBlk, ↓reduceIte])
      have hm : (j : Int) ∈ g := by simpa using h3
      refine AW.weak (Weak.to2 (tm' := [(4, aI k)]) rfl (by simp)) ?_
      exact AW.ret (by simp [resL, resA, resV, resVs, andThen, inBlk, ← h2, takerGo, hgk, hm])
    refine AW.cond _ (by rfl) (fun hx => absurd hx (by simp [hxj])) (fun _ => ?_)
    repeat first
      | (refine aops.cons fun K hK => ?_; simp [and_assoc]; (try simp (disch := omega) only [wrap64]); (first | refine hK _ ?_ | refine ⟨by omega, hK _ ?_⟩ | refine ⟨by omega, by omega, hK _ ?_⟩ | refine ⟨by omega, by omega, by omega, hK _ ?_⟩); clear hK K)
      | refine aops.nil ?_
      | refine runD.nil ?_
      | (refine runD.cons fun K hK => ?_; simp [and_assoc]; (try simp (disch := omega) only [wrap64]); (first | refine hK _ _ (runD.eqs (by simp; rfl) ?_) | refine ⟨by omega, hK _ _ (runD.eqs (by simp; rfl) ?_)⟩ | refine ⟨by omega, by omega, hK _ _ (runD.eqs (by simp; rfl) ?_)⟩); clear hK K)
      | refine AW.seqD ttOK etOK mixOK _ (by simp [calmCount, isCalm]; rfl) (by decide +kernel) (by decide +kernel) (by decide +kernel) (by decide +kernel) ?_
      | refine AW.lastD ttOK etOK mixOK _ (by simp [calmCount, isCalm]; rfl) (by decide +kernel) (by decide +kernel) (by decide +kernel) (by decide +kernel) ?_
      | refine AW.seqDM ttOK etOK mixOK _ (by simp [calmCount, isCalm]; rfl) (by decide +kernel) (by decide +kernel) (by decide +kernel) (by simp; rfl) ?_
      | refine AW.lastDM ttOK etOK mixOK _ (by simp [calmCount, isCalm]; rfl) (by decide +kernel) (by decide +kernel) (by decide +kernel) (by simp; rfl) ?_
      | refine AW.seqR ttOK etOK ?_
      | refine AW.lastR ttOK etOK ?_
      | refine AW.seqSkip ?_
      | refine AW.seq ?_
      | refine AW.block ?_
      | (refine AW.skip ?_; simp only [andThen, inBlk, ↓reduceIte])
      | (refine AW.exit ?_; simp (disch := omega) only [andThen, inBlk, ↓reduceIte, Nat.reduceEqDiff])
      | (guard_target =~ andThen _ _ _ _; simp only [andThen, inBlk, ↓reduceIte])
    refine ⟨hnlt, ⟨39, [(1, aI j), (2, .pt 2 0), (6, aI k), (7, aI (n + 1))], [(2, .var [.d (.sl 1 (eG gs)), .d y])]⟩, ?_, by simp, ?_⟩
    · exact Weak.to2 (by simp) (by simp)
    · rw [hr, ← h3]; simp [Ne.symm hxj]
end Go.Proofs.Ab.Try
