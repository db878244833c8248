/- A part of the proof of the law: it holds for all states of the abstract kind told in the first of these texts; no condition besides those its statements name. -/
import Derived.Test.YtkpnoifnfoijbaaAbF6
import Derived.Test.YtkpnoifnfoijbaaAbA25
import Derived.Test.YtkpnoifnfoijbaaAbA25
namespace Go.Proofs.Ab.Try
open Go Go.Proofs Go.Proofs.Ab
set_option linter.unusedSimpArgs false
set_option linter.unusedVariables false
set_option maxHeartbeats 8000000
def back (fs : List Int) : Nat → List Int → Nat → Option (List Int × Nat)
  | 0, own, at' => some (own, at')
  | n + 1, own, at' => if at' = 0 then none else back fs n (((at' - 1 : Nat) : Int) :: own) ((fs[at' - 1]?).getD 0).toNat
def shapeGo : List (List Int) → List Int → List PStep → Option (List (List Int) × List Int)
  | gs, fs, [] => some (gs, fs)
  | gs, fs, s :: r => if takesI s.kind < 0 then none else match back fs (takes s.kind) [] fs.length with
    | none => none
    | some (own, at') => shapeGo (gs ++ [own]) (fs ++ [(at' : Int)]) r
def shapeAt : List (List Int) → List Int → List PStep → List (List Int) × List Int
  | gs, fs, [] => (gs, fs)
  | gs, fs, s :: r => if takesI s.kind < 0 then (gs, fs) else match back fs (takes s.kind) [] fs.length with
    | none => (gs, fs)
    | some (own, at') => shapeAt (gs ++ [own]) (fs ++ [(at' : Int)]) r
theorem shapeAt_of : ∀ (r : List PStep) (gs : List (List Int)) (fs : List Int) (x : List (List Int) × List Int), shapeGo gs fs r = some x → shapeAt gs fs r = x := by
  intro r
  induction r with
  | nil => intro gs fs x h; simpa [shapeGo, shapeAt] using h
  | cons s r ih =>
    intro gs fs x h
    simp only [shapeGo] at h
    simp only [shapeAt]
    split at h
    · cases h
    · rename_i hn
      rw [if_neg hn]
      cases hb : back fs (takes s.kind) [] fs.length with
      | none => rw [hb] at h; cases h
      | some q => rw [hb] at h; obtain ⟨o, a⟩ := q; exact ih _ _ _ h
def shapeR (p : List PStep) : AV := .ag [.d (.sl 1 (eG (shapeAt [] [] p).1)), .d (.sl 1 (eI (shapeAt [] [] p).2))]
theorem dataA_shapeR (p : List PStep) : dataA (shapeR p) := by simp [shapeR, dataA, dataL]
def stO (p : List PStep) (k : Nat) (gs : List (List Int)) (fs : List Int) : St :=
  ⟨62, [(0, .d (.sl 9 (p.map stepC))), (2, .pt 2 0), (4, .pt 4 0), (5, aI k)], [(58, .arr 1 (eI fs)), (53, .arr 1 (eG gs)), (4, .var [.ms 53 1 0 gs.length, .ms 58 1 0 fs.length]), (2, .var [aNil, aNil])]⟩
def stI (p : List PStep) (k : Nat) (gs : List (List Int)) (fs : List Int) (many n : Nat) (own : List Int) (at' : Nat) : St :=
  ⟨62, [(0, .d (.sl 9 (p.map stepC))), (2, .pt 2 0), (4, .pt 4 0), (5, aI k), (6, aI many), (7, .ms 42 1 0 own.length), (8, aI at'), (9, aI n)], [(42, .arr 1 (eI own)), (58, .arr 1 (eI fs)), (53, .arr 1 (eG gs)), (4, .var [.ms 53 1 0 gs.length, .ms 58 1 0 fs.length]), (2, .var [aNil, aNil])]⟩
theorem good_shapeOf (p : List PStep) (hp : p.length ≤ 2000000) : Good Try.prog 18 [.d (.sl 9 (p.map stepC))] (.tp [shapeR p, aB (shapeGo [] [] p).isSome]) := by
  refine goodF ttOK Try.func18 (vs := [.cell 2 46, .tmp 3]) (nt := 62) rfl rfl rfl (by kernel_rfl) (by simp) (by simp [dataA, dataL, dataA_shapeR]) ?_
  repeat first
    | (refine aops.cons fun K hK => ?_; simp [and_assoc]; (try simp (disch := omega) only [wrap64]); (first | refine hK _ ?_ | refine ⟨by omega, hK _ ?_⟩ | refine ⟨by omega, by omega, hK _ ?_⟩ | refine ⟨by omega, by omega, by omega, hK _ ?_⟩); clear hK K)
    | refine aops.nil ?_
    | refine runD.nil ?_
    | (refine runD.cons fun K hK => ?_; simp [and_assoc]; (try simp (disch := omega) only [wrap64]); (first | refine hK _ _ (runD.eqs (by simp; rfl) ?_) | refine ⟨by omega, hK _ _ (runD.eqs (by simp; rfl) ?_)⟩ | refine ⟨by omega, by omega, hK _ _ (runD.eqs (by simp; rfl) ?_)⟩); clear hK K)
    | refine AW.seqD ttOK etOK mixOK _ (by simp [calmCount, isCalm]; rfl) (by decide +kernel) (by decide +kernel) (by decide +kernel) (by decide +kernel) ?_
    | refine AW.lastD ttOK etOK mixOK _ (by simp [calmCount, isCalm]; rfl) (by decide +kernel) (by decide +kernel) (by decide +kernel) (by decide +kernel) ?_
    | refine AW.seqDM ttOK etOK mixOK _ (by simp [calmCount, isCalm]; rfl) (by decide +kernel) (by decide +kernel) (by decide +kernel) (by simp; rfl) ?_
    | refine AW.lastDM ttOK etOK mixOK _ (by simp [calmCount, isCalm]; rfl) (by decide +kernel) (by decide +kernel) (by decide +kernel) (by simp; rfl) ?_
    | refine AW.seqR ttOK etOK ?_
    | refine AW.lastR ttOK etOK ?_
    | refine AW.seqSkip ?_
    | refine AW.seq ?_
    | refine AW.block ?_
    | (refine AW.skip ?_; simp only [andThen, inBlk, ↓reduceIte])
    | (refine AW.exit ?_; simp (disch := omega) only [andThen, inBlk, ↓reduceIte, Nat.reduceEqDiff])
    | (guard_target =~ andThen _ _ _ _; simp only [andThen, inBlk, ↓reduceIte])
  refine AW.iterI (fun k s => ∃ gs fs, s = stO p k gs fs ∧ gs.length = k ∧ fs.length = k ∧ (∀ f ∈ fs, 0 ≤ f ∧ f ≤ k) ∧ shapeGo gs fs (p.drop k) = shapeGo [] [] p ∧ shapeAt gs fs (p.drop k) = shapeAt [] [] p) p.length (s₀ := stO p 0 [] []) ?_ ?_ ?_
  · refine Weak.thenE (Weak.ownV _ 4 0 53 1 (by rfl) (by rfl) (by rfl)) (by simp; rfl) ?_
    refine Weak.thenE (Weak.ownV _ 4 1 58 1 (by rfl) (by rfl) (by rfl)) (by simp; rfl) ?_
    exact Weak.to (by simp)
  · exact ⟨[], [], rfl, rfl, rfl, by simp, rfl, rfl⟩
  rintro k s hk ⟨gs, fs, rfl, hg, hf, hb, h2, h2'⟩
  have hk' : (k : Int) ≤ 2000000 := by omega
  cases hd : p.drop k with
  | nil =>
    have : p.length ≤ k := by simpa using hd
    rw [hd] at h2 h2'
    unfold stO
    repeat first
      | (refine aops.cons fun K hK => ?_; simp [and_assoc]; (try simp (disch := omega) only [wrap64]); (first | refine hK _ ?_ | refine ⟨by omega, hK _ ?_⟩ | refine ⟨by omega, by omega, hK _ ?_⟩ | refine ⟨by omega, by omega, by omega, hK _ ?_⟩); clear hK K)
      | refine aops.nil ?_
      | refine runD.nil ?_
      | (refine runD.cons fun K hK => ?_; simp [and_assoc]; (try simp (disch := omega) only [wrap64]); (first | refine hK _ _ (runD.eqs (by simp; rfl) ?_) | refine ⟨by omega, hK _ _ (runD.eqs (by simp; rfl) ?_)⟩ | refine ⟨by omega, by omega, hK _ _ (runD.eqs (by simp; rfl) ?_)⟩); clear hK K)
      | refine AW.seqD ttOK etOK mixOK _ (by simp [calmCount, isCalm]; rfl) (by decide +kernel) (by decide +kernel) (by decide +kernel) (by decide +kernel) ?_
      | refine AW.lastD ttOK etOK mixOK _ (by simp [calmCount, isCalm]; rfl) (by decide +kernel) (by decide +kernel) (by decide +kernel) (by decide +kernel) ?_
      | refine AW.seqDM ttOK etOK mixOK _ (by simp [calmCount, isCalm]; rfl) (by decide +kernel) (by decide +kernel) (by decide +kernel) (by simp; rfl) ?_
      | refine AW.lastDM ttOK etOK mixOK _ (by simp [calmCount, isCalm]; rfl) (by decide +kernel) (by decide +kernel) (by decide +kernel) (by simp; rfl) ?_
      | refine AW.seqR ttOK etOK ?_
      | refine AW.lastR ttOK etOK ?_
      | refine AW.seqSkip ?_
      | refine AW.seq ?_
      | refine AW.block ?_
      | (refine AW.skip ?_; simp only [andThen, inBlk, ↓reduceIte])
      | (refine AW.exit ?_; simp (disch := omega) only [andThen, inBlk, ↓reduceIte, Nat.reduceEqDiff])
      | (guard_target =~ andThen _ _ _ _; simp only [andThen, inBlk, ↓reduceIte])
    refine AW.cond _ (by rfl) (fun hx => absurd hx (by simp [this])) (fun _ => ?_)
    repeat first
      | (refine aops.cons fun K hK => ?_; simp [and_assoc]; (try simp (disch := omega) only [wrap64]); (first | refine hK _ ?_ | refine ⟨by omega, hK _ ?_⟩ | refine ⟨by omega, by omega, hK _ ?_⟩ | refine ⟨by omega, by omega, by omega, hK _ ?_⟩); clear hK K)
      | refine aops.nil ?_
      | refine runD.nil ?_
      | (refine runD.cons fun K hK => ?_; simp [and_assoc]; (try simp (disch := omega) only [wrap64]); (first | refine hK _ _ (runD.eqs (by simp; rfl) ?_) | refine ⟨by omega, hK _ _ (runD.eqs (by simp; rfl) ?_)⟩ | refine ⟨by omega, by omega, hK _ _ (runD.eqs (by simp; rfl) ?_)⟩); clear hK K)
      | refine AW.seqD ttOK etOK mixOK _ (by simp [calmCount, isCalm]; rfl) (by decide +kernel) (by decide +kernel) (by decide +kernel) (by decide +kernel) ?_
      | refine AW.lastD ttOK etOK mixOK _ (by simp [calmCount, isCalm]; rfl) (by decide +kernel) (by decide +kernel) (by decide +kernel) (by decide +kernel) ?_
      | refine AW.seqDM ttOK etOK mixOK _ (by simp [calmCount, isCalm]; rfl) (by decide +kernel) (by decide +kernel) (by decide +kernel) (by simp; rfl) ?_
      | refine AW.lastDM ttOK etOK mixOK _ (by simp [calmCount, isCalm]; rfl) (by decide +kernel) (by decide +kernel) (by decide +kernel) (by simp; rfl) ?_
      | refine AW.seqR ttOK etOK ?_
      | refine AW.lastR ttOK etOK ?_
      | refine AW.seqSkip ?_
      | refine AW.seq ?_
      | refine AW.block ?_
      | (refine AW.skip ?_; simp only [andThen, inBlk, ↓reduceIte])
      | (refine AW.exit ?_; simp (disch := omega) only [andThen, inBlk, ↓reduceIte, Nat.reduceEqDiff])
      | (guard_target =~ andThen _ _ _ _; simp only [andThen, inBlk, ↓reduceIte])
    refine AW.weakE (Weak.freeze _ 53 (by rfl)) (by simp; rfl) ?_
    refine AW.weakE (Weak.freeze _ 58 (by rfl)) (by simp; rfl) ?_
    exact AW.ret (by simp [resL, resA, resV, resVs, andThen, inBlk, ← h2, ← h2', shapeGo, shapeR, shapeAt])
  | cons x r =>
    obtain ⟨hx, hr, hlt⟩ := get_of_drop hd
    rw [hd] at h2 h2'
    unfold stO
    repeat first
      | (refine aops.cons fun K hK => ?_; simp [and_assoc]; (try simp (disch := omega) only [wrap64]); (first | refine hK _ ?_ | refine ⟨by omega, hK _ ?_⟩ | refine ⟨by omega, by omega, hK _ ?_⟩ | refine ⟨by omega, by omega, by omega, hK _ ?_⟩); clear hK K)
      | refine aops.nil ?_
      | refine runD.nil ?_
      | (refine runD.cons fun K hK => ?_; simp [and_assoc]; (try simp (disch := omega) only [wrap64]); (first | refine hK _ _ (runD.eqs (by simp; rfl) ?_) | refine ⟨by omega, hK _ _ (runD.eqs (by simp; rfl) ?_)⟩ | refine ⟨by omega, by omega, hK _ _ (runD.eqs (by simp; rfl) ?_)⟩); clear hK K)
      | refine AW.seqD ttOK etOK mixOK _ (by simp [calmCount, isCalm]; rfl) (by decide +kernel) (by decide +kernel) (by decide +kernel) (by decide +kernel) ?_
      | refine AW.lastD ttOK etOK mixOK _ (by simp [calmCount, isCalm]; rfl) (by decide +kernel) (by decide +kernel) (by decide +kernel) (by decide +kernel) ?_
      | refine AW.seqDM ttOK etOK mixOK _ (by simp [calmCount, isCalm]; rfl) (by decide +kernel) (by decide +kernel) (by decide +kernel) (by simp; rfl) ?_
      | refine AW.lastDM ttOK etOK mixOK _ (by simp [calmCount, isCalm]; rfl) (by decide +kernel) (by decide +kernel) (by decide +kernel) (by simp; rfl) ?_
      | refine AW.seqR ttOK etOK ?_
      | refine AW.lastR ttOK etOK ?_
      | refine AW.seqSkip ?_
      | refine AW.seq ?_
      | refine AW.block ?_
      | (refine AW.skip ?_; simp only [andThen, inBlk, ↓reduceIte])
      | (refine AW.exit ?_; simp (disch := omega) only [andThen, inBlk, ↓reduceIte, Nat.reduceEqDiff])
      | (guard_target =~ andThen _ _ _ _; simp only [andThen, inBlk, ↓reduceIte])
    refine AW.cond _ (by rfl) (fun _ => ?_) (fun hx => absurd hx (by simp [hlt]))
    repeat first
      | (refine aops.cons fun K hK => ?_; simp [and_assoc, hx]; (try simp (disch := omega) only [wrap64]); (first | refine hK _ ?_ | refine ⟨by omega, hK _ ?_⟩ | refine ⟨by omega, by omega, hK _ ?_⟩ | refine ⟨by omega, by omega, by omega, hK _ ?_⟩); clear hK K)
      | refine aops.nil ?_
      | refine runD.nil ?_
      | (refine runD.cons fun K hK => ?_; simp [and_assoc, hx]; (try simp (disch := omega) only [wrap64]); (first | refine hK _ _ (runD.eqs (by simp; rfl) ?_) | refine ⟨by omega, hK _ _ (runD.eqs (by simp; rfl) ?_)⟩ | refine ⟨by omega, by omega, hK _ _ (runD.eqs (by simp; rfl) ?_)⟩); clear hK K)
      | refine AW.seqD ttOK etOK mixOK _ (by simp [calmCount, isCalm]; rfl) (by decide +kernel) (by decide +kernel) (by decide +kernel) (by decide +kernel) ?_
      | refine AW.lastD ttOK etOK mixOK _ (by simp [calmCount, isCalm]; rfl) (by decide +kernel) (by decide +kernel) (by decide +kernel) (by decide +kernel) ?_
      | refine AW.seqDM ttOK etOK mixOK _ (by simp [calmCount, isCalm]; rfl) (by decide +kernel) (by decide +kernel) (by decide +kernel) (by simp; rfl) ?_
      | refine AW.lastDM ttOK etOK mixOK _ (by simp [calmCount, isCalm]; rfl) (by decide +kernel) (by decide +kernel) (by decide +kernel) (by simp; rfl) ?_
      | refine AW.seqR ttOK etOK ?_
      | refine AW.lastR ttOK etOK ?_
      | refine AW.seqSkip ?_
      | refine AW.seq ?_
      | refine AW.block ?_
      | (refine AW.skip ?_; simp only [andThen, inBlk, ↓reduceIte])
      | (refine AW.exit ?_; simp (disch := omega) only [andThen, inBlk, ↓reduceIte, Nat.reduceEqDiff])
      | (guard_target =~ andThen _ _ _ _; simp only [andThen, inBlk, ↓reduceIte])
    first | refine aops.cons fun K hK => ?_ | refine runD.cons fun K hK => ?_
    simp [and_assoc]
    first | refine callA (good_takesOf x.kind) (by repeat (first | exact LeL.nil | refine LeL.cons (by first | exact Le.refl _ | exact Le.bs _ _ | exact Le.bp _ | exact Le.nilb _ | exact Le.nild _ | exact Le.un _ | assumption) ?_)) (hK _ ?_) | refine callA (good_takesOf x.kind) (by repeat (first | exact LeL.nil | refine LeL.cons (by first | exact Le.refl _ | exact Le.bs _ _ | exact Le.bp _ | exact Le.nilb _ | exact Le.nild _ | exact Le.un _ | assumption) ?_)) (hK _ _ (runD.eqs (by simp; rfl) ?_))
    clear hK K
    repeat first
      | (refine aops.cons fun K hK => ?_; simp [and_assoc]; (try simp (disch := omega) only [wrap64]); (first | refine hK _ ?_ | refine ⟨by omega, hK _ ?_⟩ | refine ⟨by omega, by omega, hK _ ?_⟩ | refine ⟨by omega, by omega, by omega, hK _ ?_⟩); clear hK K)
      | refine aops.nil ?_
      | refine runD.nil ?_
      | (refine runD.cons fun K hK => ?_; simp [and_assoc]; (try simp (disch := omega) only [wrap64]); (first | refine hK _ _ (runD.eqs (by simp; rfl) ?_) | refine ⟨by omega, hK _ _ (runD.eqs (by simp; rfl) ?_)⟩ | refine ⟨by omega, by omega, hK _ _ (runD.eqs (by simp; rfl) ?_)⟩); clear hK K)
      | refine AW.seqD ttOK etOK mixOK _ (by simp [calmCount, isCalm]; rfl) (by decide +kernel) (by decide +kernel) (by decide +kernel) (by decide +kernel) ?_
      | refine AW.lastD ttOK etOK mixOK _ (by simp [calmCount, isCalm]; rfl) (by decide +kernel) (by decide +kernel) (by decide +kernel) (by decide +kernel) ?_
      | refine AW.seqDM ttOK etOK mixOK _ (by simp [calmCount, isCalm]; rfl) (by decide +kernel) (by decide +kernel) (by decide +kernel) (by simp; rfl) ?_
      | refine AW.lastDM ttOK etOK mixOK _ (by simp [calmCount, isCalm]; rfl) (by decide +kernel) (by decide +kernel) (by decide +kernel) (by simp; rfl) ?_
      | refine AW.seqR ttOK etOK ?_
      | refine AW.lastR ttOK etOK ?_
      | refine AW.seqSkip ?_
      | refine AW.seq ?_
      | refine AW.block ?_
      | (refine AW.skip ?_; simp only [andThen, inBlk, ↓reduceIte])
      | (refine AW.exit ?_; simp (disch := omega) only [andThen, inBlk, ↓reduceIte, Nat.reduceEqDiff])
      | (guard_target =~ andThen _ _ _ _; simp only [andThen, inBlk, ↓reduceIte])
    by_cases hneg : takesI x.kind < 0
    · refine AW.cond _ (by rfl) (fun _ => ?_) (fun hx => absurd hx (by simp [hneg]))
      repeat first
        | (refine aops.cons fun K hK => ?_; simp [and_assoc]; (try simp (disch := omega) only [wrap64]); (first | refine hK _ ?_ | refine ⟨by omega, hK _ ?_⟩ | refine ⟨by omega, by omega, hK _ ?_⟩ | refine ⟨by omega, by omega, by omega, hK _ ?_⟩); clear hK K)
        | refine aops.nil ?_
        | refine runD.nil ?_
        | (refine runD.cons fun K hK => ?_; simp [and_assoc]; (try simp (disch := omega) only [wrap64]); (first | refine hK _ _ (runD.eqs (by simp; rfl) ?_) | refine ⟨by omega, hK _ _ (runD.eqs (by simp; rfl) ?_)⟩ | refine ⟨by omega, by omega, hK _ _ (runD.eqs (by simp; rfl) ?_)⟩); clear hK K)
        | refine AW.seqD ttOK etOK mixOK _ (by simp [calmCount, isCalm]; rfl) (by decide +kernel) (by decide +kernel) (by decide +kernel) (by decide +kernel) ?_
        | refine AW.lastD ttOK etOK mixOK _ (by simp [calmCount, isCalm]; rfl) (by decide +kernel) (by decide +kernel) (by decide +kernel) (by decide +kernel) ?_
        | refine AW.seqDM ttOK etOK mixOK _ (by simp [calmCount, isCalm]; rfl) (by decide +kernel) (by decide +kernel) (by decide +kernel) (by simp; rfl) ?_
        | refine AW.lastDM ttOK etOK mixOK _ (by simp [calmCount, isCalm]; rfl) (by decide +kernel) (by decide +kernel) (by decide +kernel) (by simp; rfl) ?_
        | refine AW.seqR ttOK etOK ?_
        | refine AW.lastR ttOK etOK ?_
        | refine AW.seqSkip ?_
        | refine AW.seq ?_
        | refine AW.block ?_
        | (refine AW.skip ?_; simp only [andThen, inBlk, ↓reduceIte])
        | (refine AW.exit ?_; simp (disch := omega) only [andThen, inBlk, ↓reduceIte, Nat.reduceEqDiff])
        | (guard_target =~ andThen _ _ _ _; simp only [andThen, inBlk, ↓reduceIte])
      refine AW.weakE (Weak.freeze _ 53 (by rfl)) (by simp; rfl) ?_
      refine AW.weakE (Weak.freeze _ 58 (by rfl)) (by simp; rfl) ?_
      have hn : shapeGo [] [] p = none := by rw [← h2]; simp [shapeGo, hneg]
      have hn' : shapeAt [] [] p = (gs, fs) := by rw [← h2']; simp [shapeAt, hneg]
      exact AW.ret (by simp [resL, resA, resV, resVs, andThen, inBlk, shapeR, hn, hn'])
    refine AW.cond _ (by rfl) (fun hx => absurd hx (by simp [hneg])) (fun _ => ?_)
    obtain ⟨many, hm, hm2⟩ : ∃ m : Nat, takesI x.kind = m ∧ takes x.kind = m := by
      unfold takesI at hneg ⊢
      split at hneg
      · rename_i h; rw [if_pos h]; exact ⟨takes x.kind, rfl, rfl⟩
      · exact absurd (by omega) hneg
    have hm3 := takes_le x.kind
    rw [hm]
    repeat first
      | (refine aops.cons fun K hK => ?_; simp [and_assoc]; (try simp (disch := omega) only [wrap64]); (first | refine hK _ ?_ | refine ⟨by omega, hK _ ?_⟩ | refine ⟨by omega, by omega, hK _ ?_⟩ | refine ⟨by omega, by omega, by omega, hK _ ?_⟩); clear hK K)
      | refine aops.nil ?_
      | refine runD.nil ?_
      | (refine runD.cons fun K hK => ?_; simp [and_assoc]; (try simp (disch := omega) only [wrap64]); (first | refine hK _ _ (runD.eqs (by simp; rfl) ?_) | refine ⟨by omega, hK _ _ (runD.eqs (by simp; rfl) ?_)⟩ | refine ⟨by omega, by omega, hK _ _ (runD.eqs (by simp; rfl) ?_)⟩); clear hK K)
      | refine AW.seqD ttOK etOK mixOK _ (by simp [calmCount, isCalm]; rfl) (by decide +kernel) (by decide +kernel) (by decide +kernel) (by decide +kernel) ?_
      | refine AW.lastD ttOK etOK mixOK _ (by simp [calmCount, isCalm]; rfl) (by decide +kernel) (by decide +kernel) (by decide +kernel) (by decide +kernel) ?_
      | refine AW.seqDM ttOK etOK mixOK _ (by simp [calmCount, isCalm]; rfl) (by decide +kernel) (by decide +kernel) (by decide +kernel) (by simp; rfl) ?_
      | refine AW.lastDM ttOK etOK mixOK _ (by simp [calmCount, isCalm]; rfl) (by decide +kernel) (by decide +kernel) (by decide +kernel) (by simp; rfl) ?_
      | refine AW.seqR ttOK etOK ?_
      | refine AW.lastR ttOK etOK ?_
      | refine AW.seqSkip ?_
      | refine AW.seq ?_
      | refine AW.block ?_
      | (refine AW.skip ?_; simp only [andThen, inBlk, ↓reduceIte])
      | (refine AW.exit ?_; simp (disch := omega) only [andThen, inBlk, ↓reduceIte, Nat.reduceEqDiff])
      | (guard_target =~ andThen _ _ _ _; simp only [andThen, inBlk, ↓reduceIte])
    refine AW.iterI (fun n s => ∃ own at', s = stI p k gs fs many n own at' ∧ at' ≤ k ∧ own.length = n ∧ back fs (many - n) own at' = back fs many [] k) many (s₀ := stI p k gs fs many 0 [] k) ?_ ?_ ?_
    · refine Weak.thenE (Weak.own _ 7 42 1 (by rfl) (by rfl)) (by simp; rfl) ?_
      exact Weak.to (by simp)
    · exact ⟨[], k, rfl, Nat.le_refl _, rfl, rfl⟩
    rintro n s hn ⟨own, at', rfl, ha, ho, hbk⟩
    unfold stI
    repeat first
      | (refine aops.cons fun K hK => ?_; simp [and_assoc]; (try simp (disch := omega) only [wrap64]); (first | refine hK _ ?_ | refine ⟨by omega, hK _ ?_⟩ | refine ⟨by omega, by omega, hK _ ?_⟩ | refine ⟨by omega, by omega, by omega, hK _ ?_⟩); clear hK K)
      | refine aops.nil ?_
      | refine runD.nil ?_
      | (refine runD.cons fun K hK => ?_; simp [and_assoc]; (try simp (disch := omega) only [wrap64]); (first | refine hK _ _ (runD.eqs (by simp; rfl) ?_) | refine ⟨by omega, hK _ _ (runD.eqs (by simp; rfl) ?_)⟩ | refine ⟨by omega, by omega, hK _ _ (runD.eqs (by simp; rfl) ?_)⟩); clear hK K)
      | refine AW.seqD ttOK etOK mixOK _ (by simp [calmCount, isCalm]; rfl) (by decide +kernel) (by decide +kernel) (by decide +kernel) (by decide +kernel) ?_
      | refine AW.lastD ttOK etOK mixOK _ (by simp [calmCount, isCalm]; rfl) (by decide +kernel) (by decide +kernel) (by decide +kernel) (by decide +kernel) ?_
      | refine AW.seqDM ttOK etOK mixOK _ (by simp [calmCount, isCalm]; rfl) (by decide +kernel) (by decide +kernel) (by decide +kernel) (by simp; rfl) ?_
      | refine AW.lastDM ttOK etOK mixOK _ (by simp [calmCount, isCalm]; rfl) (by decide +kernel) (by decide +kernel) (by decide +kernel) (by simp; rfl) ?_
      | refine AW.seqR ttOK etOK ?_
      | refine AW.lastR ttOK etOK ?_
      | refine AW.seqSkip ?_
      | refine AW.seq ?_
      | refine AW.block ?_
      | (refine AW.skip ?_; simp only [andThen, inBlk, ↓reduceIte])
      | (refine AW.exit ?_; simp (disch := omega) only [andThen, inBlk, ↓reduceIte, Nat.reduceEqDiff])
      | (guard_target =~ andThen _ _ _ _; simp only [andThen, inBlk, ↓reduceIte])
    by_cases hnm : n < many
    rotate_left
    · -- all operands are told
      refine AW.cond _ (by rfl) (fun hx => absurd hx (by simp [hnm])) (fun _ => ?_)
      have hnn : many - n = 0 := by omega
      rw [hnn] at hbk
      have hgo : shapeGo (gs ++ [own]) (fs ++ [(at' : Int)]) r = shapeGo [] [] p := by
        rw [← h2]; simp [shapeGo, hneg, hm2, hf, ← hbk, back]
      have hat : shapeAt (gs ++ [own]) (fs ++ [(at' : Int)]) r = shapeAt [] [] p := by
        rw [← h2']; simp [shapeAt, hneg, hm2, hf, ← hbk, back]
      repeat first
        | (refine aops.cons fun K hK => ?_; simp [and_assoc]; (try simp (disch := omega) only [wrap64]); (first | refine hK _ ?_ | refine ⟨by omega, hK _ ?_⟩ | refine ⟨by omega, by omega, hK _ ?_⟩ | refine ⟨by omega, by omega, by omega, hK _ ?_⟩); clear hK K)
        | refine aops.nil ?_
        | refine runD.nil ?_
        | (refine runD.cons fun K hK => ?_; simp [and_assoc]; (try simp (disch := omega) only [wrap64]); (first | refine hK _ _ (runD.eqs (by simp; rfl) ?_) | refine ⟨by omega, hK _ _ (runD.eqs (by simp; rfl) ?_)⟩ | refine ⟨by omega, by omega, hK _ _ (runD.eqs (by simp; rfl) ?_)⟩); clear hK K)
        | refine AW.seqD ttOK etOK mixOK _ (by simp [calmCount, isCalm]; rfl) (by decide +kernel) (by decide +kernel) (by decide +kernel) (by decide +kernel) ?_
        | refine AW.lastD ttOK etOK mixOK _ (by simp [calmCount, isCalm]; rfl) (by decide +kernel) (by decide +kernel) (by decide +kernel) (by decide +kernel) ?_
        | refine AW.seqDM ttOK etOK mixOK _ (by simp [calmCount, isCalm]; rfl) (by decide +kernel) (by decide +kernel) (by decide +kernel) (by simp; rfl) ?_
        | refine AW.lastDM ttOK etOK mixOK _ (by simp [calmCount, isCalm]; rfl) (by decide +kernel) (by decide +kernel) (by decide +kernel) (by simp; rfl) ?_
        | refine AW.seqR ttOK etOK ?_
        | refine AW.lastR ttOK etOK ?_
        | refine AW.seqSkip ?_
        | refine AW.seq ?_
        | refine AW.block ?_
        | (refine AW.skip ?_; simp only [andThen, inBlk, ↓reduceIte])
        | (refine AW.exit ?_; simp (disch := omega) only [andThen, inBlk, ↓reduceIte, Nat.reduceEqDiff])
        | (guard_target =~ andThen _ _ _ _; simp only [andThen, inBlk, ↓reduceIte])
      refine AW.weakE (Weak.freeze _ 42 (by rfl)) (by simp; rfl) ?_
      refine AW.weak (Weak.to2 (tm' := [(0, .d (.sl 9 (p.map stepC))), (2, .pt 2 0), (4, .pt 4 0), (5, aI k), (7, .d (.sl 1 (eI own))), (8, aI at')]) rfl (by simp)) ?_
      refine AW.anyG mixOK [false, false, false, false, false, false, false, false, false, false, false, false, false, false] (by rfl) ⟨62, [(0, .d (.sl 9 (p.map stepC))), (2, .pt 2 0), (4, .pt 4 0), (5, aI k), (7, .d (.sl 1 (eI own))), (8, aI at')], [(58, .arr 1 (eI (fs ++ [(at' : Int)]))), (53, .arr 1 (eG (gs ++ [own]))), (4, .var [.ms 53 1 0 (gs.length + 1), .ms 58 1 0 (fs.length + 1)]), (2, .var [aNil, aNil])]⟩ (fun ops Q hops hQ => by subst hops; exact shape_r19 (p.map stepC) k own fs gs at' (by omega) (by omega) Q hQ) ?_
      intro s' hw
      simp only [inBlk, andThen]
      refine AW.weak hw ?_
      repeat first
        | (refine aops.cons fun K hK => ?_; simp [and_assoc]; (try simp (disch := omega) only [wrap64]); (first | refine hK _ ?_ | refine ⟨by omega, hK _ ?_⟩ | refine ⟨by omega, by omega, hK _ ?_⟩ | refine ⟨by omega, by omega, by omega, hK _ ?_⟩); clear hK K)
        | refine aops.nil ?_
        | refine runD.nil ?_
        | (refine runD.cons fun K hK => ?_; simp [and_assoc]; (try simp (disch := omega) only [wrap64]); (first | refine hK _ _ (runD.eqs (by simp; rfl) ?_) | refine ⟨by omega, hK _ _ (runD.eqs (by simp; rfl) ?_)⟩ | refine ⟨by omega, by omega, hK _ _ (runD.eqs (by simp; rfl) ?_)⟩); clear hK K)
        | refine AW.seqD ttOK etOK mixOK _ (by simp [calmCount, isCalm]; rfl) (by decide +kernel) (by decide +kernel) (by decide +kernel) (by decide +kernel) ?_
        | refine AW.lastD ttOK etOK mixOK _ (by simp [calmCount, isCalm]; rfl) (by decide +kernel) (by decide +kernel) (by decide +kernel) (by decide +kernel) ?_
        | refine AW.seqDM ttOK etOK mixOK _ (by simp [calmCount, isCalm]; rfl) (by decide +kernel) (by decide +kernel) (by decide +kernel) (by simp; rfl) ?_
        | refine AW.lastDM ttOK etOK mixOK _ (by simp [calmCount, isCalm]; rfl) (by decide +kernel) (by decide +kernel) (by decide +kernel) (by simp; rfl) ?_
        | refine AW.seqR ttOK etOK ?_
        | refine AW.lastR ttOK etOK ?_
        | refine AW.seqSkip ?_
        | refine AW.seq ?_
        | refine AW.block ?_
        | (refine AW.skip ?_; simp only [andThen, inBlk, ↓reduceIte])
        | (refine AW.exit ?_; simp (disch := omega) only [andThen, inBlk, ↓reduceIte, Nat.reduceEqDiff])
        | (guard_target =~ andThen _ _ _ _; simp only [andThen, inBlk, ↓reduceIte])
      refine ⟨hlt, stO p (k + 1) (gs ++ [own]) (fs ++ [(at' : Int)]), ?_, gs ++ [own], fs ++ [(at' : Int)], rfl, by simp [hg], by simp [hf], ?_, by rw [hr]; exact hgo, by rw [hr]; exact hat⟩
      · exact Weak.to2 (by simp) (by simp)
      · intro f hfm
        simp only [List.mem_append, List.mem_singleton] at hfm
        rcases hfm with hfm | rfl
        · have := hb f hfm; omega
        · omega
    refine AW.cond _ (by rfl) (fun _ => ?_) (fun hx => absurd hx (by simp [hnm]))
    repeat first
      | (refine aops.cons fun K hK => ?_; simp [and_assoc]; (try simp (disch := omega) only [wrap64]); (first | refine hK _ ?_ | refine ⟨by omega, hK _ ?_⟩ | refine ⟨by omega, by omega, hK _ ?_⟩ | refine ⟨by omega, by omega, by omega, hK _ ?_⟩); clear hK K)
      | refine aops.nil ?_
      | refine runD.nil ?_
      | (refine runD.cons fun K hK => ?_; simp [and_assoc]; (try simp (disch := omega) only [wrap64]); (first | refine hK _ _ (runD.eqs (by simp; rfl) ?_) | refine ⟨by omega, hK _ _ (runD.eqs (by simp; rfl) ?_)⟩ | refine ⟨by omega, by omega, hK _ _ (runD.eqs (by simp; rfl) ?_)⟩); clear hK K)
      | refine AW.seqD ttOK etOK mixOK _ (by simp [calmCount, isCalm]; rfl) (by decide +kernel) (by decide +kernel) (by decide +kernel) (by decide +kernel) ?_
      | refine AW.lastD ttOK etOK mixOK _ (by simp [calmCount, isCalm]; rfl) (by decide +kernel) (by decide +kernel) (by decide +kernel) (by decide +kernel) ?_
      | refine AW.seqDM ttOK etOK mixOK _ (by simp [calmCount, isCalm]; rfl) (by decide +kernel) (by decide +kernel) (by decide +kernel) (by simp; rfl) ?_
      | refine AW.lastDM ttOK etOK mixOK _ (by simp [calmCount, isCalm]; rfl) (by decide +kernel) (by decide +kernel) (by decide +kernel) (by simp; rfl) ?_
      | refine AW.seqR ttOK etOK ?_
      | refine AW.lastR ttOK etOK ?_
      | refine AW.seqSkip ?_
      | refine AW.seq ?_
      | refine AW.block ?_
      | (refine AW.skip ?_; simp only [andThen, inBlk, ↓reduceIte])
      | (refine AW.exit ?_; simp (disch := omega) only [andThen, inBlk, ↓reduceIte, Nat.reduceEqDiff])
      | (guard_target =~ andThen _ _ _ _; simp only [andThen, inBlk, ↓reduceIte])
    by_cases h0 : at' = 0
    · subst h0
      refine AW.cond _ (by rfl) (fun _ => ?_) (fun hx => absurd hx (by simp []))
      repeat first
        | (refine aops.cons fun K hK => ?_; simp [and_assoc]; (try simp (disch := omega) only [wrap64]); (first | refine hK _ ?_ | refine ⟨by omega, hK _ ?_⟩ | refine ⟨by omega, by omega, hK _ ?_⟩ | refine ⟨by omega, by omega, by omega, hK _ ?_⟩); clear hK K)
        | refine aops.nil ?_
        | refine runD.nil ?_
        | (refine runD.cons fun K hK => ?_; simp [and_assoc]; (try simp (disch := omega) only [wrap64]); (first | refine hK _ _ (runD.eqs (by simp; rfl) ?_) | refine ⟨by omega, hK _ _ (runD.eqs (by simp; rfl) ?_)⟩ | refine ⟨by omega, by omega, hK _ _ (runD.eqs (by simp; rfl) ?_)⟩); clear hK K)
        | refine AW.seqD ttOK etOK mixOK _ (by simp [calmCount, isCalm]; rfl) (by decide +kernel) (by decide +kernel) (by decide +kernel) (by decide +kernel) ?_
        | refine AW.lastD ttOK etOK mixOK _ (by simp [calmCount, isCalm]; rfl) (by decide +kernel) (by decide +kernel) (by decide +kernel) (by decide +kernel) ?_
        | refine AW.seqDM ttOK etOK mixOK _ (by simp [calmCount, isCalm]; rfl) (by decide +kernel) (by decide +kernel) (by decide +kernel) (by simp; rfl) ?_
        | refine AW.lastDM ttOK etOK mixOK _ (by simp [calmCount, isCalm]; rfl) (by decide +kernel) (by decide +kernel) (by decide +kernel) (by simp; rfl) ?_
        | refine AW.seqR ttOK etOK ?_
        | refine AW.lastR ttOK etOK ?_
        | refine AW.seqSkip ?_
        | refine AW.seq ?_
        | refine AW.block ?_
        | (refine AW.skip ?_; simp only [andThen, inBlk, ↓reduceIte])
        | (refine AW.exit ?_; simp (disch := omega) only [andThen, inBlk, ↓reduceIte, Nat.reduceEqDiff])
        | (guard_target =~ andThen _ _ _ _; simp only [andThen, inBlk, ↓reduceIte])
      refine AW.weakE (Weak.freeze _ 53 (by rfl)) (by simp; rfl) ?_
      refine AW.weakE (Weak.freeze _ 58 (by rfl)) (by simp; rfl) ?_
      have hnn : many - n = (many - n - 1) + 1 := by omega
      have hn : shapeGo [] [] p = none := by
        rw [← h2]; rw [hnn] at hbk; simp [shapeGo, hneg, hm2, hf, ← hbk, back]
      have hn' : shapeAt [] [] p = (gs, fs) := by
        rw [← h2']; rw [hnn] at hbk; simp [shapeAt, hneg, hm2, hf, ← hbk, back]
      exact AW.ret (by simp [resL, resA, resV, resVs, andThen, inBlk, shapeR, hn, hn'])
    have h0' : ¬ (at' : Int) = 0 := by omega
    refine AW.cond _ (by rfl) (fun hx => absurd hx (by simp [h0])) (fun _ => ?_)
    have e : (at' : Int) - 1 = ((at' - 1 : Nat) : Int) := by omega
    have hl : at' - 1 < fs.length := by omega
    have hbb := hb fs[at' - 1] (List.getElem_mem hl)
    repeat first
      | (refine aops.cons fun K hK => ?_; simp [and_assoc, e, hl, eI_take, eI_append, eI_one]; (try simp (disch := omega) only [wrap64]); (first | refine hK _ ?_ | refine ⟨by omega, hK _ ?_⟩ | refine ⟨by omega, by omega, hK _ ?_⟩ | refine ⟨by omega, by omega, by omega, hK _ ?_⟩); clear hK K)
      | refine aops.nil ?_
      | refine runD.nil ?_
      | (refine runD.cons fun K hK => ?_; simp [and_assoc, e, hl, eI_take, eI_append, eI_one]; (try simp (disch := omega) only [wrap64]); (first | refine hK _ _ (runD.eqs (by simp; rfl) ?_) | refine ⟨by omega, hK _ _ (runD.eqs (by simp; rfl) ?_)⟩ | refine ⟨by omega, by omega, hK _ _ (runD.eqs (by simp; rfl) ?_)⟩); clear hK K)
      | refine AW.seqD ttOK etOK mixOK _ (by simp [calmCount, isCalm]; rfl) (by decide +kernel) (by decide +kernel) (by decide +kernel) (by decide +kernel) ?_
      | refine AW.lastD ttOK etOK mixOK _ (by simp [calmCount, isCalm]; rfl) (by decide +kernel) (by decide +kernel) (by decide +kernel) (by decide +kernel) ?_
      | refine AW.seqDM ttOK etOK mixOK _ (by simp [calmCount, isCalm]; rfl) (by decide +kernel) (by decide +kernel) (by decide +kernel) (by simp; rfl) ?_
      | refine AW.lastDM ttOK etOK mixOK _ (by simp [calmCount, isCalm]; rfl) (by decide +kernel) (by decide +kernel) (by decide +kernel) (by simp; rfl) ?_
      | refine AW.seqR ttOK etOK ?_
      | refine AW.lastR ttOK etOK ?_
      | refine AW.seqSkip ?_
      | refine AW.seq ?_
      | refine AW.block ?_
      | (refine AW.skip ?_; simp only [andThen, inBlk, ↓reduceIte])
      | (refine AW.exit ?_; simp (disch := omega) only [andThen, inBlk, ↓reduceIte, Nat.reduceEqDiff])
      | (guard_target =~ andThen _ _ _ _; simp only [andThen, inBlk, ↓reduceIte])
    have hbk2 : back fs (many - (n + 1)) (((at' - 1 : Nat) : Int) :: own) (fs[at' - 1]).toNat = back fs many [] k := by
      rw [← hbk, show many - n = (many - (n + 1)) + 1 by omega]
      simp only [back, if_neg h0, List.getElem?_eq_getElem hl, Option.getD_some]
    have e2 : (((fs[at' - 1]).toNat : Nat) : Int) = fs[at' - 1] := by omega
    refine ⟨hnm, ⟨62, [(0, .d (.sl 9 (p.map stepC))), (2, .pt 2 0), (4, .pt 4 0), (5, aI k), (6, aI many), (7, .ms 42 1 0 (1 + own.length)), (8, aI fs[at' - 1]), (9, aI (n + 1))], [(42, .arr 1 (eI (((at' - 1 : Nat) : Int) :: own))), (58, .arr 1 (eI fs)), (53, .arr 1 (eG gs)), (4, .var [.ms 53 1 0 gs.length, .ms 58 1 0 fs.length]), (2, .var [aNil, aNil])]⟩, ?_, ((at' - 1 : Nat) : Int) :: own, (fs[at' - 1]).toNat, ?_⟩
    · refine Weak.thenE (Weak.killE _ 38) (by simp; rfl) ?_
      exact Weak.to2 (by simp) (by simp)
    · refine ⟨?_, by omega, by simp [ho], hbk2⟩
      simp [stI, e2, Nat.add_comm]
end Go.Proofs.Ab.Try
