/- A part of the proof of the law: it holds for all states of the abstract kind told in the first of these texts; no condition besides those its statements name. -/
import Derived.Test.YtkpnoifnfoijbaaAbF7
namespace Go.Proofs.Ab.Try
open Go Go.Proofs Go.Proofs.Ab
set_option linter.unusedSimpArgs false
set_option linter.unusedVariables false
set_option maxHeartbeats 8000000
def Chain (fs : List Int) : List Int → Nat → Prop
  | [], a => a = 0
  | f :: r, a => ∃ b : Nat, a = b + 1 ∧ fs[b]? = some f ∧ 0 ≤ f ∧ Chain fs r f.toNat
theorem Chain.mono {fs : List Int} (l : List Int) : ∀ (r : List Int) (a : Nat), Chain fs r a → Chain (fs ++ l) r a := by
  intro r
  induction r with
  | nil => intro a h; exact h
  | cons f r ih =>
    rintro a ⟨b, h1, h2, h3, h4⟩
    refine ⟨b, h1, ?_, h3, ih _ h4⟩
    rw [List.getElem?_append_left (List.getElem?_eq_some_iff.1 h2).1]
    exact h2
theorem takes_cases (k : Int) : takes k = 0 ∨ takes k = 1 ∨ takes k = 2 := by have := takes_le k; omega
theorem shape_sim (p : List PStep) : ∀ (r : List PStep) (gs : List (List Int)) (fs rst : List Int) (k : Nat), p.drop k = r → fs.length = k → gs.length = k → Chain fs rst k →
    (wfGo rst.length r = true → ∃ gs', shapeGo gs fs r = some (gs ++ gs', fs ++ startsGo k rst.reverse r) ∧ gs'.length = r.length ∧ ∀ j g, gs'[j]? = some g → g = inputsOf p (fs ++ startsGo k rst.reverse r) (k + j)) ∧
    (wfGo rst.length r = false → shapeGo gs fs r = none) := by
  intro r
  induction r with
  | nil =>
    intro gs fs rst k hd hf hg hc
    refine ⟨fun _ => ⟨[], by simp [shapeGo, startsGo], rfl, by simp⟩, fun h => by simp [wfGo] at h⟩
  | cons s r ih =>
    intro gs fs rst k hd hf hg hc
    obtain ⟨hx, hr, hlt⟩ := get_of_drop hd
    by_cases hin : inR s.kind 1 9 = true
    rotate_left
    · refine ⟨fun h => by simp [wfGo, hin] at h, fun _ => ?_⟩
      have : takesI s.kind < 0 := by simp [takesI, hin]
      simp [shapeGo, this]
    have hti : ¬ takesI s.kind < 0 := by simp [takesI, hin]
    -- one step that is as it should be
    have key : ∀ (own : List Int) (at' : Nat) (rst' : List Int), takes s.kind ≤ rst.length → back fs (takes s.kind) [] fs.length = some (own, at') → fromAt k rst.reverse s = (at' : Int) → rst' = (at' : Int) :: rst.drop (takes s.kind) →
        (∀ l, inputsOf p (fs ++ l) k = own) → Chain (fs ++ [(at' : Int)]) rst' (k + 1) →
        (wfGo rst.length (s :: r) = true → ∃ gs', shapeGo gs fs (s :: r) = some (gs ++ gs', fs ++ startsGo k rst.reverse (s :: r)) ∧ gs'.length = (s :: r).length ∧ ∀ j g, gs'[j]? = some g → g = inputsOf p (fs ++ startsGo k rst.reverse (s :: r)) (k + j)) ∧
        (wfGo rst.length (s :: r) = false → shapeGo gs fs (s :: r) = none) := by
      intro own at' rst' hle hb hfr hrst hinp hc'
      have hlen : rst'.length = rst.length + 1 - takes s.kind := by rw [hrst]; simp; omega
      have hnx : stNext k rst.reverse s = rst'.reverse := by
        unfold stNext
        rw [hfr, hrst]
        simp [List.take_reverse, List.length_reverse, show rst.length - (rst.length - takes s.kind) = takes s.kind by omega]
      have hgo : shapeGo gs fs (s :: r) = shapeGo (gs ++ [own]) (fs ++ [(at' : Int)]) r := by simp [shapeGo, hti, hb]
      have hst : startsGo k rst.reverse (s :: r) = (at' : Int) :: startsGo (k + 1) rst'.reverse r := by simp [startsGo, hfr, hnx]
      have hwf : wfGo rst.length (s :: r) = wfGo rst'.length r := by simp [wfGo, hin, hle, hlen]
      obtain ⟨h1, h2⟩ := ih (gs ++ [own]) (fs ++ [(at' : Int)]) rst' (k + 1) hr (by simp [hf]) (by simp [hg]) hc'
      rw [hgo, hst, hwf]
      refine ⟨fun hw => ?_, h2⟩
      obtain ⟨gs', e1, e2, e3⟩ := h1 hw
      refine ⟨own :: gs', by rw [e1]; simp, by simp [e2], fun j g hj => ?_⟩
      cases j with
      | zero => simp at hj; subst hj; exact (hinp _).symm
      | succ j =>
        have := e3 j g (by simpa using hj)
        rw [this]
        simp [Nat.add_comm, Nat.add_left_comm]
    have hbad : ¬ takes s.kind ≤ rst.length → back fs (takes s.kind) [] fs.length = none →
        (wfGo rst.length (s :: r) = true → ∃ gs', shapeGo gs fs (s :: r) = some (gs ++ gs', fs ++ startsGo k rst.reverse (s :: r)) ∧ gs'.length = (s :: r).length ∧ ∀ j g, gs'[j]? = some g → g = inputsOf p (fs ++ startsGo k rst.reverse (s :: r)) (k + j)) ∧
        (wfGo rst.length (s :: r) = false → shapeGo gs fs (s :: r) = none) := by
      intro h1 h2
      refine ⟨fun h => by simp [wfGo, h1] at h, fun _ => by simp [shapeGo, hti, h2]⟩
    rcases takes_cases s.kind with ht | ht | ht
    · refine key [] k ((k : Int) :: rst) (by omega) (by rw [ht, hf]; rfl) (by simp [fromAt, ht]) (by rw [ht]; rfl) (fun l => by simp [inputsOf, hx, ht]) ?_
      refine ⟨k, rfl, by simp [← hf], by omega, ?_⟩
      simpa using hc.mono _ _ _
    · cases rst with
      | nil =>
        have hk0 : k = 0 := hc
        refine hbad (by simp [ht]) ?_
        rw [ht, hf, hk0]; rfl
      | cons f q =>
        obtain ⟨b, hb1, hb2, hb3, hb4⟩ := hc
        have e : ((f.toNat : Nat) : Int) = f := by omega
        refine key [(b : Int)] f.toNat (f :: q) (by simp [ht]) ?_ ?_ (by rw [ht, e]; rfl) (fun l => ?_) ?_
        · rw [ht, hf, hb1]; simp [back, hb2]
        · rw [e]; simp [fromAt, ht]
        · have hkb : (k : Int) - 1 = b := by omega
          simp [inputsOf, hx, ht, hkb]
        · rw [e]
          exact ⟨k, rfl, by simp [← hf], hb3, hb4.mono _ _ _⟩
    · cases rst with
      | nil =>
        have hk0 : k = 0 := hc
        refine hbad (by simp [ht]) ?_
        rw [ht, hf, hk0]; rfl
      | cons f q =>
        obtain ⟨b, hb1, hb2, hb3, hb4⟩ := hc
        cases q with
        | nil =>
          have hf0 : f.toNat = 0 := hb4
          refine hbad (by simp [ht]) ?_
          rw [ht, hf, hb1]; simp [back, hb2, hf0]
        | cons g q =>
          obtain ⟨c, hc1, hc2, hc3, hc4⟩ := hb4
          have e : ((g.toNat : Nat) : Int) = g := by omega
          have e2 : (c : Int) = f - 1 := by omega
          have hbl : b < fs.length := by omega
          refine key [(c : Int), (b : Int)] g.toNat (g :: q) (by simp [ht]) ?_ ?_ (by rw [ht, e]; rfl) (fun l => ?_) ?_
          · rw [ht, hf, hb1]; simp [back, hb2, hc1, hc2]
          · rw [e]; simp [fromAt, ht]
          · have : (fs ++ l)[b]? = some f := by rw [List.getElem?_append_left hbl]; exact hb2
            have hkb : (k : Int) - 1 = b := by omega
            have hkn : k - 1 = b := by omega
            simp [inputsOf, hx, ht, hkb, hkn, this, e2]
          · rw [e]
            exact ⟨k, rfl, by simp [← hf], hc3, hc4.mono _ _ _⟩
theorem shape_ok (p : List PStep) (hw : wfGo 0 p = true) : ∃ gs, shapeGo [] [] p = some (gs, startsGo 0 [] p) ∧ gs.length = p.length ∧ ∀ j g, gs[j]? = some g → g = inputsOf p (startsGo 0 [] p) j := by
  obtain ⟨gs, h1, h2, h3⟩ := (shape_sim p p [] [] [] 0 rfl rfl rfl rfl).1 hw
  exact ⟨gs, by simpa using h1, h2, fun j g hj => by simpa using h3 j g hj⟩
theorem shape_no (p : List PStep) (hw : wfGo 0 p = false) : shapeGo [] [] p = none := (shape_sim p p [] [] [] 0 rfl rfl rfl rfl).2 hw
end Go.Proofs.Ab.Try
