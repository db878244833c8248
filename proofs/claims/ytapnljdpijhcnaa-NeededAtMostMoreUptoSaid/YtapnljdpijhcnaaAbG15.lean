/- A part of the proof of the law: it holds for all states of the abstract kind told in the first of these texts; no condition besides those its statements name. -/
import Derived.Test.YtapnljdpijhcnaaAbG12
import Derived.Test.YtapnljdpijhcnaaAbG13
namespace Go.Proofs.Ab.Try
open Go Go.Proofs Go.Proofs.Ab
set_option linter.unusedSimpArgs false
set_option linter.unusedVariables false
set_option maxHeartbeats 8000000
/-! ### Projects and joins -/
def resC (p : List Col × Int) : List AV := [if p.2 = 0 then aCols p.1 else aNil, aI p.2]
theorem resC_ok (cs : List Col) : resC (cs, 0) = [aCols cs, aI 0] := rfl
theorem resC_no (cs : List Col) (f : Int) (h : f ≠ 0) : resC (cs, f) = [aNil, aI f] := by simp [resC, h]
theorem dataA_resC (p : List Col × Int) : dataA (.tp (resC p)) := by unfold resC; split <;> simp [dataA, dataL]
def projGo (c : List Col) : List Col → List (List Node × ByteArray) → List Col × Int
  | out, [] => (out, 0)
  | out, (e, n) :: r => if (exprF c e).2 ≠ 0 then ([], (exprF c e).2) else if (exprF c e).1 = 0 then ([], 10) else if nameB n = false then ([], 5) else if dupN n out = true then ([], 7)
    else projGo c (out ++ [⟨n, (exprF c e).1⟩]) r
def projF (c : List Col) (s : PStep) : List Col × Int :=
  if s.names.length ≠ s.exprs.length then ([], 3) else if s.exprs.length = 0 then ([], 6) else if 20 < s.exprs.length then ([], 2) else projGo c [] (s.exprs.zip s.names)
theorem good_projected (c : List Col) (s : PStep) (hc : smL smCol c) (hs : smStep s) : Good Try.prog 38 [.bs 2 (c.map colC), aStep s] (.tp (resC (projF c s))) := by
  have h1 := hs.exprs.1
  have h2 := hs.names.1
  refine goodF ttOK Try.func38 (vs := [.tmp 4, .tmp 5]) (nt := 75) rfl rfl rfl (by kernel_rfl) (by simp) (dataA_resC _) ?_
  repeat first | (refine aops.cons fun K hK => ?_; simp [and_assoc]; (try simp (disch := omega) only [wrap64]); (repeat refine ⟨by omega, ?_⟩); refine hK _ ?_; clear hK K) | refine aops.nil ?_ | refine AW.seqR ttOK etOK ?_ | refine AW.lastR ttOK etOK ?_ | refine AW.seqSkip ?_ | refine AW.seq ?_ | refine AW.block ?_ | (refine AW.skip ?_; simp only [andThen, inBlk, ↓reduceIte]) | (refine AW.exit ?_; simp (disch := omega) only [andThen, inBlk, ↓reduceIte, Nat.reduceEqDiff]) | (guard_target =~ andThen _ _ _ _; simp only [andThen, inBlk, ↓reduceIte])
  by_cases l0 : (s.names.length : Int) = s.exprs.length
  rotate_left
  · have l0' : ¬ s.names.length = s.exprs.length := by omega
    have hp : projF c s = ([], 3) := by simp [projF, l0']
    refine AW.cond _ (by rfl) (fun _ => ?_) (fun hx => absurd hx (by simp [l0]))
    repeat first | (refine aops.cons fun K hK => ?_; simp [and_assoc]; (try simp (disch := omega) only [wrap64]); (repeat refine ⟨by omega, ?_⟩); refine hK _ ?_; clear hK K) | refine aops.nil ?_ | refine AW.seqR ttOK etOK ?_ | refine AW.lastR ttOK etOK ?_ | refine AW.seqSkip ?_ | refine AW.seq ?_ | refine AW.block ?_ | (refine AW.skip ?_; simp only [andThen, inBlk, ↓reduceIte]) | (refine AW.exit ?_; simp (disch := omega) only [andThen, inBlk, ↓reduceIte, Nat.reduceEqDiff]) | (guard_target =~ andThen _ _ _ _; simp only [andThen, inBlk, ↓reduceIte])
    exact AW.ret (by simp [resL, resA, resV, resVs, andThen, inBlk, hp, resC])
  have l0' : s.names.length = s.exprs.length := by omega
  refine AW.cond _ (by rfl) (fun hx => absurd hx (by simp [l0'])) (fun _ => ?_)
  repeat first | (refine aops.cons fun K hK => ?_; simp [and_assoc]; (try simp (disch := omega) only [wrap64]); (repeat refine ⟨by omega, ?_⟩); refine hK _ ?_; clear hK K) | refine aops.nil ?_ | refine AW.seqR ttOK etOK ?_ | refine AW.lastR ttOK etOK ?_ | refine AW.seqSkip ?_ | refine AW.seq ?_ | refine AW.block ?_ | (refine AW.skip ?_; simp only [andThen, inBlk, ↓reduceIte]) | (refine AW.exit ?_; simp (disch := omega) only [andThen, inBlk, ↓reduceIte, Nat.reduceEqDiff]) | (guard_target =~ andThen _ _ _ _; simp only [andThen, inBlk, ↓reduceIte])
  by_cases l1 : s.exprs.length = 0
  · have l1' : s.exprs = [] := List.length_eq_zero_iff.1 l1
    have hp : projF c s = ([], 6) := by simp [projF, l0', l1']
    refine AW.cond _ (by rfl) (fun _ => ?_) (fun hx => absurd hx (by simp [l1']))
    repeat first | (refine aops.cons fun K hK => ?_; simp [and_assoc]; (try simp (disch := omega) only [wrap64]); (repeat refine ⟨by omega, ?_⟩); refine hK _ ?_; clear hK K) | refine aops.nil ?_ | refine AW.seqR ttOK etOK ?_ | refine AW.lastR ttOK etOK ?_ | refine AW.seqSkip ?_ | refine AW.seq ?_ | refine AW.block ?_ | (refine AW.skip ?_; simp only [andThen, inBlk, ↓reduceIte]) | (refine AW.exit ?_; simp (disch := omega) only [andThen, inBlk, ↓reduceIte, Nat.reduceEqDiff]) | (guard_target =~ andThen _ _ _ _; simp only [andThen, inBlk, ↓reduceIte])
    exact AW.ret (by simp [resL, resA, resV, resVs, andThen, inBlk, hp, resC])
  have l1' : ¬ s.exprs = [] := fun h => l1 (by rw [h]; rfl)
  refine AW.cond _ (by rfl) (fun hx => absurd hx (by simp [l1'])) (fun _ => ?_)
  repeat first | (refine aops.cons fun K hK => ?_; simp [and_assoc]; (try simp (disch := omega) only [wrap64]); (repeat refine ⟨by omega, ?_⟩); refine hK _ ?_; clear hK K) | refine aops.nil ?_ | refine AW.seqR ttOK etOK ?_ | refine AW.lastR ttOK etOK ?_ | refine AW.seqSkip ?_ | refine AW.seq ?_ | refine AW.block ?_ | (refine AW.skip ?_; simp only [andThen, inBlk, ↓reduceIte]) | (refine AW.exit ?_; simp (disch := omega) only [andThen, inBlk, ↓reduceIte, Nat.reduceEqDiff]) | (guard_target =~ andThen _ _ _ _; simp only [andThen, inBlk, ↓reduceIte])
  by_cases l2 : (20 : Int) < s.exprs.length
  · have l2' : 20 < s.exprs.length := by omega
    have hp : projF c s = ([], 2) := by simp [projF, l0', l1', l2']
    refine AW.cond _ (by rfl) (fun _ => ?_) (fun hx => absurd hx (by simp [l2]))
    repeat first | (refine aops.cons fun K hK => ?_; simp [and_assoc]; (try simp (disch := omega) only [wrap64]); (repeat refine ⟨by omega, ?_⟩); refine hK _ ?_; clear hK K) | refine aops.nil ?_ | refine AW.seqR ttOK etOK ?_ | refine AW.lastR ttOK etOK ?_ | refine AW.seqSkip ?_ | refine AW.seq ?_ | refine AW.block ?_ | (refine AW.skip ?_; simp only [andThen, inBlk, ↓reduceIte]) | (refine AW.exit ?_; simp (disch := omega) only [andThen, inBlk, ↓reduceIte, Nat.reduceEqDiff]) | (guard_target =~ andThen _ _ _ _; simp only [andThen, inBlk, ↓reduceIte])
    exact AW.ret (by simp [resL, resA, resV, resVs, andThen, inBlk, hp, resC])
  have l2' : ¬ 20 < s.exprs.length := by omega
  have hp : projF c s = projGo c [] (s.exprs.zip s.names) := by simp [projF, l0', l1', l2']
  refine AW.cond _ (by rfl) (fun hx => absurd hx (by simp [l2])) (fun _ => ?_)
  repeat first | (refine aops.cons fun K hK => ?_; simp [and_assoc]; (try simp (disch := omega) only [wrap64]); (repeat refine ⟨by omega, ?_⟩); refine hK _ ?_; clear hK K) | refine aops.nil ?_ | refine AW.seqR ttOK etOK ?_ | refine AW.lastR ttOK etOK ?_ | refine AW.seqSkip ?_ | refine AW.seq ?_ | refine AW.block ?_ | (refine AW.skip ?_; simp only [andThen, inBlk, ↓reduceIte]) | (refine AW.exit ?_; simp (disch := omega) only [andThen, inBlk, ↓reduceIte, Nat.reduceEqDiff]) | (guard_target =~ andThen _ _ _ _; simp only [andThen, inBlk, ↓reduceIte])
  rw [hp]
  have hz : (s.exprs.zip s.names).length = s.exprs.length := by simp [l0']
  refine AW.iterI (fun k s' => ∃ out, s' = ⟨75, [(0, .bs 2 (c.map colC)), (3, .pt 3 0), (6, .ms 72 2 0 out.length), (27, .d (.sl 1 (s.exprs.map exprC))), (28, aI s.exprs.length), (29, aI k)], [(72, .arr 2 (eMC out)), (3, .var ((stepC s).map .d))]⟩ ∧ out.length ≤ k ∧ projGo c out ((s.exprs.zip s.names).drop k) = projGo c [] (s.exprs.zip s.names)) s.exprs.length (s₀ := ⟨75, [(0, .bs 2 (c.map colC)), (3, .pt 3 0), (6, .ms 72 2 0 0), (27, .d (.sl 1 (s.exprs.map exprC))), (28, aI s.exprs.length), (29, aI 0)], [(72, .arr 2 (eMC [])), (3, .var ((stepC s).map .d))]⟩) ?_ ?_ ?_
  · refine Weak.thenE (Weak.own _ 6 72 2 (by rfl) (by rfl)) (by simp; rfl) ?_
    exact Weak.to2 (by simp) (by simp)
  · exact ⟨[], rfl, by simp, by simp⟩
  rintro k s' hk ⟨out, rfl, g1, g2⟩
  cases hd : (s.exprs.zip s.names).drop k with
  | nil =>
    have : s.exprs.length ≤ k := by rw [← hz]; simpa using hd
    rw [hd] at g2
    repeat first | (refine aops.cons fun K hK => ?_; simp [and_assoc]; (try simp (disch := omega) only [wrap64]); (repeat refine ⟨by omega, ?_⟩); refine hK _ ?_; clear hK K) | refine aops.nil ?_ | refine AW.seqR ttOK etOK ?_ | refine AW.lastR ttOK etOK ?_ | refine AW.seqSkip ?_ | refine AW.seq ?_ | refine AW.block ?_ | (refine AW.skip ?_; simp only [andThen, inBlk, ↓reduceIte]) | (refine AW.exit ?_; simp (disch := omega) only [andThen, inBlk, ↓reduceIte, Nat.reduceEqDiff]) | (guard_target =~ andThen _ _ _ _; simp only [andThen, inBlk, ↓reduceIte])
    refine AW.cond _ (by rfl) (fun hx => absurd hx (by simp [this])) (fun _ => ?_)
    repeat first | (refine aops.cons fun K hK => ?_; simp [and_assoc]; (try simp (disch := omega) only [wrap64]); (repeat refine ⟨by omega, ?_⟩); refine hK _ ?_; clear hK K) | refine aops.nil ?_ | refine AW.seqR ttOK etOK ?_ | refine AW.lastR ttOK etOK ?_ | refine AW.seqSkip ?_ | refine AW.seq ?_ | refine AW.block ?_ | (refine AW.skip ?_; simp only [andThen, inBlk, ↓reduceIte]) | (refine AW.exit ?_; simp (disch := omega) only [andThen, inBlk, ↓reduceIte, Nat.reduceEqDiff]) | (guard_target =~ andThen _ _ _ _; simp only [andThen, inBlk, ↓reduceIte])
    refine AW.weakE (Weak.freeze _ 72 (by rfl)) (by simp; rfl) ?_
    rw [← g2]
    exact AW.ret (by simp [resL, resA, resV, resVs, andThen, inBlk, projGo, resC, eMC])
  | cons x r =>
    obtain ⟨e, n⟩ := x
    obtain ⟨hx, hr, hlt⟩ := get_of_drop hd
    rw [hz] at hlt
    rw [hd] at g2
    obtain ⟨hxe, hxn⟩ := List.getElem?_zip_eq_some.1 hx
    have hes : smL smNode e := hs.exprs.get hxe
    have hns : smS n := hs.names.get hxn
    have hns' : n.size ≤ 9000000000000000000 := by have : n.size ≤ 2000000 := hns; omega
    repeat first | (refine aops.cons fun K hK => ?_; simp [and_assoc]; (try simp (disch := omega) only [wrap64]); (repeat refine ⟨by omega, ?_⟩); refine hK _ ?_; clear hK K) | refine aops.nil ?_ | refine AW.seqR ttOK etOK ?_ | refine AW.lastR ttOK etOK ?_ | refine AW.seqSkip ?_ | refine AW.seq ?_ | refine AW.block ?_ | (refine AW.skip ?_; simp only [andThen, inBlk, ↓reduceIte]) | (refine AW.exit ?_; simp (disch := omega) only [andThen, inBlk, ↓reduceIte, Nat.reduceEqDiff]) | (guard_target =~ andThen _ _ _ _; simp only [andThen, inBlk, ↓reduceIte])
    refine AW.cond _ (by rfl) (fun _ => ?_) (fun hx => absurd hx (by simp [hlt]))
    repeat first | (refine aops.cons fun K hK => ?_; simp [and_assoc, hxe]; (try simp (disch := omega) only [wrap64]); (repeat refine ⟨by omega, ?_⟩); refine hK _ ?_; clear hK K) | refine aops.nil ?_ | refine AW.seqR ttOK etOK ?_ | refine AW.lastR ttOK etOK ?_ | refine AW.seqSkip ?_ | refine AW.seq ?_ | refine AW.block ?_ | (refine AW.skip ?_; simp only [andThen, inBlk, ↓reduceIte]) | (refine AW.exit ?_; simp (disch := omega) only [andThen, inBlk, ↓reduceIte, Nat.reduceEqDiff]) | (guard_target =~ andThen _ _ _ _; simp only [andThen, inBlk, ↓reduceIte])
    refine aops.cons fun K hK => ?_
    simp [and_assoc]
    refine callA (good_CheckExpr c e hc hes) (by repeat' constructor) (hK _ ?_)
    clear hK K
    repeat first | (refine aops.cons fun K hK => ?_; simp [and_assoc]; (try simp (disch := omega) only [wrap64]); (repeat refine ⟨by omega, ?_⟩); refine hK _ ?_; clear hK K) | refine aops.nil ?_ | refine AW.seqR ttOK etOK ?_ | refine AW.lastR ttOK etOK ?_ | refine AW.seqSkip ?_ | refine AW.seq ?_ | refine AW.block ?_ | (refine AW.skip ?_; simp only [andThen, inBlk, ↓reduceIte]) | (refine AW.exit ?_; simp (disch := omega) only [andThen, inBlk, ↓reduceIte, Nat.reduceEqDiff]) | (guard_target =~ andThen _ _ _ _; simp only [andThen, inBlk, ↓reduceIte])
    by_cases f0 : (exprF c e).2 = 0
    rotate_left
    · have hp : projGo c out ((e, n) :: r) = ([], (exprF c e).2) := by simp [projGo, f0]
      refine AW.cond _ (by rfl) (fun _ => ?_) (fun hx => absurd hx (by simp [f0]))
      repeat first | (refine aops.cons fun K hK => ?_; simp [and_assoc]; (try simp (disch := omega) only [wrap64]); (repeat refine ⟨by omega, ?_⟩); refine hK _ ?_; clear hK K) | refine aops.nil ?_ | refine AW.seqR ttOK etOK ?_ | refine AW.lastR ttOK etOK ?_ | refine AW.seqSkip ?_ | refine AW.seq ?_ | refine AW.block ?_ | (refine AW.skip ?_; simp only [andThen, inBlk, ↓reduceIte]) | (refine AW.exit ?_; simp (disch := omega) only [andThen, inBlk, ↓reduceIte, Nat.reduceEqDiff]) | (guard_target =~ andThen _ _ _ _; simp only [andThen, inBlk, ↓reduceIte])
      rw [← g2, hp]
      exact AW.ret (by simp [resL, resA, resV, resVs, andThen, inBlk, resC, f0])
    refine AW.cond _ (by rfl) (fun hx => absurd hx (by simp [f0])) (fun _ => ?_)
    repeat first | (refine aops.cons fun K hK => ?_; simp [and_assoc]; (try simp (disch := omega) only [wrap64]); (repeat refine ⟨by omega, ?_⟩); refine hK _ ?_; clear hK K) | refine aops.nil ?_ | refine AW.seqR ttOK etOK ?_ | refine AW.lastR ttOK etOK ?_ | refine AW.seqSkip ?_ | refine AW.seq ?_ | refine AW.block ?_ | (refine AW.skip ?_; simp only [andThen, inBlk, ↓reduceIte]) | (refine AW.exit ?_; simp (disch := omega) only [andThen, inBlk, ↓reduceIte, Nat.reduceEqDiff]) | (guard_target =~ andThen _ _ _ _; simp only [andThen, inBlk, ↓reduceIte])
    by_cases k0 : (exprF c e).1 = 0
    · have hp : projGo c out ((e, n) :: r) = ([], 10) := by simp [projGo, f0, k0]
      refine AW.cond _ (by rfl) (fun _ => ?_) (fun hx => absurd hx (by simp [k0]))
      repeat first | (refine aops.cons fun K hK => ?_; simp [and_assoc]; (try simp (disch := omega) only [wrap64]); (repeat refine ⟨by omega, ?_⟩); refine hK _ ?_; clear hK K) | refine aops.nil ?_ | refine AW.seqR ttOK etOK ?_ | refine AW.lastR ttOK etOK ?_ | refine AW.seqSkip ?_ | refine AW.seq ?_ | refine AW.block ?_ | (refine AW.skip ?_; simp only [andThen, inBlk, ↓reduceIte]) | (refine AW.exit ?_; simp (disch := omega) only [andThen, inBlk, ↓reduceIte, Nat.reduceEqDiff]) | (guard_target =~ andThen _ _ _ _; simp only [andThen, inBlk, ↓reduceIte])
      rw [← g2, hp]
      exact AW.ret (by simp [resL, resA, resV, resVs, andThen, inBlk, resC])
    refine AW.cond _ (by rfl) (fun hx => absurd hx (by simp [k0])) (fun _ => ?_)
    repeat first | (refine aops.cons fun K hK => ?_; simp [and_assoc, hxn, eS]; (try simp (disch := omega) only [wrap64]); (repeat refine ⟨by omega, ?_⟩); refine hK _ ?_; clear hK K) | refine aops.nil ?_ | refine AW.seqR ttOK etOK ?_ | refine AW.lastR ttOK etOK ?_ | refine AW.seqSkip ?_ | refine AW.seq ?_ | refine AW.block ?_ | (refine AW.skip ?_; simp only [andThen, inBlk, ↓reduceIte]) | (refine AW.exit ?_; simp (disch := omega) only [andThen, inBlk, ↓reduceIte, Nat.reduceEqDiff]) | (guard_target =~ andThen _ _ _ _; simp only [andThen, inBlk, ↓reduceIte])
    refine aops.cons fun K hK => ?_
    simp [and_assoc, hxn, eS]
    refine callA (good_Name n hns') (by repeat' constructor) (hK _ ?_)
    clear hK K
    repeat first | (refine aops.cons fun K hK => ?_; simp [and_assoc]; (try simp (disch := omega) only [wrap64]); (repeat refine ⟨by omega, ?_⟩); refine hK _ ?_; clear hK K) | refine aops.nil ?_ | refine AW.seqR ttOK etOK ?_ | refine AW.lastR ttOK etOK ?_ | refine AW.seqSkip ?_ | refine AW.seq ?_ | refine AW.block ?_ | (refine AW.skip ?_; simp only [andThen, inBlk, ↓reduceIte]) | (refine AW.exit ?_; simp (disch := omega) only [andThen, inBlk, ↓reduceIte, Nat.reduceEqDiff]) | (guard_target =~ andThen _ _ _ _; simp only [andThen, inBlk, ↓reduceIte])
    by_cases n0 : nameB n = true
    rotate_left
    · have hp : projGo c out ((e, n) :: r) = ([], 5) := by simp [projGo, f0, k0, n0]
      refine AW.cond _ (by rfl) (fun _ => ?_) (fun hx => absurd hx (by simp [n0]))
      repeat first | (refine aops.cons fun K hK => ?_; simp [and_assoc]; (try simp (disch := omega) only [wrap64]); (repeat refine ⟨by omega, ?_⟩); refine hK _ ?_; clear hK K) | refine aops.nil ?_ | refine AW.seqR ttOK etOK ?_ | refine AW.lastR ttOK etOK ?_ | refine AW.seqSkip ?_ | refine AW.seq ?_ | refine AW.block ?_ | (refine AW.skip ?_; simp only [andThen, inBlk, ↓reduceIte]) | (refine AW.exit ?_; simp (disch := omega) only [andThen, inBlk, ↓reduceIte, Nat.reduceEqDiff]) | (guard_target =~ andThen _ _ _ _; simp only [andThen, inBlk, ↓reduceIte])
      rw [← g2, hp]
      exact AW.ret (by simp [resL, resA, resV, resVs, andThen, inBlk, resC])
    refine AW.cond _ (by rfl) (fun hx => absurd hx (by simp [n0])) (fun _ => ?_)
    repeat first | (refine aops.cons fun K hK => ?_; simp [and_assoc, hxn, eS]; (try simp (disch := omega) only [wrap64]); (repeat refine ⟨by omega, ?_⟩); refine hK _ ?_; clear hK K) | refine aops.nil ?_ | refine AW.seqR ttOK etOK ?_ | refine AW.lastR ttOK etOK ?_ | refine AW.seqSkip ?_ | refine AW.seq ?_ | refine AW.block ?_ | (refine AW.skip ?_; simp only [andThen, inBlk, ↓reduceIte]) | (refine AW.exit ?_; simp (disch := omega) only [andThen, inBlk, ↓reduceIte, Nat.reduceEqDiff]) | (guard_target =~ andThen _ _ _ _; simp only [andThen, inBlk, ↓reduceIte])
    refine aops.cons fun K hK => ?_
    simp [and_assoc, hxn, eS]
    refine callA (good_names out n (by omega)) (by repeat' constructor) (hK _ ?_)
    clear hK K
    repeat first | (refine aops.cons fun K hK => ?_; simp [and_assoc]; (try simp (disch := omega) only [wrap64]); (repeat refine ⟨by omega, ?_⟩); refine hK _ ?_; clear hK K) | refine aops.nil ?_ | refine AW.seqR ttOK etOK ?_ | refine AW.lastR ttOK etOK ?_ | refine AW.seqSkip ?_ | refine AW.seq ?_ | refine AW.block ?_ | (refine AW.skip ?_; simp only [andThen, inBlk, ↓reduceIte]) | (refine AW.exit ?_; simp (disch := omega) only [andThen, inBlk, ↓reduceIte, Nat.reduceEqDiff]) | (guard_target =~ andThen _ _ _ _; simp only [andThen, inBlk, ↓reduceIte])
    by_cases d0 : dupN n out = true
    · have hp : projGo c out ((e, n) :: r) = ([], 7) := by simp [projGo, f0, k0, n0, d0]
      refine AW.cond _ (by rfl) (fun _ => ?_) (fun hx => absurd hx (by simp [d0]))
      repeat first | (refine aops.cons fun K hK => ?_; simp [and_assoc]; (try simp (disch := omega) only [wrap64]); (repeat refine ⟨by omega, ?_⟩); refine hK _ ?_; clear hK K) | refine aops.nil ?_ | refine AW.seqR ttOK etOK ?_ | refine AW.lastR ttOK etOK ?_ | refine AW.seqSkip ?_ | refine AW.seq ?_ | refine AW.block ?_ | (refine AW.skip ?_; simp only [andThen, inBlk, ↓reduceIte]) | (refine AW.exit ?_; simp (disch := omega) only [andThen, inBlk, ↓reduceIte, Nat.reduceEqDiff]) | (guard_target =~ andThen _ _ _ _; simp only [andThen, inBlk, ↓reduceIte])
      rw [← g2, hp]
      exact AW.ret (by simp [resL, resA, resV, resVs, andThen, inBlk, resC])
    refine AW.cond _ (by rfl) (fun hx => absurd hx (by simp [d0])) (fun _ => ?_)
    repeat first | (refine aops.cons fun K hK => ?_; simp [and_assoc, hxn, eS]; (try simp (disch := omega) only [wrap64]); (repeat refine ⟨by omega, ?_⟩); refine hK _ ?_; clear hK K) | refine aops.nil ?_ | refine AW.seqR ttOK etOK ?_ | refine AW.lastR ttOK etOK ?_ | refine AW.seqSkip ?_ | refine AW.seq ?_ | refine AW.block ?_ | (refine AW.skip ?_; simp only [andThen, inBlk, ↓reduceIte]) | (refine AW.exit ?_; simp (disch := omega) only [andThen, inBlk, ↓reduceIte, Nat.reduceEqDiff]) | (guard_target =~ andThen _ _ _ _; simp only [andThen, inBlk, ↓reduceIte])
    refine ⟨hlt, ⟨75, [(0, .bs 2 (c.map colC)), (3, .pt 3 0), (6, .ms 72 2 0 (out.length + 1)), (27, .d (.sl 1 (s.exprs.map exprC))), (28, aI s.exprs.length), (29, aI (k + 1))], [(72, .arr 2 (eMC (out ++ [⟨n, (exprF c e).1⟩]))), (3, .var ((stepC s).map .d))]⟩, ?_, out ++ [⟨n, (exprF c e).1⟩], by simp, by simp; omega, ?_⟩
    · refine Weak.thenE (Weak.killE _ 71) (by simp; rfl) ?_
      refine Weak.thenE (Weak.killE _ 8) (by simp; rfl) ?_
      exact Weak.to2 (by simp [eMC, eS]) (by simp)
    · rw [hr, ← g2]; simp [projGo, f0, k0, n0, d0]
def joinDup (a : List Col) : List Col → Bool
  | [] => false
  | x :: r => if dupN x.name a = true then true else joinDup a r
def joinF (a b : List Col) (s : PStep) : List Col × Int :=
  if inR s.num 1 4 = false then ([], 4) else if 20 < a.length + b.length then ([], 2) else if joinDup a b = true then ([], 7) else if condF (a ++ b) s ≠ 0 then ([], condF (a ++ b) s)
  else if s.num = 3 ∨ s.num = 4 then (a, 0) else (a ++ b, 0)
theorem smL_append {α : Type} {p : α → Prop} {a b : List α} (ha : smL p a) (hb : smL p b) (h : a.length + b.length ≤ 2000000) : smL p (a ++ b) :=
  ⟨by simpa using h, fun x hx => by rcases List.mem_append.1 hx with h | h; exact ha.2 x h; exact hb.2 x h⟩
theorem good_joined (a b : List Col) (s : PStep) (ha : smL smCol a) (hb : smL smCol b) (hs : smStep s) : Good Try.prog 39 [aCols a, aCols b, aStep s] (.tp (resC (joinF a b s))) := by
  have h1 := ha.1
  have h2 := hb.1
  refine goodF ttOK Try.func39 (vs := [.tmp 6, .tmp 7]) (nt := 53) rfl rfl rfl (by kernel_rfl) (by simp) (dataA_resC _) ?_
  repeat first | (refine aops.cons fun K hK => ?_; simp [and_assoc]; (try simp (disch := omega) only [wrap64]); (repeat refine ⟨by omega, ?_⟩); refine hK _ ?_; clear hK K) | refine aops.nil ?_ | refine AW.seqR ttOK etOK ?_ | refine AW.lastR ttOK etOK ?_ | refine AW.seqSkip ?_ | refine AW.seq ?_ | refine AW.block ?_ | (refine AW.skip ?_; simp only [andThen, inBlk, ↓reduceIte]) | (refine AW.exit ?_; simp (disch := omega) only [andThen, inBlk, ↓reduceIte, Nat.reduceEqDiff]) | (guard_target =~ andThen _ _ _ _; simp only [andThen, inBlk, ↓reduceIte])
  refine aops.cons fun K hK => ?_
  simp [and_assoc]
  refine callA (good_In s.num 1 4) (by repeat' constructor) (hK _ ?_)
  clear hK K
  repeat first | (refine aops.cons fun K hK => ?_; simp [and_assoc]; (try simp (disch := omega) only [wrap64]); (repeat refine ⟨by omega, ?_⟩); refine hK _ ?_; clear hK K) | refine aops.nil ?_ | refine AW.seqR ttOK etOK ?_ | refine AW.lastR ttOK etOK ?_ | refine AW.seqSkip ?_ | refine AW.seq ?_ | refine AW.block ?_ | (refine AW.skip ?_; simp only [andThen, inBlk, ↓reduceIte]) | (refine AW.exit ?_; simp (disch := omega) only [andThen, inBlk, ↓reduceIte, Nat.reduceEqDiff]) | (guard_target =~ andThen _ _ _ _; simp only [andThen, inBlk, ↓reduceIte])
  by_cases hi : inR s.num 1 4 = true
  rotate_left
  · have hp : joinF a b s = ([], 4) := by simp [joinF, hi]
    refine AW.cond _ (by rfl) (fun _ => ?_) (fun hx => absurd hx (by simp [hi]))
    repeat first | (refine aops.cons fun K hK => ?_; simp [and_assoc]; (try simp (disch := omega) only [wrap64]); (repeat refine ⟨by omega, ?_⟩); refine hK _ ?_; clear hK K) | refine aops.nil ?_ | refine AW.seqR ttOK etOK ?_ | refine AW.lastR ttOK etOK ?_ | refine AW.seqSkip ?_ | refine AW.seq ?_ | refine AW.block ?_ | (refine AW.skip ?_; simp only [andThen, inBlk, ↓reduceIte]) | (refine AW.exit ?_; simp (disch := omega) only [andThen, inBlk, ↓reduceIte, Nat.reduceEqDiff]) | (guard_target =~ andThen _ _ _ _; simp only [andThen, inBlk, ↓reduceIte])
    exact AW.ret (by simp [resL, resA, resV, resVs, andThen, inBlk, hp, resC])
  refine AW.cond _ (by rfl) (fun hx => absurd hx (by simp [hi])) (fun _ => ?_)
  repeat first | (refine aops.cons fun K hK => ?_; simp [and_assoc]; (try simp (disch := omega) only [wrap64]); (repeat refine ⟨by omega, ?_⟩); refine hK _ ?_; clear hK K) | refine aops.nil ?_ | refine AW.seqR ttOK etOK ?_ | refine AW.lastR ttOK etOK ?_ | refine AW.seqSkip ?_ | refine AW.seq ?_ | refine AW.block ?_ | (refine AW.skip ?_; simp only [andThen, inBlk, ↓reduceIte]) | (refine AW.exit ?_; simp (disch := omega) only [andThen, inBlk, ↓reduceIte, Nat.reduceEqDiff]) | (guard_target =~ andThen _ _ _ _; simp only [andThen, inBlk, ↓reduceIte])
  by_cases l0 : (20 : Int) < (a.length : Int) + b.length
  · have l0' : 20 < a.length + b.length := by omega
    have hp : joinF a b s = ([], 2) := by simp [joinF, hi, l0']
    refine AW.cond _ (by rfl) (fun _ => ?_) (fun hx => absurd hx (by simp [l0]))
    repeat first | (refine aops.cons fun K hK => ?_; simp [and_assoc]; (try simp (disch := omega) only [wrap64]); (repeat refine ⟨by omega, ?_⟩); refine hK _ ?_; clear hK K) | refine aops.nil ?_ | refine AW.seqR ttOK etOK ?_ | refine AW.lastR ttOK etOK ?_ | refine AW.seqSkip ?_ | refine AW.seq ?_ | refine AW.block ?_ | (refine AW.skip ?_; simp only [andThen, inBlk, ↓reduceIte]) | (refine AW.exit ?_; simp (disch := omega) only [andThen, inBlk, ↓reduceIte, Nat.reduceEqDiff]) | (guard_target =~ andThen _ _ _ _; simp only [andThen, inBlk, ↓reduceIte])
    exact AW.ret (by simp [resL, resA, resV, resVs, andThen, inBlk, hp, resC])
  have l0' : ¬ 20 < a.length + b.length := by omega
  refine AW.cond _ (by rfl) (fun hx => absurd hx (by simp [l0])) (fun _ => ?_)
  repeat first | (refine aops.cons fun K hK => ?_; simp [and_assoc]; (try simp (disch := omega) only [wrap64]); (repeat refine ⟨by omega, ?_⟩); refine hK _ ?_; clear hK K) | refine aops.nil ?_ | refine AW.seqR ttOK etOK ?_ | refine AW.lastR ttOK etOK ?_ | refine AW.seqSkip ?_ | refine AW.seq ?_ | refine AW.block ?_ | (refine AW.skip ?_; simp only [andThen, inBlk, ↓reduceIte]) | (refine AW.exit ?_; simp (disch := omega) only [andThen, inBlk, ↓reduceIte, Nat.reduceEqDiff]) | (guard_target =~ andThen _ _ _ _; simp only [andThen, inBlk, ↓reduceIte])
  refine AW.iterI (fun k s' => s' = ⟨53, [(0, aCols a), (1, aCols b), (5, .pt 5 0), (22, aCols b), (23, aI b.length), (24, aI k)], [(5, .var ((stepC s).map .d))]⟩ ∧ joinDup a (b.drop k) = joinDup a b) b.length (s₀ := ⟨53, [(0, aCols a), (1, aCols b), (5, .pt 5 0), (22, aCols b), (23, aI b.length), (24, aI 0)], [(5, .var ((stepC s).map .d))]⟩) ?_ ?_ ?_
  · exact Weak.to2 (by simp) (by simp)
  · exact ⟨rfl, by simp⟩
  rintro k s' hk ⟨rfl, g2⟩
  cases hd : b.drop k with
  | nil =>
    have : b.length ≤ k := by simpa using hd
    rw [hd] at g2
    have d0 : joinDup a b = false := by rw [← g2]; rfl
    have hab : smL smCol (a ++ b) := smL_append ha hb (by omega)
    have hcc := good_ConcatC [a, b] (by simp) (by simp [sumLen]; omega)
    have hfl : [a, b].flatten = a ++ b := by simp
    rw [hfl] at hcc
    repeat first | (refine aops.cons fun K hK => ?_; simp [and_assoc]; (try simp (disch := omega) only [wrap64]); (repeat refine ⟨by omega, ?_⟩); refine hK _ ?_; clear hK K) | refine aops.nil ?_ | refine AW.seqR ttOK etOK ?_ | refine AW.lastR ttOK etOK ?_ | refine AW.seqSkip ?_ | refine AW.seq ?_ | refine AW.block ?_ | (refine AW.skip ?_; simp only [andThen, inBlk, ↓reduceIte]) | (refine AW.exit ?_; simp (disch := omega) only [andThen, inBlk, ↓reduceIte, Nat.reduceEqDiff]) | (guard_target =~ andThen _ _ _ _; simp only [andThen, inBlk, ↓reduceIte])
    refine AW.cond _ (by rfl) (fun hx => absurd hx (by simp [this])) (fun _ => ?_)
    repeat first | (refine aops.cons fun K hK => ?_; simp [and_assoc]; (try simp (disch := omega) only [wrap64]); (repeat refine ⟨by omega, ?_⟩); refine hK _ ?_; clear hK K) | refine aops.nil ?_ | refine AW.seqR ttOK etOK ?_ | refine AW.lastR ttOK etOK ?_ | refine AW.seqSkip ?_ | refine AW.seq ?_ | refine AW.block ?_ | (refine AW.skip ?_; simp only [andThen, inBlk, ↓reduceIte]) | (refine AW.exit ?_; simp (disch := omega) only [andThen, inBlk, ↓reduceIte, Nat.reduceEqDiff]) | (guard_target =~ andThen _ _ _ _; simp only [andThen, inBlk, ↓reduceIte])
    refine aops.cons fun K hK => ?_
    simp [and_assoc]
    refine callA (hcc) (by repeat' constructor) (hK _ ?_)
    clear hK K
    repeat first | (refine aops.cons fun K hK => ?_; simp [and_assoc]; (try simp (disch := omega) only [wrap64]); (repeat refine ⟨by omega, ?_⟩); refine hK _ ?_; clear hK K) | refine aops.nil ?_ | refine AW.seqR ttOK etOK ?_ | refine AW.lastR ttOK etOK ?_ | refine AW.seqSkip ?_ | refine AW.seq ?_ | refine AW.block ?_ | (refine AW.skip ?_; simp only [andThen, inBlk, ↓reduceIte]) | (refine AW.exit ?_; simp (disch := omega) only [andThen, inBlk, ↓reduceIte, Nat.reduceEqDiff]) | (guard_target =~ andThen _ _ _ _; simp only [andThen, inBlk, ↓reduceIte])
    refine aops.cons fun K hK => ?_
    simp [and_assoc]
    refine callA (good_condition (a ++ b) s hab hs) (by repeat' constructor) (hK _ ?_)
    clear hK K
    repeat first | (refine aops.cons fun K hK => ?_; simp [and_assoc]; (try simp (disch := omega) only [wrap64]); (repeat refine ⟨by omega, ?_⟩); refine hK _ ?_; clear hK K) | refine aops.nil ?_ | refine AW.seqR ttOK etOK ?_ | refine AW.lastR ttOK etOK ?_ | refine AW.seqSkip ?_ | refine AW.seq ?_ | refine AW.block ?_ | (refine AW.skip ?_; simp only [andThen, inBlk, ↓reduceIte]) | (refine AW.exit ?_; simp (disch := omega) only [andThen, inBlk, ↓reduceIte, Nat.reduceEqDiff]) | (guard_target =~ andThen _ _ _ _; simp only [andThen, inBlk, ↓reduceIte])
    by_cases f0 : condF (a ++ b) s = 0
    rotate_left
    · have hp : joinF a b s = ([], condF (a ++ b) s) := by simp only [joinF, hi, l0', d0]; simp [f0]
      refine AW.cond _ (by rfl) (fun _ => ?_) (fun hx => absurd hx (by simp [f0]))
      repeat first | (refine aops.cons fun K hK => ?_; simp [and_assoc]; (try simp (disch := omega) only [wrap64]); (repeat refine ⟨by omega, ?_⟩); refine hK _ ?_; clear hK K) | refine aops.nil ?_ | refine AW.seqR ttOK etOK ?_ | refine AW.lastR ttOK etOK ?_ | refine AW.seqSkip ?_ | refine AW.seq ?_ | refine AW.block ?_ | (refine AW.skip ?_; simp only [andThen, inBlk, ↓reduceIte]) | (refine AW.exit ?_; simp (disch := omega) only [andThen, inBlk, ↓reduceIte, Nat.reduceEqDiff]) | (guard_target =~ andThen _ _ _ _; simp only [andThen, inBlk, ↓reduceIte])
      exact AW.ret (by simp [resL, resA, resV, resVs, andThen, inBlk, hp, resC, f0])
    refine AW.cond _ (by rfl) (fun hx => absurd hx (by simp [f0])) (fun _ => ?_)
    by_cases n3 : s.num = 3
    · have hp : joinF a b s = (a, 0) := by simp only [joinF, hi, l0', d0]; simp [f0, n3]
      repeat first | (refine aops.cons fun K hK => ?_; simp [and_assoc, n3]; (try simp (disch := omega) only [wrap64]); (repeat refine ⟨by omega, ?_⟩); refine hK _ ?_; clear hK K) | refine aops.nil ?_ | refine AW.seqR ttOK etOK ?_ | refine AW.lastR ttOK etOK ?_ | refine AW.seqSkip ?_ | refine AW.seq ?_ | refine AW.block ?_ | (refine AW.skip ?_; simp only [andThen, inBlk, ↓reduceIte]) | (refine AW.exit ?_; simp (disch := omega) only [andThen, inBlk, ↓reduceIte, Nat.reduceEqDiff]) | (guard_target =~ andThen _ _ _ _; simp only [andThen, inBlk, ↓reduceIte])
      refine AW.cond _ (by rfl) (fun _ => ?_) (fun hx => absurd hx (by simp [n3]))
      repeat first | (refine aops.cons fun K hK => ?_; simp [and_assoc]; (try simp (disch := omega) only [wrap64]); (repeat refine ⟨by omega, ?_⟩); refine hK _ ?_; clear hK K) | refine aops.nil ?_ | refine AW.seqR ttOK etOK ?_ | refine AW.lastR ttOK etOK ?_ | refine AW.seqSkip ?_ | refine AW.seq ?_ | refine AW.block ?_ | (refine AW.skip ?_; simp only [andThen, inBlk, ↓reduceIte]) | (refine AW.exit ?_; simp (disch := omega) only [andThen, inBlk, ↓reduceIte, Nat.reduceEqDiff]) | (guard_target =~ andThen _ _ _ _; simp only [andThen, inBlk, ↓reduceIte])
      exact AW.ret (by simp [resL, resA, resV, resVs, andThen, inBlk, hp, resC])
    by_cases n4 : s.num = 4
    · have hp : joinF a b s = (a, 0) := by simp only [joinF, hi, l0', d0]; simp [f0, n4]
      repeat first | (refine aops.cons fun K hK => ?_; simp [and_assoc, n4]; (try simp (disch := omega) only [wrap64]); (repeat refine ⟨by omega, ?_⟩); refine hK _ ?_; clear hK K) | refine aops.nil ?_ | refine AW.seqR ttOK etOK ?_ | refine AW.lastR ttOK etOK ?_ | refine AW.seqSkip ?_ | refine AW.seq ?_ | refine AW.block ?_ | (refine AW.skip ?_; simp only [andThen, inBlk, ↓reduceIte]) | (refine AW.exit ?_; simp (disch := omega) only [andThen, inBlk, ↓reduceIte, Nat.reduceEqDiff]) | (guard_target =~ andThen _ _ _ _; simp only [andThen, inBlk, ↓reduceIte])
      refine AW.cond _ (by rfl) (fun _ => ?_) (fun hx => absurd hx (by simp [n4]))
      repeat first | (refine aops.cons fun K hK => ?_; simp [and_assoc]; (try simp (disch := omega) only [wrap64]); (repeat refine ⟨by omega, ?_⟩); refine hK _ ?_; clear hK K) | refine aops.nil ?_ | refine AW.seqR ttOK etOK ?_ | refine AW.lastR ttOK etOK ?_ | refine AW.seqSkip ?_ | refine AW.seq ?_ | refine AW.block ?_ | (refine AW.skip ?_; simp only [andThen, inBlk, ↓reduceIte]) | (refine AW.exit ?_; simp (disch := omega) only [andThen, inBlk, ↓reduceIte, Nat.reduceEqDiff]) | (guard_target =~ andThen _ _ _ _; simp only [andThen, inBlk, ↓reduceIte])
      exact AW.ret (by simp [resL, resA, resV, resVs, andThen, inBlk, hp, resC])
    have hp : joinF a b s = (a ++ b, 0) := by simp only [joinF, hi, l0', d0]; simp [f0, n3, n4]
    repeat first | (refine aops.cons fun K hK => ?_; simp [and_assoc, n3, n4]; (try simp (disch := omega) only [wrap64]); (repeat refine ⟨by omega, ?_⟩); refine hK _ ?_; clear hK K) | refine aops.nil ?_ | refine AW.seqR ttOK etOK ?_ | refine AW.lastR ttOK etOK ?_ | refine AW.seqSkip ?_ | refine AW.seq ?_ | refine AW.block ?_ | (refine AW.skip ?_; simp only [andThen, inBlk, ↓reduceIte]) | (refine AW.exit ?_; simp (disch := omega) only [andThen, inBlk, ↓reduceIte, Nat.reduceEqDiff]) | (guard_target =~ andThen _ _ _ _; simp only [andThen, inBlk, ↓reduceIte])
    refine AW.cond _ (by rfl) (fun hx => absurd hx (by simp [n3, n4])) (fun _ => ?_)
    repeat first | (refine aops.cons fun K hK => ?_; simp [and_assoc]; (try simp (disch := omega) only [wrap64]); (repeat refine ⟨by omega, ?_⟩); refine hK _ ?_; clear hK K) | refine aops.nil ?_ | refine AW.seqR ttOK etOK ?_ | refine AW.lastR ttOK etOK ?_ | refine AW.seqSkip ?_ | refine AW.seq ?_ | refine AW.block ?_ | (refine AW.skip ?_; simp only [andThen, inBlk, ↓reduceIte]) | (refine AW.exit ?_; simp (disch := omega) only [andThen, inBlk, ↓reduceIte, Nat.reduceEqDiff]) | (guard_target =~ andThen _ _ _ _; simp only [andThen, inBlk, ↓reduceIte])
    exact AW.ret (by simp [resL, resA, resV, resVs, andThen, inBlk, hp, resC, eMC])
  | cons x r =>
    obtain ⟨hx, hr, hlt⟩ := get_of_drop hd
    rw [hd] at g2
    repeat first | (refine aops.cons fun K hK => ?_; simp [and_assoc]; (try simp (disch := omega) only [wrap64]); (repeat refine ⟨by omega, ?_⟩); refine hK _ ?_; clear hK K) | refine aops.nil ?_ | refine AW.seqR ttOK etOK ?_ | refine AW.lastR ttOK etOK ?_ | refine AW.seqSkip ?_ | refine AW.seq ?_ | refine AW.block ?_ | (refine AW.skip ?_; simp only [andThen, inBlk, ↓reduceIte]) | (refine AW.exit ?_; simp (disch := omega) only [andThen, inBlk, ↓reduceIte, Nat.reduceEqDiff]) | (guard_target =~ andThen _ _ _ _; simp only [andThen, inBlk, ↓reduceIte])
    refine AW.cond _ (by rfl) (fun _ => ?_) (fun hx => absurd hx (by simp [hlt]))
    repeat first | (refine aops.cons fun K hK => ?_; simp [and_assoc, hx]; (try simp (disch := omega) only [wrap64]); (repeat refine ⟨by omega, ?_⟩); refine hK _ ?_; clear hK K) | refine aops.nil ?_ | refine AW.seqR ttOK etOK ?_ | refine AW.lastR ttOK etOK ?_ | refine AW.seqSkip ?_ | refine AW.seq ?_ | refine AW.block ?_ | (refine AW.skip ?_; simp only [andThen, inBlk, ↓reduceIte]) | (refine AW.exit ?_; simp (disch := omega) only [andThen, inBlk, ↓reduceIte, Nat.reduceEqDiff]) | (guard_target =~ andThen _ _ _ _; simp only [andThen, inBlk, ↓reduceIte])
    refine aops.cons fun K hK => ?_
    simp [and_assoc]
    refine callA (good_names a x.name h1) (by repeat' constructor) (hK _ ?_)
    clear hK K
    repeat first | (refine aops.cons fun K hK => ?_; simp [and_assoc]; (try simp (disch := omega) only [wrap64]); (repeat refine ⟨by omega, ?_⟩); refine hK _ ?_; clear hK K) | refine aops.nil ?_ | refine AW.seqR ttOK etOK ?_ | refine AW.lastR ttOK etOK ?_ | refine AW.seqSkip ?_ | refine AW.seq ?_ | refine AW.block ?_ | (refine AW.skip ?_; simp only [andThen, inBlk, ↓reduceIte]) | (refine AW.exit ?_; simp (disch := omega) only [andThen, inBlk, ↓reduceIte, Nat.reduceEqDiff]) | (guard_target =~ andThen _ _ _ _; simp only [andThen, inBlk, ↓reduceIte])
    by_cases d0 : dupN x.name a = true
    · have hp : joinF a b s = ([], 7) := by
        have : joinDup a b = true := by rw [← g2]; simp [joinDup, d0]
        simp only [joinF, hi, l0', this]; simp
      refine AW.cond _ (by rfl) (fun _ => ?_) (fun hx => absurd hx (by simp [d0]))
      repeat first | (refine aops.cons fun K hK => ?_; simp [and_assoc]; (try simp (disch := omega) only [wrap64]); (repeat refine ⟨by omega, ?_⟩); refine hK _ ?_; clear hK K) | refine aops.nil ?_ | refine AW.seqR ttOK etOK ?_ | refine AW.lastR ttOK etOK ?_ | refine AW.seqSkip ?_ | refine AW.seq ?_ | refine AW.block ?_ | (refine AW.skip ?_; simp only [andThen, inBlk, ↓reduceIte]) | (refine AW.exit ?_; simp (disch := omega) only [andThen, inBlk, ↓reduceIte, Nat.reduceEqDiff]) | (guard_target =~ andThen _ _ _ _; simp only [andThen, inBlk, ↓reduceIte])
      exact AW.ret (by simp [resL, resA, resV, resVs, andThen, inBlk, hp, resC])
    · refine AW.cond _ (by rfl) (fun hx => absurd hx (by simp [d0])) (fun _ => ?_)
      repeat first | (refine aops.cons fun K hK => ?_; simp [and_assoc]; (try simp (disch := omega) only [wrap64]); (repeat refine ⟨by omega, ?_⟩); refine hK _ ?_; clear hK K) | refine aops.nil ?_ | refine AW.seqR ttOK etOK ?_ | refine AW.lastR ttOK etOK ?_ | refine AW.seqSkip ?_ | refine AW.seq ?_ | refine AW.block ?_ | (refine AW.skip ?_; simp only [andThen, inBlk, ↓reduceIte]) | (refine AW.exit ?_; simp (disch := omega) only [andThen, inBlk, ↓reduceIte, Nat.reduceEqDiff]) | (guard_target =~ andThen _ _ _ _; simp only [andThen, inBlk, ↓reduceIte])
      refine ⟨hlt, ⟨53, [(0, aCols a), (1, aCols b), (5, .pt 5 0), (22, aCols b), (23, aI b.length), (24, aI (k + 1))], [(5, .var ((stepC s).map .d))]⟩, ?_, by simp, ?_⟩
      · refine Weak.thenE (Weak.killE _ 9) (by simp; rfl) ?_
        exact Weak.to2 (by simp) (by simp)
      · rw [hr, ← g2]; simp [joinDup, d0]
end Go.Proofs.Ab.Try
