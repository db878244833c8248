/- A part of the proof of the law: it holds for all states of the abstract kind told in the first of these texts; no condition besides those its statements name. -/
import Derived.Test.YtapnljdpijhcnaaAbG11
namespace Go.Proofs.Ab.Try
open Go Go.Proofs Go.Proofs.Ab
set_option linter.unusedSimpArgs false
set_option linter.unusedVariables false
set_option maxHeartbeats 8000000
/-! ### Conditions, names -/
def boolF (c : List Col) (e : List Node) : Int := if (exprF c e).2 = 0 ∧ (exprF c e).1 ≠ 0 ∧ (exprF c e).1 ≠ 1 then 10 else (exprF c e).2
def condF (c : List Col) (s : PStep) : Int := match s.exprs with | [e] => boolF c e | _ => 3
theorem good_condition (c : List Col) (s : PStep) (hc : smL smCol c) (hs : smStep s) : Good Try.prog 37 [.bs 2 (c.map colC), aStep s] (aI (condF c s)) := by
  have hx1 := hs.exprs.1
  refine goodF ttOK Try.func37 (vs := [.tmp 4]) (nt := 15) rfl rfl rfl (by kernel_rfl) (by simp) trivial ?_
  repeat first | (refine aops.cons fun K hK => ?_; simp [and_assoc]; (try simp (disch := omega) only [wrap64]); (repeat refine ⟨by omega, ?_⟩); refine hK _ ?_; clear hK K) | refine aops.nil ?_ | refine AW.seqR ttOK etOK ?_ | refine AW.lastR ttOK etOK ?_ | refine AW.seqSkip ?_ | refine AW.seq ?_ | refine AW.block ?_ | (refine AW.skip ?_; simp only [andThen, inBlk, ↓reduceIte]) | (refine AW.exit ?_; simp (disch := omega) only [andThen, inBlk, ↓reduceIte, Nat.reduceEqDiff]) | (guard_target =~ andThen _ _ _ _; simp only [andThen, inBlk, ↓reduceIte])
  by_cases l1 : s.exprs.length = 1
  · obtain ⟨e, he⟩ : ∃ e, s.exprs = [e] := by
      match hq : s.exprs, l1 with
      | [z], _ => exact ⟨z, rfl⟩
    have hes : smL smNode e := hs.exprs.2 e (by rw [he]; simp)
    refine AW.cond _ (by rfl) (fun hx => absurd hx (by simp [l1])) (fun _ => ?_)
    repeat first | (refine aops.cons fun K hK => ?_; simp [and_assoc, he]; (try simp (disch := omega) only [wrap64]); (repeat refine ⟨by omega, ?_⟩); refine hK _ ?_; clear hK K) | refine aops.nil ?_ | refine AW.seqR ttOK etOK ?_ | refine AW.lastR ttOK etOK ?_ | refine AW.seqSkip ?_ | refine AW.seq ?_ | refine AW.block ?_ | (refine AW.skip ?_; simp only [andThen, inBlk, ↓reduceIte]) | (refine AW.exit ?_; simp (disch := omega) only [andThen, inBlk, ↓reduceIte, Nat.reduceEqDiff]) | (guard_target =~ andThen _ _ _ _; simp only [andThen, inBlk, ↓reduceIte])
    refine aops.cons fun K hK => ?_
    simp [and_assoc, he]
    refine callA (good_CheckBool c e hc hes) (by repeat' constructor) (hK _ ?_)
    clear hK K
    repeat first | (refine aops.cons fun K hK => ?_; simp [and_assoc]; (try simp (disch := omega) only [wrap64]); (repeat refine ⟨by omega, ?_⟩); refine hK _ ?_; clear hK K) | refine aops.nil ?_ | refine AW.seqR ttOK etOK ?_ | refine AW.lastR ttOK etOK ?_ | refine AW.seqSkip ?_ | refine AW.seq ?_ | refine AW.block ?_ | (refine AW.skip ?_; simp only [andThen, inBlk, ↓reduceIte]) | (refine AW.exit ?_; simp (disch := omega) only [andThen, inBlk, ↓reduceIte, Nat.reduceEqDiff]) | (guard_target =~ andThen _ _ _ _; simp only [andThen, inBlk, ↓reduceIte])
    exact AW.ret (by simp [resL, resA, resV, resVs, andThen, inBlk, condF, he, boolF])
  · have l1' : ¬ (s.exprs.length : Int) = 1 := by omega
    refine AW.cond _ (by rfl) (fun _ => ?_) (fun hx => absurd hx (by simp [l1']))
    repeat first | (refine aops.cons fun K hK => ?_; simp [and_assoc]; (try simp (disch := omega) only [wrap64]); (repeat refine ⟨by omega, ?_⟩); refine hK _ ?_; clear hK K) | refine aops.nil ?_ | refine AW.seqR ttOK etOK ?_ | refine AW.lastR ttOK etOK ?_ | refine AW.seqSkip ?_ | refine AW.seq ?_ | refine AW.block ?_ | (refine AW.skip ?_; simp only [andThen, inBlk, ↓reduceIte]) | (refine AW.exit ?_; simp (disch := omega) only [andThen, inBlk, ↓reduceIte, Nat.reduceEqDiff]) | (guard_target =~ andThen _ _ _ _; simp only [andThen, inBlk, ↓reduceIte])
    have : condF c s = 3 := by
      unfold condF
      split
      · rename_i e he; rw [he] at l1; simp at l1
      · rfl
    exact AW.ret (by simp [resL, resA, resV, resVs, andThen, inBlk, this])
theorem good_names1 (x : Col) (n : ByteArray) : Good Try.prog 78 [.ag ((colC x).map .d), .bp [dS n]] (aB (x.name.toList == n.toList)) := by
  refine goodF ttOK Try.func78 (vs := [.tmp 3]) (nt := 8) rfl rfl rfl (by kernel_rfl) (by simp) trivial ?_
  repeat first | (refine aops.cons fun K hK => ?_; simp [and_assoc]; (try simp (disch := omega) only [wrap64]); (repeat refine ⟨by omega, ?_⟩); refine hK _ ?_; clear hK K) | refine aops.nil ?_ | refine AW.seqR ttOK etOK ?_ | refine AW.lastR ttOK etOK ?_ | refine AW.seqSkip ?_ | refine AW.seq ?_ | refine AW.block ?_ | (refine AW.skip ?_; simp only [andThen, inBlk, ↓reduceIte]) | (refine AW.exit ?_; simp (disch := omega) only [andThen, inBlk, ↓reduceIte, Nat.reduceEqDiff]) | (guard_target =~ andThen _ _ _ _; simp only [andThen, inBlk, ↓reduceIte])
  exact AW.ret (by simp [resL, resA, resV, resVs, andThen, inBlk])
def ixN (n : ByteArray) : Nat → List Col → Int
  | _, [] => -1
  | k, y :: r => if y.name.toList == n.toList then k else ixN n (k + 1) r
theorem ixN_dup (n : ByteArray) : ∀ (l : List Col) (k : Nat), decide (0 ≤ ixN n k l) = dupN n l := by
  intro l
  induction l with
  | nil => intro k; simp [ixN, dupN]
  | cons y r ih =>
    intro k
    by_cases h : y.name.toList = n.toList
    · simp [ixN, dupN, h]
    · simp only [ixN, dupN, beq_iff_eq, h, if_false]; exact ih (k + 1)
theorem good_IndexFuncN (c : List Col) (n : ByteArray) (hc : c.length ≤ 2000000) : Good Try.prog 84 [.bs 2 (c.map colC), .cl 78 [.bp [dS n]]] (aI (ixN n 0 c)) := by
  refine goodF ttOK Try.func84 (vs := [.tmp 4]) (nt := 19) rfl rfl rfl (by kernel_rfl) (by simp) trivial ?_
  repeat first | (refine aops.cons fun K hK => ?_; simp [and_assoc]; (try simp (disch := omega) only [wrap64]); (repeat refine ⟨by omega, ?_⟩); refine hK _ ?_; clear hK K) | refine aops.nil ?_ | refine AW.seqR ttOK etOK ?_ | refine AW.lastR ttOK etOK ?_ | refine AW.seqSkip ?_ | refine AW.seq ?_ | refine AW.block ?_ | (refine AW.skip ?_; simp only [andThen, inBlk, ↓reduceIte]) | (refine AW.exit ?_; simp (disch := omega) only [andThen, inBlk, ↓reduceIte, Nat.reduceEqDiff]) | (guard_target =~ andThen _ _ _ _; simp only [andThen, inBlk, ↓reduceIte])
  refine AW.iterI (fun k s => s = ⟨19, [(0, .bs 2 (c.map colC)), (1, .cl 78 [.bp [dS n]]), (6, .bs 2 (c.map colC)), (7, aI c.length), (8, aI k)], []⟩ ∧ ixN n k (c.drop k) = ixN n 0 c) c.length (s₀ := ⟨19, [(0, .bs 2 (c.map colC)), (1, .cl 78 [.bp [dS n]]), (6, .bs 2 (c.map colC)), (7, aI c.length), (8, aI 0)], []⟩) ?_ ?_ ?_
  · exact Weak.to (by simp)
  · exact ⟨rfl, rfl⟩
  rintro k s hk ⟨rfl, h2⟩
  cases hd : c.drop k with
  | nil =>
    have : c.length ≤ k := by simpa using hd
    rw [hd] at h2
    repeat first | (refine aops.cons fun K hK => ?_; simp [and_assoc]; (try simp (disch := omega) only [wrap64]); (repeat refine ⟨by omega, ?_⟩); refine hK _ ?_; clear hK K) | refine aops.nil ?_ | refine AW.seqR ttOK etOK ?_ | refine AW.lastR ttOK etOK ?_ | refine AW.seqSkip ?_ | refine AW.seq ?_ | refine AW.block ?_ | (refine AW.skip ?_; simp only [andThen, inBlk, ↓reduceIte]) | (refine AW.exit ?_; simp (disch := omega) only [andThen, inBlk, ↓reduceIte, Nat.reduceEqDiff]) | (guard_target =~ andThen _ _ _ _; simp only [andThen, inBlk, ↓reduceIte])
    refine AW.cond _ (by rfl) (fun hx => absurd hx (by simp [this])) (fun _ => ?_)
    repeat first | (refine aops.cons fun K hK => ?_; simp [and_assoc]; (try simp (disch := omega) only [wrap64]); (repeat refine ⟨by omega, ?_⟩); refine hK _ ?_; clear hK K) | refine aops.nil ?_ | refine AW.seqR ttOK etOK ?_ | refine AW.lastR ttOK etOK ?_ | refine AW.seqSkip ?_ | refine AW.seq ?_ | refine AW.block ?_ | (refine AW.skip ?_; simp only [andThen, inBlk, ↓reduceIte]) | (refine AW.exit ?_; simp (disch := omega) only [andThen, inBlk, ↓reduceIte, Nat.reduceEqDiff]) | (guard_target =~ andThen _ _ _ _; simp only [andThen, inBlk, ↓reduceIte])
    exact AW.ret (by simp [resL, resA, resV, resVs, andThen, inBlk, ← h2, ixN])
  | cons x r =>
    obtain ⟨hx, hr, hlt⟩ := get_of_drop hd
    rw [hd] at h2
    repeat first | (refine aops.cons fun K hK => ?_; simp [and_assoc]; (try simp (disch := omega) only [wrap64]); (repeat refine ⟨by omega, ?_⟩); refine hK _ ?_; clear hK K) | refine aops.nil ?_ | refine AW.seqR ttOK etOK ?_ | refine AW.lastR ttOK etOK ?_ | refine AW.seqSkip ?_ | refine AW.seq ?_ | refine AW.block ?_ | (refine AW.skip ?_; simp only [andThen, inBlk, ↓reduceIte]) | (refine AW.exit ?_; simp (disch := omega) only [andThen, inBlk, ↓reduceIte, Nat.reduceEqDiff]) | (guard_target =~ andThen _ _ _ _; simp only [andThen, inBlk, ↓reduceIte])
    refine AW.cond _ (by rfl) (fun _ => ?_) (fun hx => absurd hx (by simp [hlt]))
    repeat first | (refine aops.cons fun K hK => ?_; simp [and_assoc, hx]; (try simp (disch := omega) only [wrap64]); (repeat refine ⟨by omega, ?_⟩); refine hK _ ?_; clear hK K) | refine aops.nil ?_ | refine AW.seqR ttOK etOK ?_ | refine AW.lastR ttOK etOK ?_ | refine AW.seqSkip ?_ | refine AW.seq ?_ | refine AW.block ?_ | (refine AW.skip ?_; simp only [andThen, inBlk, ↓reduceIte]) | (refine AW.exit ?_; simp (disch := omega) only [andThen, inBlk, ↓reduceIte, Nat.reduceEqDiff]) | (guard_target =~ andThen _ _ _ _; simp only [andThen, inBlk, ↓reduceIte])
    refine aops.cons fun K hK => ?_
    simp [and_assoc, hx]
    refine callA (good_names1 x n) (by repeat' constructor) (hK _ ?_)
    clear hK K
    repeat first | (refine aops.cons fun K hK => ?_; simp [and_assoc]; (try simp (disch := omega) only [wrap64]); (repeat refine ⟨by omega, ?_⟩); refine hK _ ?_; clear hK K) | refine aops.nil ?_ | refine AW.seqR ttOK etOK ?_ | refine AW.lastR ttOK etOK ?_ | refine AW.seqSkip ?_ | refine AW.seq ?_ | refine AW.block ?_ | (refine AW.skip ?_; simp only [andThen, inBlk, ↓reduceIte]) | (refine AW.exit ?_; simp (disch := omega) only [andThen, inBlk, ↓reduceIte, Nat.reduceEqDiff]) | (guard_target =~ andThen _ _ _ _; simp only [andThen, inBlk, ↓reduceIte])
    by_cases h3 : x.name.toList = n.toList
    · refine AW.cond _ (by rfl) (fun _ => ?_) (fun hx => absurd hx (by simp [h3]))
      repeat first | (refine aops.cons fun K hK => ?_; simp [and_assoc]; (try simp (disch := omega) only [wrap64]); (repeat refine ⟨by omega, ?_⟩); refine hK _ ?_; clear hK K) | refine aops.nil ?_ | refine AW.seqR ttOK etOK ?_ | refine AW.lastR ttOK etOK ?_ | refine AW.seqSkip ?_ | refine AW.seq ?_ | refine AW.block ?_ | (refine AW.skip ?_; simp only [andThen, inBlk, ↓reduceIte]) | (refine AW.exit ?_; simp (disch := omega) only [andThen, inBlk, ↓reduceIte, Nat.reduceEqDiff]) | (guard_target =~ andThen _ _ _ _; simp only [andThen, inBlk, ↓reduceIte])
      exact AW.ret (by simp [resL, resA, resV, resVs, andThen, inBlk, ← h2, ixN, h3])
    · refine AW.cond _ (by rfl) (fun hx => absurd hx (by simp [h3])) (fun _ => ?_)
      repeat first | (refine aops.cons fun K hK => ?_; simp [and_assoc]; (try simp (disch := omega) only [wrap64]); (repeat refine ⟨by omega, ?_⟩); refine hK _ ?_; clear hK K) | refine aops.nil ?_ | refine AW.seqR ttOK etOK ?_ | refine AW.lastR ttOK etOK ?_ | refine AW.seqSkip ?_ | refine AW.seq ?_ | refine AW.block ?_ | (refine AW.skip ?_; simp only [andThen, inBlk, ↓reduceIte]) | (refine AW.exit ?_; simp (disch := omega) only [andThen, inBlk, ↓reduceIte, Nat.reduceEqDiff]) | (guard_target =~ andThen _ _ _ _; simp only [andThen, inBlk, ↓reduceIte])
      refine ⟨hlt, ⟨19, [(0, .bs 2 (c.map colC)), (1, .cl 78 [.bp [dS n]]), (6, .bs 2 (c.map colC)), (7, aI c.length), (8, aI (k + 1))], []⟩, ?_, by simp, ?_⟩
      · exact Weak.to (by simp)
      · rw [hr, ← h2]; simp [ixN, h3]
theorem good_ContainsFuncN (c : List Col) (n : ByteArray) (hc : c.length ≤ 2000000) : Good Try.prog 77 [.bs 2 (c.map colC), .cl 78 [.bp [dS n]]] (aB (dupN n c)) := by
  refine goodF ttOK Try.func77 (vs := [.tmp 4]) (nt := 9) rfl rfl rfl (by kernel_rfl) (by simp) trivial ?_
  repeat first | (refine aops.cons fun K hK => ?_; simp [and_assoc]; (try simp (disch := omega) only [wrap64]); (repeat refine ⟨by omega, ?_⟩); refine hK _ ?_; clear hK K) | refine aops.nil ?_ | refine AW.seqR ttOK etOK ?_ | refine AW.lastR ttOK etOK ?_ | refine AW.seqSkip ?_ | refine AW.seq ?_ | refine AW.block ?_ | (refine AW.skip ?_; simp only [andThen, inBlk, ↓reduceIte]) | (refine AW.exit ?_; simp (disch := omega) only [andThen, inBlk, ↓reduceIte, Nat.reduceEqDiff]) | (guard_target =~ andThen _ _ _ _; simp only [andThen, inBlk, ↓reduceIte])
  refine aops.cons fun K hK => ?_
  simp [and_assoc]
  refine callA (good_IndexFuncN c n hc) (by repeat' constructor) (hK _ ?_)
  clear hK K
  repeat first | (refine aops.cons fun K hK => ?_; simp [and_assoc]; (try simp (disch := omega) only [wrap64]); (repeat refine ⟨by omega, ?_⟩); refine hK _ ?_; clear hK K) | refine aops.nil ?_ | refine AW.seqR ttOK etOK ?_ | refine AW.lastR ttOK etOK ?_ | refine AW.seqSkip ?_ | refine AW.seq ?_ | refine AW.block ?_ | (refine AW.skip ?_; simp only [andThen, inBlk, ↓reduceIte]) | (refine AW.exit ?_; simp (disch := omega) only [andThen, inBlk, ↓reduceIte, Nat.reduceEqDiff]) | (guard_target =~ andThen _ _ _ _; simp only [andThen, inBlk, ↓reduceIte])
  have := ixN_dup n c 0
  exact AW.ret (by simp [resL, resA, resV, resVs, andThen, inBlk, this])
theorem good_names (c : List Col) (n : ByteArray) (hc : c.length ≤ 2000000) : Good Try.prog 63 [.bs 2 (c.map colC), .d (.v (.string n))] (aB (dupN n c)) := by
  refine goodF ttOK Try.func63 (vs := [.tmp 4]) (nt := 8) rfl rfl rfl (by kernel_rfl) (by simp) trivial ?_
  repeat first | (refine aops.cons fun K hK => ?_; simp [and_assoc]; (try simp (disch := omega) only [wrap64]); (repeat refine ⟨by omega, ?_⟩); refine hK _ ?_; clear hK K) | refine aops.nil ?_ | refine AW.seqR ttOK etOK ?_ | refine AW.lastR ttOK etOK ?_ | refine AW.seqSkip ?_ | refine AW.seq ?_ | refine AW.block ?_ | (refine AW.skip ?_; simp only [andThen, inBlk, ↓reduceIte]) | (refine AW.exit ?_; simp (disch := omega) only [andThen, inBlk, ↓reduceIte, Nat.reduceEqDiff]) | (guard_target =~ andThen _ _ _ _; simp only [andThen, inBlk, ↓reduceIte])
  refine aops.cons fun K hK => ?_
  simp [and_assoc]
  refine callA (good_ContainsFuncN c n hc) (by repeat' constructor) (hK _ ?_)
  clear hK K
  repeat first | (refine aops.cons fun K hK => ?_; simp [and_assoc]; (try simp (disch := omega) only [wrap64]); (repeat refine ⟨by omega, ?_⟩); refine hK _ ?_; clear hK K) | refine aops.nil ?_ | refine AW.seqR ttOK etOK ?_ | refine AW.lastR ttOK etOK ?_ | refine AW.seqSkip ?_ | refine AW.seq ?_ | refine AW.block ?_ | (refine AW.skip ?_; simp only [andThen, inBlk, ↓reduceIte]) | (refine AW.exit ?_; simp (disch := omega) only [andThen, inBlk, ↓reduceIte, Nat.reduceEqDiff]) | (guard_target =~ andThen _ _ _ _; simp only [andThen, inBlk, ↓reduceIte])
  exact AW.ret (by simp [resL, resA, resV, resVs, andThen, inBlk])
end Go.Proofs.Ab.Try
