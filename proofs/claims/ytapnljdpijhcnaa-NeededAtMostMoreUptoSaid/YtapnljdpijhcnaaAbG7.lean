/- A part of the proof of the law: it holds for all states of the abstract kind told in the first of these texts; no condition besides those its statements name. -/
import Derived.Test.YtapnljdpijhcnaaAbG5
namespace Go.Proofs.Ab.Try
open Go Go.Proofs Go.Proofs.Ab
set_option linter.unusedSimpArgs false
set_option linter.unusedVariables false
set_option maxHeartbeats 8000000
/-! ### Nodes of expressions -/
def nTakes (n : Node) : Int := if n.kind = 1 then 0 else if n.kind = 2 then 0 else if n.kind = 3 then 1 else if n.kind = 13 then 1 else if n.kind = 14 then 1 else if n.kind = 16 then 3 else if n.kind = 18 then n.num + 1 else 2
theorem good_nTakes (n : Node) (hn : n.kind = 18 → n.num ≤ 1000) (hn0 : n.kind = 18 → 0 ≤ n.num) : Good Try.prog 75 [.ag ((nodeC n).map .d)] (aI (nTakes n)) := by
  refine goodF ttOK Try.func75 (vs := [.tmp 2]) (nt := 19) rfl rfl rfl (by kernel_rfl) (by simp) trivial ?_
  repeat first | (refine aops.cons fun K hK => ?_; simp [and_assoc]; (try simp (disch := omega) only [wrap64]); (repeat refine ⟨by omega, ?_⟩); refine hK _ ?_; clear hK K) | refine aops.nil ?_ | refine AW.seqR ttOK etOK ?_ | refine AW.lastR ttOK etOK ?_ | refine AW.seqSkip ?_ | refine AW.seq ?_ | refine AW.block ?_ | (refine AW.skip ?_; simp only [andThen, inBlk, ↓reduceIte]) | (refine AW.exit ?_; simp (disch := omega) only [andThen, inBlk, ↓reduceIte, Nat.reduceEqDiff]) | (guard_target =~ andThen _ _ _ _; simp only [andThen, inBlk, ↓reduceIte])
  by_cases k1 : n.kind = 1
  · refine AW.cond _ (by rfl) (fun _ => ?_) (fun hx => absurd hx (by simp [k1]))
    repeat first | (refine aops.cons fun K hK => ?_; simp [and_assoc, k1]; (try simp (disch := omega) only [wrap64]); (repeat refine ⟨by omega, ?_⟩); refine hK _ ?_; clear hK K) | refine aops.nil ?_ | refine AW.seqR ttOK etOK ?_ | refine AW.lastR ttOK etOK ?_ | refine AW.seqSkip ?_ | refine AW.seq ?_ | refine AW.block ?_ | (refine AW.skip ?_; simp only [andThen, inBlk, ↓reduceIte]) | (refine AW.exit ?_; simp (disch := omega) only [andThen, inBlk, ↓reduceIte, Nat.reduceEqDiff]) | (guard_target =~ andThen _ _ _ _; simp only [andThen, inBlk, ↓reduceIte])
    refine AW.cond _ (by rfl) (fun _ => ?_) (fun hx => absurd hx (by simp [k1]))
    repeat first | (refine aops.cons fun K hK => ?_; simp [and_assoc]; (try simp (disch := omega) only [wrap64]); (repeat refine ⟨by omega, ?_⟩); refine hK _ ?_; clear hK K) | refine aops.nil ?_ | refine AW.seqR ttOK etOK ?_ | refine AW.lastR ttOK etOK ?_ | refine AW.seqSkip ?_ | refine AW.seq ?_ | refine AW.block ?_ | (refine AW.skip ?_; simp only [andThen, inBlk, ↓reduceIte]) | (refine AW.exit ?_; simp (disch := omega) only [andThen, inBlk, ↓reduceIte, Nat.reduceEqDiff]) | (guard_target =~ andThen _ _ _ _; simp only [andThen, inBlk, ↓reduceIte])
    exact AW.ret (by simp [resL, resA, resV, resVs, andThen, inBlk, nTakes, k1])
  refine AW.cond _ (by rfl) (fun hx => absurd hx (by simp [k1])) (fun _ => ?_)
  repeat first | (refine aops.cons fun K hK => ?_; simp [and_assoc]; (try simp (disch := omega) only [wrap64]); (repeat refine ⟨by omega, ?_⟩); refine hK _ ?_; clear hK K) | refine aops.nil ?_ | refine AW.seqR ttOK etOK ?_ | refine AW.lastR ttOK etOK ?_ | refine AW.seqSkip ?_ | refine AW.seq ?_ | refine AW.block ?_ | (refine AW.skip ?_; simp only [andThen, inBlk, ↓reduceIte]) | (refine AW.exit ?_; simp (disch := omega) only [andThen, inBlk, ↓reduceIte, Nat.reduceEqDiff]) | (guard_target =~ andThen _ _ _ _; simp only [andThen, inBlk, ↓reduceIte])
  by_cases k2 : n.kind = 2
  · refine AW.cond _ (by rfl) (fun _ => ?_) (fun hx => absurd hx (by simp [k2]))
    repeat first | (refine aops.cons fun K hK => ?_; simp [and_assoc]; (try simp (disch := omega) only [wrap64]); (repeat refine ⟨by omega, ?_⟩); refine hK _ ?_; clear hK K) | refine aops.nil ?_ | refine AW.seqR ttOK etOK ?_ | refine AW.lastR ttOK etOK ?_ | refine AW.seqSkip ?_ | refine AW.seq ?_ | refine AW.block ?_ | (refine AW.skip ?_; simp only [andThen, inBlk, ↓reduceIte]) | (refine AW.exit ?_; simp (disch := omega) only [andThen, inBlk, ↓reduceIte, Nat.reduceEqDiff]) | (guard_target =~ andThen _ _ _ _; simp only [andThen, inBlk, ↓reduceIte])
    exact AW.ret (by simp [resL, resA, resV, resVs, andThen, inBlk, nTakes, k2])
  refine AW.cond _ (by rfl) (fun hx => absurd hx (by simp [k2])) (fun _ => ?_)
  repeat first | (refine aops.cons fun K hK => ?_; simp [and_assoc]; (try simp (disch := omega) only [wrap64]); (repeat refine ⟨by omega, ?_⟩); refine hK _ ?_; clear hK K) | refine aops.nil ?_ | refine AW.seqR ttOK etOK ?_ | refine AW.lastR ttOK etOK ?_ | refine AW.seqSkip ?_ | refine AW.seq ?_ | refine AW.block ?_ | (refine AW.skip ?_; simp only [andThen, inBlk, ↓reduceIte]) | (refine AW.exit ?_; simp (disch := omega) only [andThen, inBlk, ↓reduceIte, Nat.reduceEqDiff]) | (guard_target =~ andThen _ _ _ _; simp only [andThen, inBlk, ↓reduceIte])
  by_cases k3 : n.kind = 3
  · refine AW.cond _ (by rfl) (fun _ => ?_) (fun hx => absurd hx (by simp [k3]))
    repeat first | (refine aops.cons fun K hK => ?_; simp [and_assoc, k3]; (try simp (disch := omega) only [wrap64]); (repeat refine ⟨by omega, ?_⟩); refine hK _ ?_; clear hK K) | refine aops.nil ?_ | refine AW.seqR ttOK etOK ?_ | refine AW.lastR ttOK etOK ?_ | refine AW.seqSkip ?_ | refine AW.seq ?_ | refine AW.block ?_ | (refine AW.skip ?_; simp only [andThen, inBlk, ↓reduceIte]) | (refine AW.exit ?_; simp (disch := omega) only [andThen, inBlk, ↓reduceIte, Nat.reduceEqDiff]) | (guard_target =~ andThen _ _ _ _; simp only [andThen, inBlk, ↓reduceIte])
    refine AW.cond _ (by rfl) (fun _ => ?_) (fun hx => absurd hx (by simp [k3]))
    repeat first | (refine aops.cons fun K hK => ?_; simp [and_assoc]; (try simp (disch := omega) only [wrap64]); (repeat refine ⟨by omega, ?_⟩); refine hK _ ?_; clear hK K) | refine aops.nil ?_ | refine AW.seqR ttOK etOK ?_ | refine AW.lastR ttOK etOK ?_ | refine AW.seqSkip ?_ | refine AW.seq ?_ | refine AW.block ?_ | (refine AW.skip ?_; simp only [andThen, inBlk, ↓reduceIte]) | (refine AW.exit ?_; simp (disch := omega) only [andThen, inBlk, ↓reduceIte, Nat.reduceEqDiff]) | (guard_target =~ andThen _ _ _ _; simp only [andThen, inBlk, ↓reduceIte])
    exact AW.ret (by simp [resL, resA, resV, resVs, andThen, inBlk, nTakes, k3])
  refine AW.cond _ (by rfl) (fun hx => absurd hx (by simp [k3])) (fun _ => ?_)
  repeat first | (refine aops.cons fun K hK => ?_; simp [and_assoc]; (try simp (disch := omega) only [wrap64]); (repeat refine ⟨by omega, ?_⟩); refine hK _ ?_; clear hK K) | refine aops.nil ?_ | refine AW.seqR ttOK etOK ?_ | refine AW.lastR ttOK etOK ?_ | refine AW.seqSkip ?_ | refine AW.seq ?_ | refine AW.block ?_ | (refine AW.skip ?_; simp only [andThen, inBlk, ↓reduceIte]) | (refine AW.exit ?_; simp (disch := omega) only [andThen, inBlk, ↓reduceIte, Nat.reduceEqDiff]) | (guard_target =~ andThen _ _ _ _; simp only [andThen, inBlk, ↓reduceIte])
  by_cases k13 : n.kind = 13
  · refine AW.cond _ (by rfl) (fun _ => ?_) (fun hx => absurd hx (by simp [k13]))
    repeat first | (refine aops.cons fun K hK => ?_; simp [and_assoc, k13]; (try simp (disch := omega) only [wrap64]); (repeat refine ⟨by omega, ?_⟩); refine hK _ ?_; clear hK K) | refine aops.nil ?_ | refine AW.seqR ttOK etOK ?_ | refine AW.lastR ttOK etOK ?_ | refine AW.seqSkip ?_ | refine AW.seq ?_ | refine AW.block ?_ | (refine AW.skip ?_; simp only [andThen, inBlk, ↓reduceIte]) | (refine AW.exit ?_; simp (disch := omega) only [andThen, inBlk, ↓reduceIte, Nat.reduceEqDiff]) | (guard_target =~ andThen _ _ _ _; simp only [andThen, inBlk, ↓reduceIte])
    refine AW.cond _ (by rfl) (fun _ => ?_) (fun hx => absurd hx (by simp [k13]))
    repeat first | (refine aops.cons fun K hK => ?_; simp [and_assoc]; (try simp (disch := omega) only [wrap64]); (repeat refine ⟨by omega, ?_⟩); refine hK _ ?_; clear hK K) | refine aops.nil ?_ | refine AW.seqR ttOK etOK ?_ | refine AW.lastR ttOK etOK ?_ | refine AW.seqSkip ?_ | refine AW.seq ?_ | refine AW.block ?_ | (refine AW.skip ?_; simp only [andThen, inBlk, ↓reduceIte]) | (refine AW.exit ?_; simp (disch := omega) only [andThen, inBlk, ↓reduceIte, Nat.reduceEqDiff]) | (guard_target =~ andThen _ _ _ _; simp only [andThen, inBlk, ↓reduceIte])
    exact AW.ret (by simp [resL, resA, resV, resVs, andThen, inBlk, nTakes, k13])
  refine AW.cond _ (by rfl) (fun hx => absurd hx (by simp [k13])) (fun _ => ?_)
  repeat first | (refine aops.cons fun K hK => ?_; simp [and_assoc]; (try simp (disch := omega) only [wrap64]); (repeat refine ⟨by omega, ?_⟩); refine hK _ ?_; clear hK K) | refine aops.nil ?_ | refine AW.seqR ttOK etOK ?_ | refine AW.lastR ttOK etOK ?_ | refine AW.seqSkip ?_ | refine AW.seq ?_ | refine AW.block ?_ | (refine AW.skip ?_; simp only [andThen, inBlk, ↓reduceIte]) | (refine AW.exit ?_; simp (disch := omega) only [andThen, inBlk, ↓reduceIte, Nat.reduceEqDiff]) | (guard_target =~ andThen _ _ _ _; simp only [andThen, inBlk, ↓reduceIte])
  by_cases k14 : n.kind = 14
  · refine AW.cond _ (by rfl) (fun _ => ?_) (fun hx => absurd hx (by simp [k14]))
    repeat first | (refine aops.cons fun K hK => ?_; simp [and_assoc]; (try simp (disch := omega) only [wrap64]); (repeat refine ⟨by omega, ?_⟩); refine hK _ ?_; clear hK K) | refine aops.nil ?_ | refine AW.seqR ttOK etOK ?_ | refine AW.lastR ttOK etOK ?_ | refine AW.seqSkip ?_ | refine AW.seq ?_ | refine AW.block ?_ | (refine AW.skip ?_; simp only [andThen, inBlk, ↓reduceIte]) | (refine AW.exit ?_; simp (disch := omega) only [andThen, inBlk, ↓reduceIte, Nat.reduceEqDiff]) | (guard_target =~ andThen _ _ _ _; simp only [andThen, inBlk, ↓reduceIte])
    exact AW.ret (by simp [resL, resA, resV, resVs, andThen, inBlk, nTakes, k14])
  refine AW.cond _ (by rfl) (fun hx => absurd hx (by simp [k14])) (fun _ => ?_)
  repeat first | (refine aops.cons fun K hK => ?_; simp [and_assoc]; (try simp (disch := omega) only [wrap64]); (repeat refine ⟨by omega, ?_⟩); refine hK _ ?_; clear hK K) | refine aops.nil ?_ | refine AW.seqR ttOK etOK ?_ | refine AW.lastR ttOK etOK ?_ | refine AW.seqSkip ?_ | refine AW.seq ?_ | refine AW.block ?_ | (refine AW.skip ?_; simp only [andThen, inBlk, ↓reduceIte]) | (refine AW.exit ?_; simp (disch := omega) only [andThen, inBlk, ↓reduceIte, Nat.reduceEqDiff]) | (guard_target =~ andThen _ _ _ _; simp only [andThen, inBlk, ↓reduceIte])
  by_cases k16 : n.kind = 16
  · refine AW.cond _ (by rfl) (fun _ => ?_) (fun hx => absurd hx (by simp [k16]))
    repeat first | (refine aops.cons fun K hK => ?_; simp [and_assoc]; (try simp (disch := omega) only [wrap64]); (repeat refine ⟨by omega, ?_⟩); refine hK _ ?_; clear hK K) | refine aops.nil ?_ | refine AW.seqR ttOK etOK ?_ | refine AW.lastR ttOK etOK ?_ | refine AW.seqSkip ?_ | refine AW.seq ?_ | refine AW.block ?_ | (refine AW.skip ?_; simp only [andThen, inBlk, ↓reduceIte]) | (refine AW.exit ?_; simp (disch := omega) only [andThen, inBlk, ↓reduceIte, Nat.reduceEqDiff]) | (guard_target =~ andThen _ _ _ _; simp only [andThen, inBlk, ↓reduceIte])
    exact AW.ret (by simp [resL, resA, resV, resVs, andThen, inBlk, nTakes, k16])
  refine AW.cond _ (by rfl) (fun hx => absurd hx (by simp [k16])) (fun _ => ?_)
  repeat first | (refine aops.cons fun K hK => ?_; simp [and_assoc]; (try simp (disch := omega) only [wrap64]); (repeat refine ⟨by omega, ?_⟩); refine hK _ ?_; clear hK K) | refine aops.nil ?_ | refine AW.seqR ttOK etOK ?_ | refine AW.lastR ttOK etOK ?_ | refine AW.seqSkip ?_ | refine AW.seq ?_ | refine AW.block ?_ | (refine AW.skip ?_; simp only [andThen, inBlk, ↓reduceIte]) | (refine AW.exit ?_; simp (disch := omega) only [andThen, inBlk, ↓reduceIte, Nat.reduceEqDiff]) | (guard_target =~ andThen _ _ _ _; simp only [andThen, inBlk, ↓reduceIte])
  by_cases k18 : n.kind = 18
  · have := hn k18
    have := hn0 k18
    refine AW.cond _ (by rfl) (fun _ => ?_) (fun hx => absurd hx (by simp [k18]))
    repeat first | (refine aops.cons fun K hK => ?_; simp [and_assoc]; (try simp (disch := omega) only [wrap64]); (repeat refine ⟨by omega, ?_⟩); refine hK _ ?_; clear hK K) | refine aops.nil ?_ | refine AW.seqR ttOK etOK ?_ | refine AW.lastR ttOK etOK ?_ | refine AW.seqSkip ?_ | refine AW.seq ?_ | refine AW.block ?_ | (refine AW.skip ?_; simp only [andThen, inBlk, ↓reduceIte]) | (refine AW.exit ?_; simp (disch := omega) only [andThen, inBlk, ↓reduceIte, Nat.reduceEqDiff]) | (guard_target =~ andThen _ _ _ _; simp only [andThen, inBlk, ↓reduceIte])
    exact AW.ret (by simp [resL, resA, resV, resVs, andThen, inBlk, nTakes, k18])
  refine AW.cond _ (by rfl) (fun hx => absurd hx (by simp [k18])) (fun _ => ?_)
  repeat first | (refine aops.cons fun K hK => ?_; simp [and_assoc]; (try simp (disch := omega) only [wrap64]); (repeat refine ⟨by omega, ?_⟩); refine hK _ ?_; clear hK K) | refine aops.nil ?_ | refine AW.seqR ttOK etOK ?_ | refine AW.lastR ttOK etOK ?_ | refine AW.seqSkip ?_ | refine AW.seq ?_ | refine AW.block ?_ | (refine AW.skip ?_; simp only [andThen, inBlk, ↓reduceIte]) | (refine AW.exit ?_; simp (disch := omega) only [andThen, inBlk, ↓reduceIte, Nat.reduceEqDiff]) | (guard_target =~ andThen _ _ _ _; simp only [andThen, inBlk, ↓reduceIte])
  exact AW.ret (by simp [resL, resA, resV, resVs, andThen, inBlk, nTakes, k1, k2, k3, k13, k14, k16, k18])
def allGo (kind : Int) : List Int → Bool
  | [] => true
  | k :: r => if k ≠ 0 ∧ k ≠ kind then false else allGo kind r
theorem good_all (kind : Int) (l : List Int) (hl : l.length ≤ 2000000) : Good Try.prog 82 [aI kind, .bs 1 (eI l)] (aB (allGo kind l)) := by
  refine goodF ttOK Try.func82 (vs := [.tmp 4]) (nt := 21) rfl rfl rfl (by kernel_rfl) (by simp) trivial ?_
  repeat first | (refine aops.cons fun K hK => ?_; simp [and_assoc]; (try simp (disch := omega) only [wrap64]); (repeat refine ⟨by omega, ?_⟩); refine hK _ ?_; clear hK K) | refine aops.nil ?_ | refine AW.seqR ttOK etOK ?_ | refine AW.lastR ttOK etOK ?_ | refine AW.seqSkip ?_ | refine AW.seq ?_ | refine AW.block ?_ | (refine AW.skip ?_; simp only [andThen, inBlk, ↓reduceIte]) | (refine AW.exit ?_; simp (disch := omega) only [andThen, inBlk, ↓reduceIte, Nat.reduceEqDiff]) | (guard_target =~ andThen _ _ _ _; simp only [andThen, inBlk, ↓reduceIte])
  refine AW.iterI (fun k s => s = ⟨21, [(0, aI kind), (7, .bs 1 (eI l)), (8, aI l.length), (9, aI k)], []⟩ ∧ allGo kind (l.drop k) = allGo kind l) l.length (s₀ := ⟨21, [(0, aI kind), (7, .bs 1 (eI l)), (8, aI l.length), (9, aI 0)], []⟩) ?_ ?_ ?_
  · exact Weak.to (by simp)
  · exact ⟨rfl, rfl⟩
  rintro k s hk ⟨rfl, h2⟩
  cases hd : l.drop k with
  | nil =>
    have : l.length ≤ k := by simpa using hd
    rw [hd] at h2
    repeat first | (refine aops.cons fun K hK => ?_; simp [and_assoc]; (try simp (disch := omega) only [wrap64]); (repeat refine ⟨by omega, ?_⟩); refine hK _ ?_; clear hK K) | refine aops.nil ?_ | refine AW.seqR ttOK etOK ?_ | refine AW.lastR ttOK etOK ?_ | refine AW.seqSkip ?_ | refine AW.seq ?_ | refine AW.block ?_ | (refine AW.skip ?_; simp only [andThen, inBlk, ↓reduceIte]) | (refine AW.exit ?_; simp (disch := omega) only [andThen, inBlk, ↓reduceIte, Nat.reduceEqDiff]) | (guard_target =~ andThen _ _ _ _; simp only [andThen, inBlk, ↓reduceIte])
    refine AW.cond _ (by rfl) (fun hx => absurd hx (by simp [this])) (fun _ => ?_)
    repeat first | (refine aops.cons fun K hK => ?_; simp [and_assoc]; (try simp (disch := omega) only [wrap64]); (repeat refine ⟨by omega, ?_⟩); refine hK _ ?_; clear hK K) | refine aops.nil ?_ | refine AW.seqR ttOK etOK ?_ | refine AW.lastR ttOK etOK ?_ | refine AW.seqSkip ?_ | refine AW.seq ?_ | refine AW.block ?_ | (refine AW.skip ?_; simp only [andThen, inBlk, ↓reduceIte]) | (refine AW.exit ?_; simp (disch := omega) only [andThen, inBlk, ↓reduceIte, Nat.reduceEqDiff]) | (guard_target =~ andThen _ _ _ _; simp only [andThen, inBlk, ↓reduceIte])
    exact AW.ret (by simp [resL, resA, resV, resVs, andThen, inBlk, ← h2, allGo])
  | cons x r =>
    obtain ⟨hx, hr, hlt⟩ := get_of_drop hd
    rw [hd] at h2
    repeat first | (refine aops.cons fun K hK => ?_; simp [and_assoc]; (try simp (disch := omega) only [wrap64]); (repeat refine ⟨by omega, ?_⟩); refine hK _ ?_; clear hK K) | refine aops.nil ?_ | refine AW.seqR ttOK etOK ?_ | refine AW.lastR ttOK etOK ?_ | refine AW.seqSkip ?_ | refine AW.seq ?_ | refine AW.block ?_ | (refine AW.skip ?_; simp only [andThen, inBlk, ↓reduceIte]) | (refine AW.exit ?_; simp (disch := omega) only [andThen, inBlk, ↓reduceIte, Nat.reduceEqDiff]) | (guard_target =~ andThen _ _ _ _; simp only [andThen, inBlk, ↓reduceIte])
    refine AW.cond _ (by rfl) (fun _ => ?_) (fun hx => absurd hx (by simp [hlt]))
    by_cases k0 : x = 0
    · repeat first | (refine aops.cons fun K hK => ?_; simp [and_assoc, eI_get, hx, k0]; (try simp (disch := omega) only [wrap64]); (repeat refine ⟨by omega, ?_⟩); refine hK _ ?_; clear hK K) | refine aops.nil ?_ | refine AW.seqR ttOK etOK ?_ | refine AW.lastR ttOK etOK ?_ | refine AW.seqSkip ?_ | refine AW.seq ?_ | refine AW.block ?_ | (refine AW.skip ?_; simp only [andThen, inBlk, ↓reduceIte]) | (refine AW.exit ?_; simp (disch := omega) only [andThen, inBlk, ↓reduceIte, Nat.reduceEqDiff]) | (guard_target =~ andThen _ _ _ _; simp only [andThen, inBlk, ↓reduceIte])
      refine AW.cond _ (by rfl) (fun hx => absurd hx (by simp [k0])) (fun _ => ?_)
      repeat first | (refine aops.cons fun K hK => ?_; simp [and_assoc]; (try simp (disch := omega) only [wrap64]); (repeat refine ⟨by omega, ?_⟩); refine hK _ ?_; clear hK K) | refine aops.nil ?_ | refine AW.seqR ttOK etOK ?_ | refine AW.lastR ttOK etOK ?_ | refine AW.seqSkip ?_ | refine AW.seq ?_ | refine AW.block ?_ | (refine AW.skip ?_; simp only [andThen, inBlk, ↓reduceIte]) | (refine AW.exit ?_; simp (disch := omega) only [andThen, inBlk, ↓reduceIte, Nat.reduceEqDiff]) | (guard_target =~ andThen _ _ _ _; simp only [andThen, inBlk, ↓reduceIte])
      refine ⟨hlt, ⟨21, [(0, aI kind), (7, .bs 1 (eI l)), (8, aI l.length), (9, aI (k + 1))], []⟩, Weak.to (by simp), by simp, ?_⟩
      rw [hr, ← h2]; simp [allGo, k0]
    by_cases k1 : x = kind
    · have k1' := k1.symm
      repeat first | (refine aops.cons fun K hK => ?_; simp [and_assoc, eI_get, hx, k0, k1']; (try simp (disch := omega) only [wrap64]); (repeat refine ⟨by omega, ?_⟩); refine hK _ ?_; clear hK K) | refine aops.nil ?_ | refine AW.seqR ttOK etOK ?_ | refine AW.lastR ttOK etOK ?_ | refine AW.seqSkip ?_ | refine AW.seq ?_ | refine AW.block ?_ | (refine AW.skip ?_; simp only [andThen, inBlk, ↓reduceIte]) | (refine AW.exit ?_; simp (disch := omega) only [andThen, inBlk, ↓reduceIte, Nat.reduceEqDiff]) | (guard_target =~ andThen _ _ _ _; simp only [andThen, inBlk, ↓reduceIte])
      refine AW.cond _ (by rfl) (fun hx => absurd hx (by simp [k1'])) (fun _ => ?_)
      repeat first | (refine aops.cons fun K hK => ?_; simp [and_assoc]; (try simp (disch := omega) only [wrap64]); (repeat refine ⟨by omega, ?_⟩); refine hK _ ?_; clear hK K) | refine aops.nil ?_ | refine AW.seqR ttOK etOK ?_ | refine AW.lastR ttOK etOK ?_ | refine AW.seqSkip ?_ | refine AW.seq ?_ | refine AW.block ?_ | (refine AW.skip ?_; simp only [andThen, inBlk, ↓reduceIte]) | (refine AW.exit ?_; simp (disch := omega) only [andThen, inBlk, ↓reduceIte, Nat.reduceEqDiff]) | (guard_target =~ andThen _ _ _ _; simp only [andThen, inBlk, ↓reduceIte])
      refine ⟨hlt, ⟨21, [(0, aI kind), (7, .bs 1 (eI l)), (8, aI l.length), (9, aI (k + 1))], []⟩, Weak.to (by simp [k1]), by simp, ?_⟩
      rw [hr, ← h2]; simp [allGo, k1]
    · repeat first | (refine aops.cons fun K hK => ?_; simp [and_assoc, eI_get, hx, k0, k1]; (try simp (disch := omega) only [wrap64]); (repeat refine ⟨by omega, ?_⟩); refine hK _ ?_; clear hK K) | refine aops.nil ?_ | refine AW.seqR ttOK etOK ?_ | refine AW.lastR ttOK etOK ?_ | refine AW.seqSkip ?_ | refine AW.seq ?_ | refine AW.block ?_ | (refine AW.skip ?_; simp only [andThen, inBlk, ↓reduceIte]) | (refine AW.exit ?_; simp (disch := omega) only [andThen, inBlk, ↓reduceIte, Nat.reduceEqDiff]) | (guard_target =~ andThen _ _ _ _; simp only [andThen, inBlk, ↓reduceIte])
      refine AW.cond _ (by rfl) (fun _ => ?_) (fun hx => absurd hx (by simp [k1]))
      repeat first | (refine aops.cons fun K hK => ?_; simp [and_assoc]; (try simp (disch := omega) only [wrap64]); (repeat refine ⟨by omega, ?_⟩); refine hK _ ?_; clear hK K) | refine aops.nil ?_ | refine AW.seqR ttOK etOK ?_ | refine AW.lastR ttOK etOK ?_ | refine AW.seqSkip ?_ | refine AW.seq ?_ | refine AW.block ?_ | (refine AW.skip ?_; simp only [andThen, inBlk, ↓reduceIte]) | (refine AW.exit ?_; simp (disch := omega) only [andThen, inBlk, ↓reduceIte, Nat.reduceEqDiff]) | (guard_target =~ andThen _ _ _ _; simp only [andThen, inBlk, ↓reduceIte])
      exact AW.ret (by simp [resL, resA, resV, resVs, andThen, inBlk, ← h2, allGo, k0, k1])
def oneGo (out : Int) : List Int → Int × Bool
  | [] => (out, true)
  | k :: r => if out ≠ 0 ∧ k ≠ 0 ∧ k ≠ out then (0, false) else oneGo (if out < k then k else out) r
theorem good_one (l : List Int) (hl : l.length ≤ 2000000) : Good Try.prog 83 [.bs 1 (eI l)] (.tp [aI (oneGo 0 l).1, aB (oneGo 0 l).2]) := by
  refine goodF ttOK Try.func83 (vs := [.tmp 2, .tmp 3]) (nt := 29) rfl rfl rfl (by kernel_rfl) (by simp) (by simp [dataA, dataL]) ?_
  repeat first | (refine aops.cons fun K hK => ?_; simp [and_assoc]; (try simp (disch := omega) only [wrap64]); (repeat refine ⟨by omega, ?_⟩); refine hK _ ?_; clear hK K) | refine aops.nil ?_ | refine AW.seqR ttOK etOK ?_ | refine AW.lastR ttOK etOK ?_ | refine AW.seqSkip ?_ | refine AW.seq ?_ | refine AW.block ?_ | (refine AW.skip ?_; simp only [andThen, inBlk, ↓reduceIte]) | (refine AW.exit ?_; simp (disch := omega) only [andThen, inBlk, ↓reduceIte, Nat.reduceEqDiff]) | (guard_target =~ andThen _ _ _ _; simp only [andThen, inBlk, ↓reduceIte])
  refine AW.iterI (fun k s => ∃ o, s = ⟨29, [(4, aI o), (7, .bs 1 (eI l)), (8, aI l.length), (9, aI k)], []⟩ ∧ oneGo o (l.drop k) = oneGo 0 l) l.length (s₀ := ⟨29, [(4, aI 0), (7, .bs 1 (eI l)), (8, aI l.length), (9, aI 0)], []⟩) ?_ ?_ ?_
  · exact Weak.to (by simp)
  · exact ⟨0, rfl, rfl⟩
  rintro k s hk ⟨o, rfl, h2⟩
  cases hd : l.drop k with
  | nil =>
    have : l.length ≤ k := by simpa using hd
    rw [hd] at h2
    repeat first | (refine aops.cons fun K hK => ?_; simp [and_assoc]; (try simp (disch := omega) only [wrap64]); (repeat refine ⟨by omega, ?_⟩); refine hK _ ?_; clear hK K) | refine aops.nil ?_ | refine AW.seqR ttOK etOK ?_ | refine AW.lastR ttOK etOK ?_ | refine AW.seqSkip ?_ | refine AW.seq ?_ | refine AW.block ?_ | (refine AW.skip ?_; simp only [andThen, inBlk, ↓reduceIte]) | (refine AW.exit ?_; simp (disch := omega) only [andThen, inBlk, ↓reduceIte, Nat.reduceEqDiff]) | (guard_target =~ andThen _ _ _ _; simp only [andThen, inBlk, ↓reduceIte])
    refine AW.cond _ (by rfl) (fun hx => absurd hx (by simp [this])) (fun _ => ?_)
    repeat first | (refine aops.cons fun K hK => ?_; simp [and_assoc]; (try simp (disch := omega) only [wrap64]); (repeat refine ⟨by omega, ?_⟩); refine hK _ ?_; clear hK K) | refine aops.nil ?_ | refine AW.seqR ttOK etOK ?_ | refine AW.lastR ttOK etOK ?_ | refine AW.seqSkip ?_ | refine AW.seq ?_ | refine AW.block ?_ | (refine AW.skip ?_; simp only [andThen, inBlk, ↓reduceIte]) | (refine AW.exit ?_; simp (disch := omega) only [andThen, inBlk, ↓reduceIte, Nat.reduceEqDiff]) | (guard_target =~ andThen _ _ _ _; simp only [andThen, inBlk, ↓reduceIte])
    exact AW.ret (by simp [resL, resA, resV, resVs, andThen, inBlk, ← h2, oneGo])
  | cons x r =>
    obtain ⟨hx, hr, hlt⟩ := get_of_drop hd
    rw [hd] at h2
    have fin : (¬ (o ≠ 0 ∧ x ≠ 0 ∧ x ≠ o)) → ∀ tm, Weak ⟨29, tm, []⟩ ⟨29, [(4, aI (if o < x then x else o)), (7, .bs 1 (eI l)), (8, aI l.length), (9, aI (k + 1))], []⟩ → (k < l.length ∧ ∃ s'', Weak ⟨29, tm, []⟩ s'' ∧ ∃ o', s'' = ⟨29, [(4, aI o'), (7, .bs 1 (eI l)), (8, aI l.length), (9, aI (k + 1 : Nat))], []⟩ ∧ oneGo o' (l.drop (k + 1)) = oneGo 0 l) := by
      intro hb tm hw
      refine ⟨hlt, _, hw, _, by simp; rfl, ?_⟩
      rw [hr, ← h2, oneGo, if_neg hb]
    repeat first | (refine aops.cons fun K hK => ?_; simp [and_assoc]; (try simp (disch := omega) only [wrap64]); (repeat refine ⟨by omega, ?_⟩); refine hK _ ?_; clear hK K) | refine aops.nil ?_ | refine AW.seqR ttOK etOK ?_ | refine AW.lastR ttOK etOK ?_ | refine AW.seqSkip ?_ | refine AW.seq ?_ | refine AW.block ?_ | (refine AW.skip ?_; simp only [andThen, inBlk, ↓reduceIte]) | (refine AW.exit ?_; simp (disch := omega) only [andThen, inBlk, ↓reduceIte, Nat.reduceEqDiff]) | (guard_target =~ andThen _ _ _ _; simp only [andThen, inBlk, ↓reduceIte])
    refine AW.cond _ (by rfl) (fun _ => ?_) (fun hx => absurd hx (by simp [hlt]))
    by_cases o0 : o = 0
    · repeat first | (refine aops.cons fun K hK => ?_; simp [and_assoc, eI_get, hx, o0]; (try simp (disch := omega) only [wrap64]); (repeat refine ⟨by omega, ?_⟩); refine hK _ ?_; clear hK K) | refine aops.nil ?_ | refine AW.seqR ttOK etOK ?_ | refine AW.lastR ttOK etOK ?_ | refine AW.seqSkip ?_ | refine AW.seq ?_ | refine AW.block ?_ | (refine AW.skip ?_; simp only [andThen, inBlk, ↓reduceIte]) | (refine AW.exit ?_; simp (disch := omega) only [andThen, inBlk, ↓reduceIte, Nat.reduceEqDiff]) | (guard_target =~ andThen _ _ _ _; simp only [andThen, inBlk, ↓reduceIte])
      refine AW.cond _ (by rfl) (fun hx => absurd hx (by simp [o0])) (fun _ => ?_)
      repeat first | (refine aops.cons fun K hK => ?_; simp [and_assoc]; (try simp (disch := omega) only [wrap64]); (repeat refine ⟨by omega, ?_⟩); refine hK _ ?_; clear hK K) | refine aops.nil ?_ | refine AW.seqR ttOK etOK ?_ | refine AW.lastR ttOK etOK ?_ | refine AW.seqSkip ?_ | refine AW.seq ?_ | refine AW.block ?_ | (refine AW.skip ?_; simp only [andThen, inBlk, ↓reduceIte]) | (refine AW.exit ?_; simp (disch := omega) only [andThen, inBlk, ↓reduceIte, Nat.reduceEqDiff]) | (guard_target =~ andThen _ _ _ _; simp only [andThen, inBlk, ↓reduceIte])
      refine fin (by simp [o0]) _ (Weak.to (by simp [o0]))
    by_cases k0 : x = 0
    · repeat first | (refine aops.cons fun K hK => ?_; simp [and_assoc, eI_get, hx, o0, k0]; (try simp (disch := omega) only [wrap64]); (repeat refine ⟨by omega, ?_⟩); refine hK _ ?_; clear hK K) | refine aops.nil ?_ | refine AW.seqR ttOK etOK ?_ | refine AW.lastR ttOK etOK ?_ | refine AW.seqSkip ?_ | refine AW.seq ?_ | refine AW.block ?_ | (refine AW.skip ?_; simp only [andThen, inBlk, ↓reduceIte]) | (refine AW.exit ?_; simp (disch := omega) only [andThen, inBlk, ↓reduceIte, Nat.reduceEqDiff]) | (guard_target =~ andThen _ _ _ _; simp only [andThen, inBlk, ↓reduceIte])
      refine AW.cond _ (by rfl) (fun hx => absurd hx (by simp [k0])) (fun _ => ?_)
      repeat first | (refine aops.cons fun K hK => ?_; simp [and_assoc]; (try simp (disch := omega) only [wrap64]); (repeat refine ⟨by omega, ?_⟩); refine hK _ ?_; clear hK K) | refine aops.nil ?_ | refine AW.seqR ttOK etOK ?_ | refine AW.lastR ttOK etOK ?_ | refine AW.seqSkip ?_ | refine AW.seq ?_ | refine AW.block ?_ | (refine AW.skip ?_; simp only [andThen, inBlk, ↓reduceIte]) | (refine AW.exit ?_; simp (disch := omega) only [andThen, inBlk, ↓reduceIte, Nat.reduceEqDiff]) | (guard_target =~ andThen _ _ _ _; simp only [andThen, inBlk, ↓reduceIte])
      refine fin (by simp [k0]) _ (Weak.to (by simp [k0]))
    by_cases k1 : x = o
    · repeat first | (refine aops.cons fun K hK => ?_; simp [and_assoc, eI_get, hx, o0, k0, k1]; (try simp (disch := omega) only [wrap64]); (repeat refine ⟨by omega, ?_⟩); refine hK _ ?_; clear hK K) | refine aops.nil ?_ | refine AW.seqR ttOK etOK ?_ | refine AW.lastR ttOK etOK ?_ | refine AW.seqSkip ?_ | refine AW.seq ?_ | refine AW.block ?_ | (refine AW.skip ?_; simp only [andThen, inBlk, ↓reduceIte]) | (refine AW.exit ?_; simp (disch := omega) only [andThen, inBlk, ↓reduceIte, Nat.reduceEqDiff]) | (guard_target =~ andThen _ _ _ _; simp only [andThen, inBlk, ↓reduceIte])
      refine AW.cond _ (by rfl) (fun hx => absurd hx (by simp [k1])) (fun _ => ?_)
      repeat first | (refine aops.cons fun K hK => ?_; simp [and_assoc]; (try simp (disch := omega) only [wrap64]); (repeat refine ⟨by omega, ?_⟩); refine hK _ ?_; clear hK K) | refine aops.nil ?_ | refine AW.seqR ttOK etOK ?_ | refine AW.lastR ttOK etOK ?_ | refine AW.seqSkip ?_ | refine AW.seq ?_ | refine AW.block ?_ | (refine AW.skip ?_; simp only [andThen, inBlk, ↓reduceIte]) | (refine AW.exit ?_; simp (disch := omega) only [andThen, inBlk, ↓reduceIte, Nat.reduceEqDiff]) | (guard_target =~ andThen _ _ _ _; simp only [andThen, inBlk, ↓reduceIte])
      refine fin (by simp [k1]) _ (Weak.to (by simp [k1]))
    · repeat first | (refine aops.cons fun K hK => ?_; simp [and_assoc, eI_get, hx, o0, k0, k1]; (try simp (disch := omega) only [wrap64]); (repeat refine ⟨by omega, ?_⟩); refine hK _ ?_; clear hK K) | refine aops.nil ?_ | refine AW.seqR ttOK etOK ?_ | refine AW.lastR ttOK etOK ?_ | refine AW.seqSkip ?_ | refine AW.seq ?_ | refine AW.block ?_ | (refine AW.skip ?_; simp only [andThen, inBlk, ↓reduceIte]) | (refine AW.exit ?_; simp (disch := omega) only [andThen, inBlk, ↓reduceIte, Nat.reduceEqDiff]) | (guard_target =~ andThen _ _ _ _; simp only [andThen, inBlk, ↓reduceIte])
      refine AW.cond _ (by rfl) (fun _ => ?_) (fun hx => absurd hx (by simp [k1]))
      repeat first | (refine aops.cons fun K hK => ?_; simp [and_assoc]; (try simp (disch := omega) only [wrap64]); (repeat refine ⟨by omega, ?_⟩); refine hK _ ?_; clear hK K) | refine aops.nil ?_ | refine AW.seqR ttOK etOK ?_ | refine AW.lastR ttOK etOK ?_ | refine AW.seqSkip ?_ | refine AW.seq ?_ | refine AW.block ?_ | (refine AW.skip ?_; simp only [andThen, inBlk, ↓reduceIte]) | (refine AW.exit ?_; simp (disch := omega) only [andThen, inBlk, ↓reduceIte, Nat.reduceEqDiff]) | (guard_target =~ andThen _ _ _ _; simp only [andThen, inBlk, ↓reduceIte])
      exact AW.ret (by simp [resL, resA, resV, resVs, andThen, inBlk, ← h2, oneGo, o0, k0, k1])
end Go.Proofs.Ab.Try
