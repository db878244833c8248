/- A part of the proof of the law: it holds for all states of the abstract kind told in the first of these texts; no condition besides those its statements name. -/
import Derived.Test.YtapnljdpijhcnaaAbG15
namespace Go.Proofs.Ab.Try
open Go Go.Proofs Go.Proofs.Ab
set_option linter.unusedSimpArgs false
set_option linter.unusedVariables false
set_option maxHeartbeats 8000000
/-! ### Spare fields -/
def sp (n sk : Int) (nm : ByteArray) (l : Nat) : Bool := decide (n ≠ 0) || (decide (sk ≠ 0) || (!(nm.toList == []) || decide (0 < l)))
def noS : ByteArray := ⟨#[]⟩
def spareB (s : PStep) : Bool :=
  if s.kind = 1 then sp s.num s.skip noS (s.exprs.length + s.names.length + s.cols.length + s.keys.length + s.aggs.length)
  else if s.kind = 2 then sp s.num s.skip s.name (s.names.length + s.cols.length + s.keys.length + s.aggs.length)
  else if s.kind = 3 then sp s.num s.skip s.name (s.cols.length + s.keys.length + s.aggs.length)
  else if s.kind = 4 then sp 0 s.skip s.name (s.names.length + s.cols.length + s.keys.length + s.aggs.length)
  else if s.kind = 5 then sp s.num s.skip s.name (s.exprs.length + s.names.length + s.keys.length)
  else if s.kind = 6 then sp s.num s.skip s.name (s.exprs.length + s.names.length + s.cols.length + s.aggs.length)
  else if s.kind = 7 then sp 0 0 s.name (s.exprs.length + s.names.length + s.cols.length + s.keys.length + s.aggs.length)
  else sp s.num s.skip s.name (s.exprs.length + s.names.length + s.cols.length + s.keys.length + s.aggs.length)
def spareI (s : PStep) (s' : St) : Prop := ∃ (n sk : Int) (nm : ByteArray) (E4 E5 E6 E7 E8 : List (List D)), s' = ⟨67, [(3, .pt 3 0)], [(3, .var [aI s.kind, aI n, aI sk, .d (.v (.string nm)), .d (.sl 1 E4), .d (.sl 1 E5), .d (.sl 1 E6), .d (.sl 3 E7), .d (.sl 3 E8)])]⟩ ∧
  E4.length ≤ 2000000 ∧ E5.length ≤ 2000000 ∧ E6.length ≤ 2000000 ∧ E7.length ≤ 2000000 ∧ E8.length ≤ 2000000 ∧ sp n sk nm (E4.length + E5.length + E6.length + E7.length + E8.length) = spareB s
theorem good_spare (s : PStep) (hs : smStep s) : Good Try.prog 29 [aStep s] (aB (spareB s)) := by
  have b4 := hs.exprs.1
  have b5 := hs.names.1
  have b6 := hs.cols
  have b7 := hs.keys
  have b8 := hs.aggs.1
  refine goodF ttOK Try.func29 (vs := [.tmp 2]) (nt := 67) rfl rfl rfl (by kernel_rfl) (by simp) trivial ?_
  repeat first | (refine aops.cons fun K hK => ?_; simp [and_assoc]; (try simp (disch := omega) only [wrap64]); (repeat refine ⟨by omega, ?_⟩); refine hK _ ?_; clear hK K) | refine aops.nil ?_ | refine AW.seqR ttOK etOK ?_ | refine AW.lastR ttOK etOK ?_ | refine AW.seqSkip ?_ | refine AW.seq ?_ | refine AW.block ?_ | (refine AW.skip ?_; simp only [andThen, inBlk, ↓reduceIte]) | (refine AW.exit ?_; simp (disch := omega) only [andThen, inBlk, ↓reduceIte, Nat.reduceEqDiff]) | (guard_target =~ andThen _ _ _ _; simp only [andThen, inBlk, ↓reduceIte])
  refine AW.joinB (spareI s) ?_ ?_
  · by_cases k1 : s.kind = 1
    · refine AW.cond _ (by rfl) (fun _ => ?_) (fun hx => absurd hx (by simp [k1]))
      repeat first | (refine aops.cons fun K hK => ?_; simp [and_assoc]; (try simp (disch := omega) only [wrap64]); (repeat refine ⟨by omega, ?_⟩); refine hK _ ?_; clear hK K) | refine aops.nil ?_ | refine AW.seqR ttOK etOK ?_ | refine AW.lastR ttOK etOK ?_ | refine AW.seqSkip ?_ | refine AW.seq ?_ | refine AW.block ?_ | (refine AW.skip ?_; simp only [andThen, inBlk, ↓reduceIte]) | (refine AW.exit ?_; simp (disch := omega) only [andThen, inBlk, ↓reduceIte, Nat.reduceEqDiff]) | (guard_target =~ andThen _ _ _ _; simp only [andThen, inBlk, ↓reduceIte])
      refine ⟨_, ?_, s.num, s.skip, noS, s.exprs.map exprC, eS s.names, eI s.cols, s.keys.map keyC, s.aggs.map aggC, rfl, by simpa using b4, by simpa using b5, by simpa using b6, by simpa using b7, by simpa using b8, ?_⟩
      · refine Weak.thenE (Weak.killE _ 1) (by simp; rfl) ?_
        exact Weak.to2 (by simp [noS]) (by simp)
      · simp [spareB, k1]
    refine AW.cond _ (by rfl) (fun hx => absurd hx (by simp [k1])) (fun _ => ?_)
    repeat first | (refine aops.cons fun K hK => ?_; simp [and_assoc]; (try simp (disch := omega) only [wrap64]); (repeat refine ⟨by omega, ?_⟩); refine hK _ ?_; clear hK K) | refine aops.nil ?_ | refine AW.seqR ttOK etOK ?_ | refine AW.lastR ttOK etOK ?_ | refine AW.seqSkip ?_ | refine AW.seq ?_ | refine AW.block ?_ | (refine AW.skip ?_; simp only [andThen, inBlk, ↓reduceIte]) | (refine AW.exit ?_; simp (disch := omega) only [andThen, inBlk, ↓reduceIte, Nat.reduceEqDiff]) | (guard_target =~ andThen _ _ _ _; simp only [andThen, inBlk, ↓reduceIte])
    by_cases k2 : s.kind = 2
    · refine AW.cond _ (by rfl) (fun _ => ?_) (fun hx => absurd hx (by simp [k2]))
      repeat first | (refine aops.cons fun K hK => ?_; simp [and_assoc]; (try simp (disch := omega) only [wrap64]); (repeat refine ⟨by omega, ?_⟩); refine hK _ ?_; clear hK K) | refine aops.nil ?_ | refine AW.seqR ttOK etOK ?_ | refine AW.lastR ttOK etOK ?_ | refine AW.seqSkip ?_ | refine AW.seq ?_ | refine AW.block ?_ | (refine AW.skip ?_; simp only [andThen, inBlk, ↓reduceIte]) | (refine AW.exit ?_; simp (disch := omega) only [andThen, inBlk, ↓reduceIte, Nat.reduceEqDiff]) | (guard_target =~ andThen _ _ _ _; simp only [andThen, inBlk, ↓reduceIte])
      refine ⟨_, ?_, s.num, s.skip, s.name, [], eS s.names, eI s.cols, s.keys.map keyC, s.aggs.map aggC, rfl, by simp, by simpa using b5, by simpa using b6, by simpa using b7, by simpa using b8, ?_⟩
      · refine Weak.thenE (Weak.nilV _ 3 4 1 (by rfl) (by rfl)) (by simp; rfl) ?_
        refine Weak.thenE (Weak.killE _ 1) (by simp; rfl) ?_
        exact Weak.to2 (by simp) (by simp)
      · simp [spareB, k2]
    refine AW.cond _ (by rfl) (fun hx => absurd hx (by simp [k2])) (fun _ => ?_)
    repeat first | (refine aops.cons fun K hK => ?_; simp [and_assoc]; (try simp (disch := omega) only [wrap64]); (repeat refine ⟨by omega, ?_⟩); refine hK _ ?_; clear hK K) | refine aops.nil ?_ | refine AW.seqR ttOK etOK ?_ | refine AW.lastR ttOK etOK ?_ | refine AW.seqSkip ?_ | refine AW.seq ?_ | refine AW.block ?_ | (refine AW.skip ?_; simp only [andThen, inBlk, ↓reduceIte]) | (refine AW.exit ?_; simp (disch := omega) only [andThen, inBlk, ↓reduceIte, Nat.reduceEqDiff]) | (guard_target =~ andThen _ _ _ _; simp only [andThen, inBlk, ↓reduceIte])
    by_cases k3 : s.kind = 3
    · refine AW.cond _ (by rfl) (fun _ => ?_) (fun hx => absurd hx (by simp [k3]))
      repeat first | (refine aops.cons fun K hK => ?_; simp [and_assoc]; (try simp (disch := omega) only [wrap64]); (repeat refine ⟨by omega, ?_⟩); refine hK _ ?_; clear hK K) | refine aops.nil ?_ | refine AW.seqR ttOK etOK ?_ | refine AW.lastR ttOK etOK ?_ | refine AW.seqSkip ?_ | refine AW.seq ?_ | refine AW.block ?_ | (refine AW.skip ?_; simp only [andThen, inBlk, ↓reduceIte]) | (refine AW.exit ?_; simp (disch := omega) only [andThen, inBlk, ↓reduceIte, Nat.reduceEqDiff]) | (guard_target =~ andThen _ _ _ _; simp only [andThen, inBlk, ↓reduceIte])
      refine ⟨_, ?_, s.num, s.skip, s.name, [], [], eI s.cols, s.keys.map keyC, s.aggs.map aggC, rfl, by simp, by simp, by simpa using b6, by simpa using b7, by simpa using b8, ?_⟩
      · refine Weak.thenE (Weak.nilV _ 3 4 1 (by rfl) (by rfl)) (by simp; rfl) ?_
        refine Weak.thenE (Weak.nilV _ 3 5 1 (by rfl) (by rfl)) (by simp; rfl) ?_
        refine Weak.thenE (Weak.killE _ 1) (by simp; rfl) ?_
        exact Weak.to2 (by simp) (by simp)
      · simp [spareB, k3]
    refine AW.cond _ (by rfl) (fun hx => absurd hx (by simp [k3])) (fun _ => ?_)
    repeat first | (refine aops.cons fun K hK => ?_; simp [and_assoc]; (try simp (disch := omega) only [wrap64]); (repeat refine ⟨by omega, ?_⟩); refine hK _ ?_; clear hK K) | refine aops.nil ?_ | refine AW.seqR ttOK etOK ?_ | refine AW.lastR ttOK etOK ?_ | refine AW.seqSkip ?_ | refine AW.seq ?_ | refine AW.block ?_ | (refine AW.skip ?_; simp only [andThen, inBlk, ↓reduceIte]) | (refine AW.exit ?_; simp (disch := omega) only [andThen, inBlk, ↓reduceIte, Nat.reduceEqDiff]) | (guard_target =~ andThen _ _ _ _; simp only [andThen, inBlk, ↓reduceIte])
    by_cases k4 : s.kind = 4
    · refine AW.cond _ (by rfl) (fun _ => ?_) (fun hx => absurd hx (by simp [k4]))
      repeat first | (refine aops.cons fun K hK => ?_; simp [and_assoc]; (try simp (disch := omega) only [wrap64]); (repeat refine ⟨by omega, ?_⟩); refine hK _ ?_; clear hK K) | refine aops.nil ?_ | refine AW.seqR ttOK etOK ?_ | refine AW.lastR ttOK etOK ?_ | refine AW.seqSkip ?_ | refine AW.seq ?_ | refine AW.block ?_ | (refine AW.skip ?_; simp only [andThen, inBlk, ↓reduceIte]) | (refine AW.exit ?_; simp (disch := omega) only [andThen, inBlk, ↓reduceIte, Nat.reduceEqDiff]) | (guard_target =~ andThen _ _ _ _; simp only [andThen, inBlk, ↓reduceIte])
      refine ⟨_, ?_, 0, s.skip, s.name, [], eS s.names, eI s.cols, s.keys.map keyC, s.aggs.map aggC, rfl, by simp, by simpa using b5, by simpa using b6, by simpa using b7, by simpa using b8, ?_⟩
      · refine Weak.thenE (Weak.nilV _ 3 4 1 (by rfl) (by rfl)) (by simp; rfl) ?_
        refine Weak.thenE (Weak.killE _ 1) (by simp; rfl) ?_
        exact Weak.to2 (by simp) (by simp)
      · simp [spareB, k4]
    refine AW.cond _ (by rfl) (fun hx => absurd hx (by simp [k4])) (fun _ => ?_)
    repeat first | (refine aops.cons fun K hK => ?_; simp [and_assoc]; (try simp (disch := omega) only [wrap64]); (repeat refine ⟨by omega, ?_⟩); refine hK _ ?_; clear hK K) | refine aops.nil ?_ | refine AW.seqR ttOK etOK ?_ | refine AW.lastR ttOK etOK ?_ | refine AW.seqSkip ?_ | refine AW.seq ?_ | refine AW.block ?_ | (refine AW.skip ?_; simp only [andThen, inBlk, ↓reduceIte]) | (refine AW.exit ?_; simp (disch := omega) only [andThen, inBlk, ↓reduceIte, Nat.reduceEqDiff]) | (guard_target =~ andThen _ _ _ _; simp only [andThen, inBlk, ↓reduceIte])
    by_cases k5 : s.kind = 5
    · refine AW.cond _ (by rfl) (fun _ => ?_) (fun hx => absurd hx (by simp [k5]))
      repeat first | (refine aops.cons fun K hK => ?_; simp [and_assoc]; (try simp (disch := omega) only [wrap64]); (repeat refine ⟨by omega, ?_⟩); refine hK _ ?_; clear hK K) | refine aops.nil ?_ | refine AW.seqR ttOK etOK ?_ | refine AW.lastR ttOK etOK ?_ | refine AW.seqSkip ?_ | refine AW.seq ?_ | refine AW.block ?_ | (refine AW.skip ?_; simp only [andThen, inBlk, ↓reduceIte]) | (refine AW.exit ?_; simp (disch := omega) only [andThen, inBlk, ↓reduceIte, Nat.reduceEqDiff]) | (guard_target =~ andThen _ _ _ _; simp only [andThen, inBlk, ↓reduceIte])
      refine ⟨_, ?_, s.num, s.skip, s.name, s.exprs.map exprC, eS s.names, [], s.keys.map keyC, [], rfl, by simpa using b4, by simpa using b5, by simp, by simpa using b7, by simp, ?_⟩
      · refine Weak.thenE (Weak.nilV _ 3 6 1 (by rfl) (by rfl)) (by simp; rfl) ?_
        refine Weak.thenE (Weak.nilV _ 3 8 3 (by rfl) (by rfl)) (by simp; rfl) ?_
        refine Weak.thenE (Weak.killE _ 1) (by simp; rfl) ?_
        exact Weak.to2 (by simp) (by simp)
      · simp [spareB, k5]
    refine AW.cond _ (by rfl) (fun hx => absurd hx (by simp [k5])) (fun _ => ?_)
    repeat first | (refine aops.cons fun K hK => ?_; simp [and_assoc]; (try simp (disch := omega) only [wrap64]); (repeat refine ⟨by omega, ?_⟩); refine hK _ ?_; clear hK K) | refine aops.nil ?_ | refine AW.seqR ttOK etOK ?_ | refine AW.lastR ttOK etOK ?_ | refine AW.seqSkip ?_ | refine AW.seq ?_ | refine AW.block ?_ | (refine AW.skip ?_; simp only [andThen, inBlk, ↓reduceIte]) | (refine AW.exit ?_; simp (disch := omega) only [andThen, inBlk, ↓reduceIte, Nat.reduceEqDiff]) | (guard_target =~ andThen _ _ _ _; simp only [andThen, inBlk, ↓reduceIte])
    by_cases k6 : s.kind = 6
    · refine AW.cond _ (by rfl) (fun _ => ?_) (fun hx => absurd hx (by simp [k6]))
      repeat first | (refine aops.cons fun K hK => ?_; simp [and_assoc]; (try simp (disch := omega) only [wrap64]); (repeat refine ⟨by omega, ?_⟩); refine hK _ ?_; clear hK K) | refine aops.nil ?_ | refine AW.seqR ttOK etOK ?_ | refine AW.lastR ttOK etOK ?_ | refine AW.seqSkip ?_ | refine AW.seq ?_ | refine AW.block ?_ | (refine AW.skip ?_; simp only [andThen, inBlk, ↓reduceIte]) | (refine AW.exit ?_; simp (disch := omega) only [andThen, inBlk, ↓reduceIte, Nat.reduceEqDiff]) | (guard_target =~ andThen _ _ _ _; simp only [andThen, inBlk, ↓reduceIte])
      refine ⟨_, ?_, s.num, s.skip, s.name, s.exprs.map exprC, eS s.names, eI s.cols, [], s.aggs.map aggC, rfl, by simpa using b4, by simpa using b5, by simpa using b6, by simp, by simpa using b8, ?_⟩
      · refine Weak.thenE (Weak.nilV _ 3 7 3 (by rfl) (by rfl)) (by simp; rfl) ?_
        refine Weak.thenE (Weak.killE _ 1) (by simp; rfl) ?_
        exact Weak.to2 (by simp) (by simp)
      · simp [spareB, k6]
    refine AW.cond _ (by rfl) (fun hx => absurd hx (by simp [k6])) (fun _ => ?_)
    repeat first | (refine aops.cons fun K hK => ?_; simp [and_assoc]; (try simp (disch := omega) only [wrap64]); (repeat refine ⟨by omega, ?_⟩); refine hK _ ?_; clear hK K) | refine aops.nil ?_ | refine AW.seqR ttOK etOK ?_ | refine AW.lastR ttOK etOK ?_ | refine AW.seqSkip ?_ | refine AW.seq ?_ | refine AW.block ?_ | (refine AW.skip ?_; simp only [andThen, inBlk, ↓reduceIte]) | (refine AW.exit ?_; simp (disch := omega) only [andThen, inBlk, ↓reduceIte, Nat.reduceEqDiff]) | (guard_target =~ andThen _ _ _ _; simp only [andThen, inBlk, ↓reduceIte])
    by_cases k7 : s.kind = 7
    · refine AW.cond _ (by rfl) (fun _ => ?_) (fun hx => absurd hx (by simp [k7]))
      repeat first | (refine aops.cons fun K hK => ?_; simp [and_assoc]; (try simp (disch := omega) only [wrap64]); (repeat refine ⟨by omega, ?_⟩); refine hK _ ?_; clear hK K) | refine aops.nil ?_ | refine AW.seqR ttOK etOK ?_ | refine AW.lastR ttOK etOK ?_ | refine AW.seqSkip ?_ | refine AW.seq ?_ | refine AW.block ?_ | (refine AW.skip ?_; simp only [andThen, inBlk, ↓reduceIte]) | (refine AW.exit ?_; simp (disch := omega) only [andThen, inBlk, ↓reduceIte, Nat.reduceEqDiff]) | (guard_target =~ andThen _ _ _ _; simp only [andThen, inBlk, ↓reduceIte])
      refine ⟨_, ?_, 0, 0, s.name, s.exprs.map exprC, eS s.names, eI s.cols, s.keys.map keyC, s.aggs.map aggC, rfl, by simpa using b4, by simpa using b5, by simpa using b6, by simpa using b7, by simpa using b8, ?_⟩
      · refine Weak.thenE (Weak.killE _ 1) (by simp; rfl) ?_
        exact Weak.to2 (by simp) (by simp)
      · simp [spareB, k7]
    refine AW.cond _ (by rfl) (fun hx => absurd hx (by simp [k7])) (fun _ => ?_)
    repeat first | (refine aops.cons fun K hK => ?_; simp [and_assoc]; (try simp (disch := omega) only [wrap64]); (repeat refine ⟨by omega, ?_⟩); refine hK _ ?_; clear hK K) | refine aops.nil ?_ | refine AW.seqR ttOK etOK ?_ | refine AW.lastR ttOK etOK ?_ | refine AW.seqSkip ?_ | refine AW.seq ?_ | refine AW.block ?_ | (refine AW.skip ?_; simp only [andThen, inBlk, ↓reduceIte]) | (refine AW.exit ?_; simp (disch := omega) only [andThen, inBlk, ↓reduceIte, Nat.reduceEqDiff]) | (guard_target =~ andThen _ _ _ _; simp only [andThen, inBlk, ↓reduceIte])
    refine ⟨_, ?_, s.num, s.skip, s.name, s.exprs.map exprC, eS s.names, eI s.cols, s.keys.map keyC, s.aggs.map aggC, rfl, by simpa using b4, by simpa using b5, by simpa using b6, by simpa using b7, by simpa using b8, ?_⟩
    · refine Weak.thenE (Weak.killE _ 1) (by simp; rfl) ?_
      exact Weak.to2 (by simp) (by simp)
    · simp [spareB, k1, k2, k3, k4, k5, k6, k7]
  · rintro s'' ⟨n, sk, nm, E4, E5, E6, E7, E8, rfl, c4, c5, c6, c7, c8, hsp⟩
    rw [← hsp]
    by_cases n0 : n = 0
    rotate_left
    · repeat first | (refine aops.cons fun K hK => ?_; simp [and_assoc, n0]; (try simp (disch := omega) only [wrap64]); (repeat refine ⟨by omega, ?_⟩); refine hK _ ?_; clear hK K) | refine aops.nil ?_ | refine AW.seqR ttOK etOK ?_ | refine AW.lastR ttOK etOK ?_ | refine AW.seqSkip ?_ | refine AW.seq ?_ | refine AW.block ?_ | (refine AW.skip ?_; simp only [andThen, inBlk, ↓reduceIte]) | (refine AW.exit ?_; simp (disch := omega) only [andThen, inBlk, ↓reduceIte, Nat.reduceEqDiff]) | (guard_target =~ andThen _ _ _ _; simp only [andThen, inBlk, ↓reduceIte])
      exact AW.ret (by simp [resL, resA, resV, resVs, andThen, inBlk, sp, n0])
    by_cases s0 : sk = 0
    rotate_left
    · repeat first | (refine aops.cons fun K hK => ?_; simp [and_assoc, n0, s0]; (try simp (disch := omega) only [wrap64]); (repeat refine ⟨by omega, ?_⟩); refine hK _ ?_; clear hK K) | refine aops.nil ?_ | refine AW.seqR ttOK etOK ?_ | refine AW.lastR ttOK etOK ?_ | refine AW.seqSkip ?_ | refine AW.seq ?_ | refine AW.block ?_ | (refine AW.skip ?_; simp only [andThen, inBlk, ↓reduceIte]) | (refine AW.exit ?_; simp (disch := omega) only [andThen, inBlk, ↓reduceIte, Nat.reduceEqDiff]) | (guard_target =~ andThen _ _ _ _; simp only [andThen, inBlk, ↓reduceIte])
      exact AW.ret (by simp [resL, resA, resV, resVs, andThen, inBlk, sp, n0, s0])
    by_cases t0 : nm.toList = []
    rotate_left
    · repeat first | (refine aops.cons fun K hK => ?_; simp [and_assoc, n0, s0, t0]; (try simp (disch := omega) only [wrap64]); (repeat refine ⟨by omega, ?_⟩); refine hK _ ?_; clear hK K) | refine aops.nil ?_ | refine AW.seqR ttOK etOK ?_ | refine AW.lastR ttOK etOK ?_ | refine AW.seqSkip ?_ | refine AW.seq ?_ | refine AW.block ?_ | (refine AW.skip ?_; simp only [andThen, inBlk, ↓reduceIte]) | (refine AW.exit ?_; simp (disch := omega) only [andThen, inBlk, ↓reduceIte, Nat.reduceEqDiff]) | (guard_target =~ andThen _ _ _ _; simp only [andThen, inBlk, ↓reduceIte])
      exact AW.ret (by simp [resL, resA, resV, resVs, andThen, inBlk, sp, n0, s0, t0])
    have e : ((E4.length : Int) + E5.length + E6.length + E7.length + E8.length > 0) ↔ 0 < E4.length + E5.length + E6.length + E7.length + E8.length := by omega
    repeat first | (refine aops.cons fun K hK => ?_; simp [and_assoc, n0, s0, t0]; (try simp (disch := omega) only [wrap64]); (repeat refine ⟨by omega, ?_⟩); refine hK _ ?_; clear hK K) | refine aops.nil ?_ | refine AW.seqR ttOK etOK ?_ | refine AW.lastR ttOK etOK ?_ | refine AW.seqSkip ?_ | refine AW.seq ?_ | refine AW.block ?_ | (refine AW.skip ?_; simp only [andThen, inBlk, ↓reduceIte]) | (refine AW.exit ?_; simp (disch := omega) only [andThen, inBlk, ↓reduceIte, Nat.reduceEqDiff]) | (guard_target =~ andThen _ _ _ _; simp only [andThen, inBlk, ↓reduceIte])
    by_cases l0 : 0 < E4.length + E5.length + E6.length + E7.length + E8.length
    · have l0' : (0 : Int) < (E4.length : Int) + E5.length + E6.length + E7.length + E8.length := by omega
      exact AW.ret (by simp [resL, resA, resV, resVs, andThen, inBlk, sp, n0, s0, t0, l0, l0'])
    · have l0' : ¬ (0 : Int) < (E4.length : Int) + E5.length + E6.length + E7.length + E8.length := by omega
      exact AW.ret (by simp [resL, resA, resV, resVs, andThen, inBlk, sp, n0, s0, t0, l0, l0'])
end Go.Proofs.Ab.Try
