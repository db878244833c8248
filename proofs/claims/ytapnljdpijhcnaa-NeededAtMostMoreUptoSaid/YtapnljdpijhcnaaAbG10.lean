/- A part of the proof of the law: it holds for all states of the abstract kind told in the first of these texts; no condition besides those its statements name. -/
import Derived.Test.YtapnljdpijhcnaaAbG9
namespace Go.Proofs.Ab.Try
open Go Go.Proofs Go.Proofs.Ab
set_option linter.unusedSimpArgs false
set_option linter.unusedVariables false
set_option maxHeartbeats 8000000
/-! ### What a node leaves -/
def leafE (c : List Col) (n : Node) (l : List Int) : Int × Bool :=
  if n.kind = 1 then (kindAt c n.num.toNat, true)
  else if n.kind = 2 then (n.value.kind, true)
  else if n.kind = 3 ∨ n.kind = 4 ∨ n.kind = 5 then (1, allGo 1 l)
  else if n.kind = 6 ∨ n.kind = 7 ∨ n.kind = 18 then (1, (oneGo 0 l).2)
  else if n.kind = 13 then (1, true)
  else if n.kind = 14 then (n.num, true)
  else if n.kind = 15 then (1, allGo 3 l)
  else if n.kind = 16 then ((oneGo 0 (l.drop 1)).1, (oneGo 0 (l.drop 1)).2 && allGo 1 (l.take 1))
  else if n.kind = 17 then oneGo 0 l
  else (2, allGo 2 l)
theorem good_leavesE (c : List Col) (n : Node) (l : List Int) (hl : l.length ≤ 2000000) (h1 : n.kind = 1 → inR n.num 0 ((c.length : Int) - 1) = true) (h16 : n.kind = 16 → l.length = 3) :
    Good Try.prog 76 [.bs 2 (c.map colC), .ag ((nodeC n).map .d), .bs 1 (eI l)] (.tp [aI (leafE c n l).1, aB (leafE c n l).2]) := by
  refine goodF ttOK Try.func76 (vs := [.tmp 6, .tmp 7]) (nt := 76) rfl rfl rfl (by kernel_rfl) (by simp) (by simp [dataA, dataL]) ?_
  repeat first | (refine aops.cons fun K hK => ?_; simp [and_assoc]; (try simp (disch := omega) only [wrap64]); (repeat refine ⟨by omega, ?_⟩); refine hK _ ?_; clear hK K) | refine aops.nil ?_ | refine AW.seqR ttOK etOK ?_ | refine AW.lastR ttOK etOK ?_ | refine AW.seqSkip ?_ | refine AW.seq ?_ | refine AW.block ?_ | (refine AW.skip ?_; simp only [andThen, inBlk, ↓reduceIte]) | (refine AW.exit ?_; simp (disch := omega) only [andThen, inBlk, ↓reduceIte, Nat.reduceEqDiff]) | (guard_target =~ andThen _ _ _ _; simp only [andThen, inBlk, ↓reduceIte])
  by_cases k1 : n.kind = 1
  · have hb := h1 k1
    simp [inR] at hb
    obtain ⟨m, hm⟩ : ∃ m : Nat, n.num = m := ⟨n.num.toNat, by omega⟩
    obtain ⟨x, hx⟩ : ∃ x, c[m]? = some x := ⟨c[m]'(by omega), List.getElem?_eq_getElem (by omega)⟩
    have hka : kindAt c m = x.kind := by simp [kindAt, hx]
    refine AW.cond _ (by rfl) (fun _ => ?_) (fun hx => absurd hx (by simp [k1]))
    repeat first | (refine aops.cons fun K hK => ?_; simp [and_assoc, hm, hx]; (try simp (disch := omega) only [wrap64]); (repeat refine ⟨by omega, ?_⟩); refine hK _ ?_; clear hK K) | refine aops.nil ?_ | refine AW.seqR ttOK etOK ?_ | refine AW.lastR ttOK etOK ?_ | refine AW.seqSkip ?_ | refine AW.seq ?_ | refine AW.block ?_ | (refine AW.skip ?_; simp only [andThen, inBlk, ↓reduceIte]) | (refine AW.exit ?_; simp (disch := omega) only [andThen, inBlk, ↓reduceIte, Nat.reduceEqDiff]) | (guard_target =~ andThen _ _ _ _; simp only [andThen, inBlk, ↓reduceIte])
    exact AW.ret (by simp [resL, resA, resV, resVs, andThen, inBlk, leafE, k1, hm, hka])
  refine AW.cond _ (by rfl) (fun hx => absurd hx (by simp [k1])) (fun _ => ?_)
  repeat first | (refine aops.cons fun K hK => ?_; simp [and_assoc]; (try simp (disch := omega) only [wrap64]); (repeat refine ⟨by omega, ?_⟩); refine hK _ ?_; clear hK K) | refine aops.nil ?_ | refine AW.seqR ttOK etOK ?_ | refine AW.lastR ttOK etOK ?_ | refine AW.seqSkip ?_ | refine AW.seq ?_ | refine AW.block ?_ | (refine AW.skip ?_; simp only [andThen, inBlk, ↓reduceIte]) | (refine AW.exit ?_; simp (disch := omega) only [andThen, inBlk, ↓reduceIte, Nat.reduceEqDiff]) | (guard_target =~ andThen _ _ _ _; simp only [andThen, inBlk, ↓reduceIte])
  by_cases k2 : n.kind = 2
  · refine AW.cond _ (by rfl) (fun _ => ?_) (fun hx => absurd hx (by simp [k2]))
    repeat first | (refine aops.cons fun K hK => ?_; simp [and_assoc]; (try simp (disch := omega) only [wrap64]); (repeat refine ⟨by omega, ?_⟩); refine hK _ ?_; clear hK K) | refine aops.nil ?_ | refine AW.seqR ttOK etOK ?_ | refine AW.lastR ttOK etOK ?_ | refine AW.seqSkip ?_ | refine AW.seq ?_ | refine AW.block ?_ | (refine AW.skip ?_; simp only [andThen, inBlk, ↓reduceIte]) | (refine AW.exit ?_; simp (disch := omega) only [andThen, inBlk, ↓reduceIte, Nat.reduceEqDiff]) | (guard_target =~ andThen _ _ _ _; simp only [andThen, inBlk, ↓reduceIte])
    exact AW.ret (by simp [resL, resA, resV, resVs, andThen, inBlk, leafE, k2])
  refine AW.cond _ (by rfl) (fun hx => absurd hx (by simp [k2])) (fun _ => ?_)
  repeat first | (refine aops.cons fun K hK => ?_; simp [and_assoc]; (try simp (disch := omega) only [wrap64]); (repeat refine ⟨by omega, ?_⟩); refine hK _ ?_; clear hK K) | refine aops.nil ?_ | refine AW.seqR ttOK etOK ?_ | refine AW.lastR ttOK etOK ?_ | refine AW.seqSkip ?_ | refine AW.seq ?_ | refine AW.block ?_ | (refine AW.skip ?_; simp only [andThen, inBlk, ↓reduceIte]) | (refine AW.exit ?_; simp (disch := omega) only [andThen, inBlk, ↓reduceIte, Nat.reduceEqDiff]) | (guard_target =~ andThen _ _ _ _; simp only [andThen, inBlk, ↓reduceIte])
  by_cases k3 : n.kind = 3
  · refine AW.cond _ (by rfl) (fun _ => ?_) (fun hx => absurd hx (by simp [k3]))
    repeat first | (refine aops.cons fun K hK => ?_; simp [and_assoc, k3]; (try simp (disch := omega) only [wrap64]); (repeat refine ⟨by omega, ?_⟩); refine hK _ ?_; clear hK K) | refine aops.nil ?_ | refine AW.seqR ttOK etOK ?_ | refine AW.lastR ttOK etOK ?_ | refine AW.seqSkip ?_ | refine AW.seq ?_ | refine AW.block ?_ | (refine AW.skip ?_; simp only [andThen, inBlk, ↓reduceIte]) | (refine AW.exit ?_; simp (disch := omega) only [andThen, inBlk, ↓reduceIte, Nat.reduceEqDiff]) | (guard_target =~ andThen _ _ _ _; simp only [andThen, inBlk, ↓reduceIte])
    refine AW.cond _ (by rfl) (fun _ => ?_) (fun hx => absurd hx (by simp [k3]))
    repeat first | (refine aops.cons fun K hK => ?_; simp [and_assoc]; (try simp (disch := omega) only [wrap64]); (repeat refine ⟨by omega, ?_⟩); refine hK _ ?_; clear hK K) | refine aops.nil ?_ | refine AW.seqR ttOK etOK ?_ | refine AW.lastR ttOK etOK ?_ | refine AW.seqSkip ?_ | refine AW.seq ?_ | refine AW.block ?_ | (refine AW.skip ?_; simp only [andThen, inBlk, ↓reduceIte]) | (refine AW.exit ?_; simp (disch := omega) only [andThen, inBlk, ↓reduceIte, Nat.reduceEqDiff]) | (guard_target =~ andThen _ _ _ _; simp only [andThen, inBlk, ↓reduceIte])
    refine aops.cons fun K hK => ?_
    simp [and_assoc]
    refine callA (good_all 1 l hl) (by repeat' constructor) (hK _ ?_)
    clear hK K
    repeat first | (refine aops.cons fun K hK => ?_; simp [and_assoc]; (try simp (disch := omega) only [wrap64]); (repeat refine ⟨by omega, ?_⟩); refine hK _ ?_; clear hK K) | refine aops.nil ?_ | refine AW.seqR ttOK etOK ?_ | refine AW.lastR ttOK etOK ?_ | refine AW.seqSkip ?_ | refine AW.seq ?_ | refine AW.block ?_ | (refine AW.skip ?_; simp only [andThen, inBlk, ↓reduceIte]) | (refine AW.exit ?_; simp (disch := omega) only [andThen, inBlk, ↓reduceIte, Nat.reduceEqDiff]) | (guard_target =~ andThen _ _ _ _; simp only [andThen, inBlk, ↓reduceIte])
    exact AW.ret (by simp [resL, resA, resV, resVs, andThen, inBlk, leafE, k3])
  refine AW.cond _ (by rfl) (fun hx => absurd hx (by simp [k3])) (fun _ => ?_)
  repeat first | (refine aops.cons fun K hK => ?_; simp [and_assoc]; (try simp (disch := omega) only [wrap64]); (repeat refine ⟨by omega, ?_⟩); refine hK _ ?_; clear hK K) | refine aops.nil ?_ | refine AW.seqR ttOK etOK ?_ | refine AW.lastR ttOK etOK ?_ | refine AW.seqSkip ?_ | refine AW.seq ?_ | refine AW.block ?_ | (refine AW.skip ?_; simp only [andThen, inBlk, ↓reduceIte]) | (refine AW.exit ?_; simp (disch := omega) only [andThen, inBlk, ↓reduceIte, Nat.reduceEqDiff]) | (guard_target =~ andThen _ _ _ _; simp only [andThen, inBlk, ↓reduceIte])
  by_cases k4 : n.kind = 4
  · refine AW.cond _ (by rfl) (fun _ => ?_) (fun hx => absurd hx (by simp [k4]))
    repeat first | (refine aops.cons fun K hK => ?_; simp [and_assoc, k4]; (try simp (disch := omega) only [wrap64]); (repeat refine ⟨by omega, ?_⟩); refine hK _ ?_; clear hK K) | refine aops.nil ?_ | refine AW.seqR ttOK etOK ?_ | refine AW.lastR ttOK etOK ?_ | refine AW.seqSkip ?_ | refine AW.seq ?_ | refine AW.block ?_ | (refine AW.skip ?_; simp only [andThen, inBlk, ↓reduceIte]) | (refine AW.exit ?_; simp (disch := omega) only [andThen, inBlk, ↓reduceIte, Nat.reduceEqDiff]) | (guard_target =~ andThen _ _ _ _; simp only [andThen, inBlk, ↓reduceIte])
    refine AW.cond _ (by rfl) (fun _ => ?_) (fun hx => absurd hx (by simp [k4]))
    repeat first | (refine aops.cons fun K hK => ?_; simp [and_assoc]; (try simp (disch := omega) only [wrap64]); (repeat refine ⟨by omega, ?_⟩); refine hK _ ?_; clear hK K) | refine aops.nil ?_ | refine AW.seqR ttOK etOK ?_ | refine AW.lastR ttOK etOK ?_ | refine AW.seqSkip ?_ | refine AW.seq ?_ | refine AW.block ?_ | (refine AW.skip ?_; simp only [andThen, inBlk, ↓reduceIte]) | (refine AW.exit ?_; simp (disch := omega) only [andThen, inBlk, ↓reduceIte, Nat.reduceEqDiff]) | (guard_target =~ andThen _ _ _ _; simp only [andThen, inBlk, ↓reduceIte])
    refine aops.cons fun K hK => ?_
    simp [and_assoc]
    refine callA (good_all 1 l hl) (by repeat' constructor) (hK _ ?_)
    clear hK K
    repeat first | (refine aops.cons fun K hK => ?_; simp [and_assoc]; (try simp (disch := omega) only [wrap64]); (repeat refine ⟨by omega, ?_⟩); refine hK _ ?_; clear hK K) | refine aops.nil ?_ | refine AW.seqR ttOK etOK ?_ | refine AW.lastR ttOK etOK ?_ | refine AW.seqSkip ?_ | refine AW.seq ?_ | refine AW.block ?_ | (refine AW.skip ?_; simp only [andThen, inBlk, ↓reduceIte]) | (refine AW.exit ?_; simp (disch := omega) only [andThen, inBlk, ↓reduceIte, Nat.reduceEqDiff]) | (guard_target =~ andThen _ _ _ _; simp only [andThen, inBlk, ↓reduceIte])
    exact AW.ret (by simp [resL, resA, resV, resVs, andThen, inBlk, leafE, k4])
  refine AW.cond _ (by rfl) (fun hx => absurd hx (by simp [k4])) (fun _ => ?_)
  repeat first | (refine aops.cons fun K hK => ?_; simp [and_assoc]; (try simp (disch := omega) only [wrap64]); (repeat refine ⟨by omega, ?_⟩); refine hK _ ?_; clear hK K) | refine aops.nil ?_ | refine AW.seqR ttOK etOK ?_ | refine AW.lastR ttOK etOK ?_ | refine AW.seqSkip ?_ | refine AW.seq ?_ | refine AW.block ?_ | (refine AW.skip ?_; simp only [andThen, inBlk, ↓reduceIte]) | (refine AW.exit ?_; simp (disch := omega) only [andThen, inBlk, ↓reduceIte, Nat.reduceEqDiff]) | (guard_target =~ andThen _ _ _ _; simp only [andThen, inBlk, ↓reduceIte])
  by_cases k5 : n.kind = 5
  · repeat first | (refine aops.cons fun K hK => ?_; simp [and_assoc, k5]; (try simp (disch := omega) only [wrap64]); (repeat refine ⟨by omega, ?_⟩); refine hK _ ?_; clear hK K) | refine aops.nil ?_ | refine AW.seqR ttOK etOK ?_ | refine AW.lastR ttOK etOK ?_ | refine AW.seqSkip ?_ | refine AW.seq ?_ | refine AW.block ?_ | (refine AW.skip ?_; simp only [andThen, inBlk, ↓reduceIte]) | (refine AW.exit ?_; simp (disch := omega) only [andThen, inBlk, ↓reduceIte, Nat.reduceEqDiff]) | (guard_target =~ andThen _ _ _ _; simp only [andThen, inBlk, ↓reduceIte])
    refine AW.cond _ (by rfl) (fun _ => ?_) (fun hx => absurd hx (by simp [k5]))
    repeat first | (refine aops.cons fun K hK => ?_; simp [and_assoc]; (try simp (disch := omega) only [wrap64]); (repeat refine ⟨by omega, ?_⟩); refine hK _ ?_; clear hK K) | refine aops.nil ?_ | refine AW.seqR ttOK etOK ?_ | refine AW.lastR ttOK etOK ?_ | refine AW.seqSkip ?_ | refine AW.seq ?_ | refine AW.block ?_ | (refine AW.skip ?_; simp only [andThen, inBlk, ↓reduceIte]) | (refine AW.exit ?_; simp (disch := omega) only [andThen, inBlk, ↓reduceIte, Nat.reduceEqDiff]) | (guard_target =~ andThen _ _ _ _; simp only [andThen, inBlk, ↓reduceIte])
    refine aops.cons fun K hK => ?_
    simp [and_assoc]
    refine callA (good_all 1 l hl) (by repeat' constructor) (hK _ ?_)
    clear hK K
    repeat first | (refine aops.cons fun K hK => ?_; simp [and_assoc]; (try simp (disch := omega) only [wrap64]); (repeat refine ⟨by omega, ?_⟩); refine hK _ ?_; clear hK K) | refine aops.nil ?_ | refine AW.seqR ttOK etOK ?_ | refine AW.lastR ttOK etOK ?_ | refine AW.seqSkip ?_ | refine AW.seq ?_ | refine AW.block ?_ | (refine AW.skip ?_; simp only [andThen, inBlk, ↓reduceIte]) | (refine AW.exit ?_; simp (disch := omega) only [andThen, inBlk, ↓reduceIte, Nat.reduceEqDiff]) | (guard_target =~ andThen _ _ _ _; simp only [andThen, inBlk, ↓reduceIte])
    exact AW.ret (by simp [resL, resA, resV, resVs, andThen, inBlk, leafE, k5])
  refine AW.cond _ (by rfl) (fun hx => absurd hx (by simp [k5])) (fun _ => ?_)
  repeat first | (refine aops.cons fun K hK => ?_; simp [and_assoc]; (try simp (disch := omega) only [wrap64]); (repeat refine ⟨by omega, ?_⟩); refine hK _ ?_; clear hK K) | refine aops.nil ?_ | refine AW.seqR ttOK etOK ?_ | refine AW.lastR ttOK etOK ?_ | refine AW.seqSkip ?_ | refine AW.seq ?_ | refine AW.block ?_ | (refine AW.skip ?_; simp only [andThen, inBlk, ↓reduceIte]) | (refine AW.exit ?_; simp (disch := omega) only [andThen, inBlk, ↓reduceIte, Nat.reduceEqDiff]) | (guard_target =~ andThen _ _ _ _; simp only [andThen, inBlk, ↓reduceIte])
  by_cases k6 : n.kind = 6
  · refine AW.cond _ (by rfl) (fun _ => ?_) (fun hx => absurd hx (by simp [k6]))
    repeat first | (refine aops.cons fun K hK => ?_; simp [and_assoc, k6]; (try simp (disch := omega) only [wrap64]); (repeat refine ⟨by omega, ?_⟩); refine hK _ ?_; clear hK K) | refine aops.nil ?_ | refine AW.seqR ttOK etOK ?_ | refine AW.lastR ttOK etOK ?_ | refine AW.seqSkip ?_ | refine AW.seq ?_ | refine AW.block ?_ | (refine AW.skip ?_; simp only [andThen, inBlk, ↓reduceIte]) | (refine AW.exit ?_; simp (disch := omega) only [andThen, inBlk, ↓reduceIte, Nat.reduceEqDiff]) | (guard_target =~ andThen _ _ _ _; simp only [andThen, inBlk, ↓reduceIte])
    refine AW.cond _ (by rfl) (fun _ => ?_) (fun hx => absurd hx (by simp [k6]))
    repeat first | (refine aops.cons fun K hK => ?_; simp [and_assoc]; (try simp (disch := omega) only [wrap64]); (repeat refine ⟨by omega, ?_⟩); refine hK _ ?_; clear hK K) | refine aops.nil ?_ | refine AW.seqR ttOK etOK ?_ | refine AW.lastR ttOK etOK ?_ | refine AW.seqSkip ?_ | refine AW.seq ?_ | refine AW.block ?_ | (refine AW.skip ?_; simp only [andThen, inBlk, ↓reduceIte]) | (refine AW.exit ?_; simp (disch := omega) only [andThen, inBlk, ↓reduceIte, Nat.reduceEqDiff]) | (guard_target =~ andThen _ _ _ _; simp only [andThen, inBlk, ↓reduceIte])
    refine aops.cons fun K hK => ?_
    simp [and_assoc]
    refine callA (good_one l hl) (by repeat' constructor) (hK _ ?_)
    clear hK K
    repeat first | (refine aops.cons fun K hK => ?_; simp [and_assoc]; (try simp (disch := omega) only [wrap64]); (repeat refine ⟨by omega, ?_⟩); refine hK _ ?_; clear hK K) | refine aops.nil ?_ | refine AW.seqR ttOK etOK ?_ | refine AW.lastR ttOK etOK ?_ | refine AW.seqSkip ?_ | refine AW.seq ?_ | refine AW.block ?_ | (refine AW.skip ?_; simp only [andThen, inBlk, ↓reduceIte]) | (refine AW.exit ?_; simp (disch := omega) only [andThen, inBlk, ↓reduceIte, Nat.reduceEqDiff]) | (guard_target =~ andThen _ _ _ _; simp only [andThen, inBlk, ↓reduceIte])
    exact AW.ret (by simp [resL, resA, resV, resVs, andThen, inBlk, leafE, k6])
  refine AW.cond _ (by rfl) (fun hx => absurd hx (by simp [k6])) (fun _ => ?_)
  repeat first | (refine aops.cons fun K hK => ?_; simp [and_assoc]; (try simp (disch := omega) only [wrap64]); (repeat refine ⟨by omega, ?_⟩); refine hK _ ?_; clear hK K) | refine aops.nil ?_ | refine AW.seqR ttOK etOK ?_ | refine AW.lastR ttOK etOK ?_ | refine AW.seqSkip ?_ | refine AW.seq ?_ | refine AW.block ?_ | (refine AW.skip ?_; simp only [andThen, inBlk, ↓reduceIte]) | (refine AW.exit ?_; simp (disch := omega) only [andThen, inBlk, ↓reduceIte, Nat.reduceEqDiff]) | (guard_target =~ andThen _ _ _ _; simp only [andThen, inBlk, ↓reduceIte])
  by_cases k7 : n.kind = 7
  · refine AW.cond _ (by rfl) (fun _ => ?_) (fun hx => absurd hx (by simp [k7]))
    repeat first | (refine aops.cons fun K hK => ?_; simp [and_assoc, k7]; (try simp (disch := omega) only [wrap64]); (repeat refine ⟨by omega, ?_⟩); refine hK _ ?_; clear hK K) | refine aops.nil ?_ | refine AW.seqR ttOK etOK ?_ | refine AW.lastR ttOK etOK ?_ | refine AW.seqSkip ?_ | refine AW.seq ?_ | refine AW.block ?_ | (refine AW.skip ?_; simp only [andThen, inBlk, ↓reduceIte]) | (refine AW.exit ?_; simp (disch := omega) only [andThen, inBlk, ↓reduceIte, Nat.reduceEqDiff]) | (guard_target =~ andThen _ _ _ _; simp only [andThen, inBlk, ↓reduceIte])
    refine AW.cond _ (by rfl) (fun _ => ?_) (fun hx => absurd hx (by simp [k7]))
    repeat first | (refine aops.cons fun K hK => ?_; simp [and_assoc]; (try simp (disch := omega) only [wrap64]); (repeat refine ⟨by omega, ?_⟩); refine hK _ ?_; clear hK K) | refine aops.nil ?_ | refine AW.seqR ttOK etOK ?_ | refine AW.lastR ttOK etOK ?_ | refine AW.seqSkip ?_ | refine AW.seq ?_ | refine AW.block ?_ | (refine AW.skip ?_; simp only [andThen, inBlk, ↓reduceIte]) | (refine AW.exit ?_; simp (disch := omega) only [andThen, inBlk, ↓reduceIte, Nat.reduceEqDiff]) | (guard_target =~ andThen _ _ _ _; simp only [andThen, inBlk, ↓reduceIte])
    refine aops.cons fun K hK => ?_
    simp [and_assoc]
    refine callA (good_one l hl) (by repeat' constructor) (hK _ ?_)
    clear hK K
    repeat first | (refine aops.cons fun K hK => ?_; simp [and_assoc]; (try simp (disch := omega) only [wrap64]); (repeat refine ⟨by omega, ?_⟩); refine hK _ ?_; clear hK K) | refine aops.nil ?_ | refine AW.seqR ttOK etOK ?_ | refine AW.lastR ttOK etOK ?_ | refine AW.seqSkip ?_ | refine AW.seq ?_ | refine AW.block ?_ | (refine AW.skip ?_; simp only [andThen, inBlk, ↓reduceIte]) | (refine AW.exit ?_; simp (disch := omega) only [andThen, inBlk, ↓reduceIte, Nat.reduceEqDiff]) | (guard_target =~ andThen _ _ _ _; simp only [andThen, inBlk, ↓reduceIte])
    exact AW.ret (by simp [resL, resA, resV, resVs, andThen, inBlk, leafE, k7])
  refine AW.cond _ (by rfl) (fun hx => absurd hx (by simp [k7])) (fun _ => ?_)
  repeat first | (refine aops.cons fun K hK => ?_; simp [and_assoc]; (try simp (disch := omega) only [wrap64]); (repeat refine ⟨by omega, ?_⟩); refine hK _ ?_; clear hK K) | refine aops.nil ?_ | refine AW.seqR ttOK etOK ?_ | refine AW.lastR ttOK etOK ?_ | refine AW.seqSkip ?_ | refine AW.seq ?_ | refine AW.block ?_ | (refine AW.skip ?_; simp only [andThen, inBlk, ↓reduceIte]) | (refine AW.exit ?_; simp (disch := omega) only [andThen, inBlk, ↓reduceIte, Nat.reduceEqDiff]) | (guard_target =~ andThen _ _ _ _; simp only [andThen, inBlk, ↓reduceIte])
  by_cases k18 : n.kind = 18
  · repeat first | (refine aops.cons fun K hK => ?_; simp [and_assoc, k18]; (try simp (disch := omega) only [wrap64]); (repeat refine ⟨by omega, ?_⟩); refine hK _ ?_; clear hK K) | refine aops.nil ?_ | refine AW.seqR ttOK etOK ?_ | refine AW.lastR ttOK etOK ?_ | refine AW.seqSkip ?_ | refine AW.seq ?_ | refine AW.block ?_ | (refine AW.skip ?_; simp only [andThen, inBlk, ↓reduceIte]) | (refine AW.exit ?_; simp (disch := omega) only [andThen, inBlk, ↓reduceIte, Nat.reduceEqDiff]) | (guard_target =~ andThen _ _ _ _; simp only [andThen, inBlk, ↓reduceIte])
    refine AW.cond _ (by rfl) (fun _ => ?_) (fun hx => absurd hx (by simp [k18]))
    repeat first | (refine aops.cons fun K hK => ?_; simp [and_assoc]; (try simp (disch := omega) only [wrap64]); (repeat refine ⟨by omega, ?_⟩); refine hK _ ?_; clear hK K) | refine aops.nil ?_ | refine AW.seqR ttOK etOK ?_ | refine AW.lastR ttOK etOK ?_ | refine AW.seqSkip ?_ | refine AW.seq ?_ | refine AW.block ?_ | (refine AW.skip ?_; simp only [andThen, inBlk, ↓reduceIte]) | (refine AW.exit ?_; simp (disch := omega) only [andThen, inBlk, ↓reduceIte, Nat.reduceEqDiff]) | (guard_target =~ andThen _ _ _ _; simp only [andThen, inBlk, ↓reduceIte])
    refine aops.cons fun K hK => ?_
    simp [and_assoc]
    refine callA (good_one l hl) (by repeat' constructor) (hK _ ?_)
    clear hK K
    repeat first | (refine aops.cons fun K hK => ?_; simp [and_assoc]; (try simp (disch := omega) only [wrap64]); (repeat refine ⟨by omega, ?_⟩); refine hK _ ?_; clear hK K) | refine aops.nil ?_ | refine AW.seqR ttOK etOK ?_ | refine AW.lastR ttOK etOK ?_ | refine AW.seqSkip ?_ | refine AW.seq ?_ | refine AW.block ?_ | (refine AW.skip ?_; simp only [andThen, inBlk, ↓reduceIte]) | (refine AW.exit ?_; simp (disch := omega) only [andThen, inBlk, ↓reduceIte, Nat.reduceEqDiff]) | (guard_target =~ andThen _ _ _ _; simp only [andThen, inBlk, ↓reduceIte])
    exact AW.ret (by simp [resL, resA, resV, resVs, andThen, inBlk, leafE, k18])
  refine AW.cond _ (by rfl) (fun hx => absurd hx (by simp [k18])) (fun _ => ?_)
  repeat first | (refine aops.cons fun K hK => ?_; simp [and_assoc]; (try simp (disch := omega) only [wrap64]); (repeat refine ⟨by omega, ?_⟩); refine hK _ ?_; clear hK K) | refine aops.nil ?_ | refine AW.seqR ttOK etOK ?_ | refine AW.lastR ttOK etOK ?_ | refine AW.seqSkip ?_ | refine AW.seq ?_ | refine AW.block ?_ | (refine AW.skip ?_; simp only [andThen, inBlk, ↓reduceIte]) | (refine AW.exit ?_; simp (disch := omega) only [andThen, inBlk, ↓reduceIte, Nat.reduceEqDiff]) | (guard_target =~ andThen _ _ _ _; simp only [andThen, inBlk, ↓reduceIte])
  by_cases k13 : n.kind = 13
  · refine AW.cond _ (by rfl) (fun _ => ?_) (fun hx => absurd hx (by simp [k13]))
    repeat first | (refine aops.cons fun K hK => ?_; simp [and_assoc]; (try simp (disch := omega) only [wrap64]); (repeat refine ⟨by omega, ?_⟩); refine hK _ ?_; clear hK K) | refine aops.nil ?_ | refine AW.seqR ttOK etOK ?_ | refine AW.lastR ttOK etOK ?_ | refine AW.seqSkip ?_ | refine AW.seq ?_ | refine AW.block ?_ | (refine AW.skip ?_; simp only [andThen, inBlk, ↓reduceIte]) | (refine AW.exit ?_; simp (disch := omega) only [andThen, inBlk, ↓reduceIte, Nat.reduceEqDiff]) | (guard_target =~ andThen _ _ _ _; simp only [andThen, inBlk, ↓reduceIte])
    exact AW.ret (by simp [resL, resA, resV, resVs, andThen, inBlk, leafE, k13])
  refine AW.cond _ (by rfl) (fun hx => absurd hx (by simp [k13])) (fun _ => ?_)
  repeat first | (refine aops.cons fun K hK => ?_; simp [and_assoc]; (try simp (disch := omega) only [wrap64]); (repeat refine ⟨by omega, ?_⟩); refine hK _ ?_; clear hK K) | refine aops.nil ?_ | refine AW.seqR ttOK etOK ?_ | refine AW.lastR ttOK etOK ?_ | refine AW.seqSkip ?_ | refine AW.seq ?_ | refine AW.block ?_ | (refine AW.skip ?_; simp only [andThen, inBlk, ↓reduceIte]) | (refine AW.exit ?_; simp (disch := omega) only [andThen, inBlk, ↓reduceIte, Nat.reduceEqDiff]) | (guard_target =~ andThen _ _ _ _; simp only [andThen, inBlk, ↓reduceIte])
  by_cases k14 : n.kind = 14
  · refine AW.cond _ (by rfl) (fun _ => ?_) (fun hx => absurd hx (by simp [k14]))
    repeat first | (refine aops.cons fun K hK => ?_; simp [and_assoc]; (try simp (disch := omega) only [wrap64]); (repeat refine ⟨by omega, ?_⟩); refine hK _ ?_; clear hK K) | refine aops.nil ?_ | refine AW.seqR ttOK etOK ?_ | refine AW.lastR ttOK etOK ?_ | refine AW.seqSkip ?_ | refine AW.seq ?_ | refine AW.block ?_ | (refine AW.skip ?_; simp only [andThen, inBlk, ↓reduceIte]) | (refine AW.exit ?_; simp (disch := omega) only [andThen, inBlk, ↓reduceIte, Nat.reduceEqDiff]) | (guard_target =~ andThen _ _ _ _; simp only [andThen, inBlk, ↓reduceIte])
    exact AW.ret (by simp [resL, resA, resV, resVs, andThen, inBlk, leafE, k14])
  refine AW.cond _ (by rfl) (fun hx => absurd hx (by simp [k14])) (fun _ => ?_)
  repeat first | (refine aops.cons fun K hK => ?_; simp [and_assoc]; (try simp (disch := omega) only [wrap64]); (repeat refine ⟨by omega, ?_⟩); refine hK _ ?_; clear hK K) | refine aops.nil ?_ | refine AW.seqR ttOK etOK ?_ | refine AW.lastR ttOK etOK ?_ | refine AW.seqSkip ?_ | refine AW.seq ?_ | refine AW.block ?_ | (refine AW.skip ?_; simp only [andThen, inBlk, ↓reduceIte]) | (refine AW.exit ?_; simp (disch := omega) only [andThen, inBlk, ↓reduceIte, Nat.reduceEqDiff]) | (guard_target =~ andThen _ _ _ _; simp only [andThen, inBlk, ↓reduceIte])
  by_cases k15 : n.kind = 15
  · refine AW.cond _ (by rfl) (fun _ => ?_) (fun hx => absurd hx (by simp [k15]))
    repeat first | (refine aops.cons fun K hK => ?_; simp [and_assoc]; (try simp (disch := omega) only [wrap64]); (repeat refine ⟨by omega, ?_⟩); refine hK _ ?_; clear hK K) | refine aops.nil ?_ | refine AW.seqR ttOK etOK ?_ | refine AW.lastR ttOK etOK ?_ | refine AW.seqSkip ?_ | refine AW.seq ?_ | refine AW.block ?_ | (refine AW.skip ?_; simp only [andThen, inBlk, ↓reduceIte]) | (refine AW.exit ?_; simp (disch := omega) only [andThen, inBlk, ↓reduceIte, Nat.reduceEqDiff]) | (guard_target =~ andThen _ _ _ _; simp only [andThen, inBlk, ↓reduceIte])
    refine aops.cons fun K hK => ?_
    simp [and_assoc]
    refine callA (good_all 3 l hl) (by repeat' constructor) (hK _ ?_)
    clear hK K
    repeat first | (refine aops.cons fun K hK => ?_; simp [and_assoc]; (try simp (disch := omega) only [wrap64]); (repeat refine ⟨by omega, ?_⟩); refine hK _ ?_; clear hK K) | refine aops.nil ?_ | refine AW.seqR ttOK etOK ?_ | refine AW.lastR ttOK etOK ?_ | refine AW.seqSkip ?_ | refine AW.seq ?_ | refine AW.block ?_ | (refine AW.skip ?_; simp only [andThen, inBlk, ↓reduceIte]) | (refine AW.exit ?_; simp (disch := omega) only [andThen, inBlk, ↓reduceIte, Nat.reduceEqDiff]) | (guard_target =~ andThen _ _ _ _; simp only [andThen, inBlk, ↓reduceIte])
    exact AW.ret (by simp [resL, resA, resV, resVs, andThen, inBlk, leafE, k15])
  refine AW.cond _ (by rfl) (fun hx => absurd hx (by simp [k15])) (fun _ => ?_)
  repeat first | (refine aops.cons fun K hK => ?_; simp [and_assoc]; (try simp (disch := omega) only [wrap64]); (repeat refine ⟨by omega, ?_⟩); refine hK _ ?_; clear hK K) | refine aops.nil ?_ | refine AW.seqR ttOK etOK ?_ | refine AW.lastR ttOK etOK ?_ | refine AW.seqSkip ?_ | refine AW.seq ?_ | refine AW.block ?_ | (refine AW.skip ?_; simp only [andThen, inBlk, ↓reduceIte]) | (refine AW.exit ?_; simp (disch := omega) only [andThen, inBlk, ↓reduceIte, Nat.reduceEqDiff]) | (guard_target =~ andThen _ _ _ _; simp only [andThen, inBlk, ↓reduceIte])
  by_cases k16 : n.kind = 16
  · have h3 := h16 k16
    obtain ⟨a, b, d, rfl⟩ : ∃ a b d, l = [a, b, d] := by
      match l, h3 with
      | [a, b, d], _ => exact ⟨a, b, d, rfl⟩
    refine AW.cond _ (by rfl) (fun _ => ?_) (fun hx => absurd hx (by simp [k16]))
    repeat first | (refine aops.cons fun K hK => ?_; simp [and_assoc, eI_drop, eI_take]; (try simp (disch := omega) only [wrap64]); (repeat refine ⟨by omega, ?_⟩); refine hK _ ?_; clear hK K) | refine aops.nil ?_ | refine AW.seqR ttOK etOK ?_ | refine AW.lastR ttOK etOK ?_ | refine AW.seqSkip ?_ | refine AW.seq ?_ | refine AW.block ?_ | (refine AW.skip ?_; simp only [andThen, inBlk, ↓reduceIte]) | (refine AW.exit ?_; simp (disch := omega) only [andThen, inBlk, ↓reduceIte, Nat.reduceEqDiff]) | (guard_target =~ andThen _ _ _ _; simp only [andThen, inBlk, ↓reduceIte])
    refine aops.cons fun K hK => ?_
    simp [and_assoc, eI_drop, eI_take]
    refine callA (good_one [b, d] (by simp)) (by repeat' constructor) (hK _ ?_)
    clear hK K
    repeat first | (refine aops.cons fun K hK => ?_; simp [and_assoc]; (try simp (disch := omega) only [wrap64]); (repeat refine ⟨by omega, ?_⟩); refine hK _ ?_; clear hK K) | refine aops.nil ?_ | refine AW.seqR ttOK etOK ?_ | refine AW.lastR ttOK etOK ?_ | refine AW.seqSkip ?_ | refine AW.seq ?_ | refine AW.block ?_ | (refine AW.skip ?_; simp only [andThen, inBlk, ↓reduceIte]) | (refine AW.exit ?_; simp (disch := omega) only [andThen, inBlk, ↓reduceIte, Nat.reduceEqDiff]) | (guard_target =~ andThen _ _ _ _; simp only [andThen, inBlk, ↓reduceIte])
    by_cases ho : (oneGo 0 [b, d]).2 = true
    · repeat first | (refine aops.cons fun K hK => ?_; simp [and_assoc, ho, eI_drop, eI_take]; (try simp (disch := omega) only [wrap64]); (repeat refine ⟨by omega, ?_⟩); refine hK _ ?_; clear hK K) | refine aops.nil ?_ | refine AW.seqR ttOK etOK ?_ | refine AW.lastR ttOK etOK ?_ | refine AW.seqSkip ?_ | refine AW.seq ?_ | refine AW.block ?_ | (refine AW.skip ?_; simp only [andThen, inBlk, ↓reduceIte]) | (refine AW.exit ?_; simp (disch := omega) only [andThen, inBlk, ↓reduceIte, Nat.reduceEqDiff]) | (guard_target =~ andThen _ _ _ _; simp only [andThen, inBlk, ↓reduceIte])
      refine aops.cons fun K hK => ?_
      simp [and_assoc, ho, eI_drop, eI_take]
      refine callA (good_all 1 [a] (by simp)) (by repeat' constructor) (hK _ ?_)
      clear hK K
      repeat first | (refine aops.cons fun K hK => ?_; simp [and_assoc, ho]; (try simp (disch := omega) only [wrap64]); (repeat refine ⟨by omega, ?_⟩); refine hK _ ?_; clear hK K) | refine aops.nil ?_ | refine AW.seqR ttOK etOK ?_ | refine AW.lastR ttOK etOK ?_ | refine AW.seqSkip ?_ | refine AW.seq ?_ | refine AW.block ?_ | (refine AW.skip ?_; simp only [andThen, inBlk, ↓reduceIte]) | (refine AW.exit ?_; simp (disch := omega) only [andThen, inBlk, ↓reduceIte, Nat.reduceEqDiff]) | (guard_target =~ andThen _ _ _ _; simp only [andThen, inBlk, ↓reduceIte])
      exact AW.ret (by simp [resL, resA, resV, resVs, andThen, inBlk, leafE, k16, ho])
    · repeat first | (refine aops.cons fun K hK => ?_; simp [and_assoc, ho]; (try simp (disch := omega) only [wrap64]); (repeat refine ⟨by omega, ?_⟩); refine hK _ ?_; clear hK K) | refine aops.nil ?_ | refine AW.seqR ttOK etOK ?_ | refine AW.lastR ttOK etOK ?_ | refine AW.seqSkip ?_ | refine AW.seq ?_ | refine AW.block ?_ | (refine AW.skip ?_; simp only [andThen, inBlk, ↓reduceIte]) | (refine AW.exit ?_; simp (disch := omega) only [andThen, inBlk, ↓reduceIte, Nat.reduceEqDiff]) | (guard_target =~ andThen _ _ _ _; simp only [andThen, inBlk, ↓reduceIte])
      exact AW.ret (by simp [resL, resA, resV, resVs, andThen, inBlk, leafE, k16, ho])
  refine AW.cond _ (by rfl) (fun hx => absurd hx (by simp [k16])) (fun _ => ?_)
  repeat first | (refine aops.cons fun K hK => ?_; simp [and_assoc]; (try simp (disch := omega) only [wrap64]); (repeat refine ⟨by omega, ?_⟩); refine hK _ ?_; clear hK K) | refine aops.nil ?_ | refine AW.seqR ttOK etOK ?_ | refine AW.lastR ttOK etOK ?_ | refine AW.seqSkip ?_ | refine AW.seq ?_ | refine AW.block ?_ | (refine AW.skip ?_; simp only [andThen, inBlk, ↓reduceIte]) | (refine AW.exit ?_; simp (disch := omega) only [andThen, inBlk, ↓reduceIte, Nat.reduceEqDiff]) | (guard_target =~ andThen _ _ _ _; simp only [andThen, inBlk, ↓reduceIte])
  by_cases k17 : n.kind = 17
  · refine AW.cond _ (by rfl) (fun _ => ?_) (fun hx => absurd hx (by simp [k17]))
    repeat first | (refine aops.cons fun K hK => ?_; simp [and_assoc]; (try simp (disch := omega) only [wrap64]); (repeat refine ⟨by omega, ?_⟩); refine hK _ ?_; clear hK K) | refine aops.nil ?_ | refine AW.seqR ttOK etOK ?_ | refine AW.lastR ttOK etOK ?_ | refine AW.seqSkip ?_ | refine AW.seq ?_ | refine AW.block ?_ | (refine AW.skip ?_; simp only [andThen, inBlk, ↓reduceIte]) | (refine AW.exit ?_; simp (disch := omega) only [andThen, inBlk, ↓reduceIte, Nat.reduceEqDiff]) | (guard_target =~ andThen _ _ _ _; simp only [andThen, inBlk, ↓reduceIte])
    refine aops.cons fun K hK => ?_
    simp [and_assoc]
    refine callA (good_one l hl) (by repeat' constructor) (hK _ ?_)
    clear hK K
    repeat first | (refine aops.cons fun K hK => ?_; simp [and_assoc]; (try simp (disch := omega) only [wrap64]); (repeat refine ⟨by omega, ?_⟩); refine hK _ ?_; clear hK K) | refine aops.nil ?_ | refine AW.seqR ttOK etOK ?_ | refine AW.lastR ttOK etOK ?_ | refine AW.seqSkip ?_ | refine AW.seq ?_ | refine AW.block ?_ | (refine AW.skip ?_; simp only [andThen, inBlk, ↓reduceIte]) | (refine AW.exit ?_; simp (disch := omega) only [andThen, inBlk, ↓reduceIte, Nat.reduceEqDiff]) | (guard_target =~ andThen _ _ _ _; simp only [andThen, inBlk, ↓reduceIte])
    exact AW.ret (by simp [resL, resA, resV, resVs, andThen, inBlk, leafE, k17])
  refine AW.cond _ (by rfl) (fun hx => absurd hx (by simp [k17])) (fun _ => ?_)
  repeat first | (refine aops.cons fun K hK => ?_; simp [and_assoc]; (try simp (disch := omega) only [wrap64]); (repeat refine ⟨by omega, ?_⟩); refine hK _ ?_; clear hK K) | refine aops.nil ?_ | refine AW.seqR ttOK etOK ?_ | refine AW.lastR ttOK etOK ?_ | refine AW.seqSkip ?_ | refine AW.seq ?_ | refine AW.block ?_ | (refine AW.skip ?_; simp only [andThen, inBlk, ↓reduceIte]) | (refine AW.exit ?_; simp (disch := omega) only [andThen, inBlk, ↓reduceIte, Nat.reduceEqDiff]) | (guard_target =~ andThen _ _ _ _; simp only [andThen, inBlk, ↓reduceIte])
  refine aops.cons fun K hK => ?_
  simp [and_assoc]
  refine callA (good_all 2 l hl) (by repeat' constructor) (hK _ ?_)
  clear hK K
  repeat first | (refine aops.cons fun K hK => ?_; simp [and_assoc]; (try simp (disch := omega) only [wrap64]); (repeat refine ⟨by omega, ?_⟩); refine hK _ ?_; clear hK K) | refine aops.nil ?_ | refine AW.seqR ttOK etOK ?_ | refine AW.lastR ttOK etOK ?_ | refine AW.seqSkip ?_ | refine AW.seq ?_ | refine AW.block ?_ | (refine AW.skip ?_; simp only [andThen, inBlk, ↓reduceIte]) | (refine AW.exit ?_; simp (disch := omega) only [andThen, inBlk, ↓reduceIte, Nat.reduceEqDiff]) | (guard_target =~ andThen _ _ _ _; simp only [andThen, inBlk, ↓reduceIte])
  exact AW.ret (by simp [resL, resA, resV, resVs, andThen, inBlk, leafE, k1, k2, k3, k4, k5, k6, k7, k18, k13, k14, k15, k16, k17])
end Go.Proofs.Ab.Try
