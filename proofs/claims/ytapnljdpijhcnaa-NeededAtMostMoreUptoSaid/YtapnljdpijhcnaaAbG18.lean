/- A part of the proof of the law: it holds for all states of the abstract kind told in the first of these texts; no condition besides those its statements name. -/
import Derived.Test.YtapnljdpijhcnaaAbG13
namespace Go.Proofs.Ab.Try
open Go Go.Proofs Go.Proofs.Ab
set_option linter.unusedSimpArgs false
set_option linter.unusedVariables false
set_option maxHeartbeats 8000000
/-! ### Columns that are asked -/
theorem setOf_le (l : List Int) : (setOf l).length ≤ l.length := by
  unfold setOf
  exact Nat.le_trans (Lib.compact_length_le _) (by simp)
def colsIn : List Node → List Int
  | [] => []
  | n :: r => if n.kind = 1 then n.num :: colsIn r else colsIn r
def usedE (e : List Node) : List Int := setOf (colsIn e)
theorem colsIn_app (a b : List Node) : colsIn (a ++ b) = colsIn a ++ colsIn b := by
  induction a with
  | nil => rfl
  | cons n r ih => simp only [List.cons_append, colsIn, ih]; split <;> rfl
theorem colsIn_le (e : List Node) : (colsIn e).length ≤ e.length := by
  induction e with
  | nil => simp [colsIn]
  | cons n r ih => simp only [colsIn]; split <;> simp <;> omega
theorem good_Used (e : List Node) (he : e.length ≤ 2000000) : Good Try.prog 17 [.ag ((exprC e).map .d)] (.d (.sl 1 (eI (usedE e)))) := by
  refine goodF ttOK Try.func17 (vs := [.tmp 2]) (nt := 26) rfl rfl rfl (by kernel_rfl) (by simp) trivial ?_
  repeat first | (refine aops.cons fun K hK => ?_; simp [and_assoc]; (try simp (disch := omega) only [wrap64]); (repeat refine ⟨by omega, ?_⟩); refine hK _ ?_; clear hK K) | refine aops.nil ?_ | refine AW.seqR ttOK etOK ?_ | refine AW.lastR ttOK etOK ?_ | refine AW.seqSkip ?_ | refine AW.seq ?_ | refine AW.block ?_ | (refine AW.skip ?_; simp only [andThen, inBlk, ↓reduceIte]) | (refine AW.exit ?_; simp (disch := omega) only [andThen, inBlk, ↓reduceIte, Nat.reduceEqDiff]) | (guard_target =~ andThen _ _ _ _; simp only [andThen, inBlk, ↓reduceIte])
  refine AW.iterI (fun k s => s = ⟨26, [(3, .ms 20 1 0 (colsIn (e.take k)).length), (7, .d (.sl 5 (e.map nodeC))), (8, aI e.length), (9, aI k)], [(20, .arr 1 (eI (colsIn (e.take k))))]⟩) e.length (s₀ := ⟨26, [(3, .ms 20 1 0 0), (7, .d (.sl 5 (e.map nodeC))), (8, aI e.length), (9, aI 0)], [(20, .arr 1 (eI []))]⟩) ?_ ?_ ?_
  · refine Weak.thenE (Weak.own _ 3 20 1 (by rfl) (by rfl)) (by simp; rfl) ?_
    refine Weak.thenE (Weak.killE _ 1) (by simp; rfl) ?_
    exact Weak.to2 (by simp) (by simp)
  · simp [colsIn]
  rintro k s hk rfl
  have hcl := colsIn_le (e.take k)
  have htl : (e.take k).length ≤ e.length := by simp; omega
  cases hd : e.drop k with
  | nil =>
    have hle : e.length ≤ k := by simpa using hd
    have hta : e.take k = e := List.take_of_length_le hle
    rw [hta] at hcl ⊢
    repeat first | (refine aops.cons fun K hK => ?_; simp [and_assoc]; (try simp (disch := omega) only [wrap64]); (repeat refine ⟨by omega, ?_⟩); refine hK _ ?_; clear hK K) | refine aops.nil ?_ | refine AW.seqR ttOK etOK ?_ | refine AW.lastR ttOK etOK ?_ | refine AW.seqSkip ?_ | refine AW.seq ?_ | refine AW.block ?_ | (refine AW.skip ?_; simp only [andThen, inBlk, ↓reduceIte]) | (refine AW.exit ?_; simp (disch := omega) only [andThen, inBlk, ↓reduceIte, Nat.reduceEqDiff]) | (guard_target =~ andThen _ _ _ _; simp only [andThen, inBlk, ↓reduceIte])
    refine AW.cond _ (by rfl) (fun hx => absurd hx (by simp [hle])) (fun _ => ?_)
    repeat first | (refine aops.cons fun K hK => ?_; simp [and_assoc]; (try simp (disch := omega) only [wrap64]); (repeat refine ⟨by omega, ?_⟩); refine hK _ ?_; clear hK K) | refine aops.nil ?_ | refine AW.seqR ttOK etOK ?_ | refine AW.lastR ttOK etOK ?_ | refine AW.seqSkip ?_ | refine AW.seq ?_ | refine AW.block ?_ | (refine AW.skip ?_; simp only [andThen, inBlk, ↓reduceIte]) | (refine AW.exit ?_; simp (disch := omega) only [andThen, inBlk, ↓reduceIte, Nat.reduceEqDiff]) | (guard_target =~ andThen _ _ _ _; simp only [andThen, inBlk, ↓reduceIte])
    generalize hz : colsIn e = zs at hcl
    have hzl : zs.length < 4611686018427387904 := by omega
    have hS : (zs.mergeSort fun x y => decide (x ≤ y)).length = zs.length := by simp
    refine aops.consX fun K hK => callI (good_Sort zs hzl) rfl rfl rfl rfl rfl (by first | (simp [eI_dropAll]; done) | rw [List.take_of_length_le (by simp [eI_dropAll])]) (by simp [eI_dropAll]) (by simp) (by simp [eI_dropAll]; rfl) (hK _ ?_)
    repeat first | (refine aops.cons fun K hK => ?_; simp [and_assoc]; (try simp (disch := omega) only [wrap64]); (repeat refine ⟨by omega, ?_⟩); refine hK _ ?_; clear hK K) | refine aops.nil ?_ | refine AW.seqR ttOK etOK ?_ | refine AW.lastR ttOK etOK ?_ | refine AW.seqSkip ?_ | refine AW.seq ?_ | refine AW.block ?_ | (refine AW.skip ?_; simp only [andThen, inBlk, ↓reduceIte]) | (refine AW.exit ?_; simp (disch := omega) only [andThen, inBlk, ↓reduceIte, Nat.reduceEqDiff]) | (guard_target =~ andThen _ _ _ _; simp only [andThen, inBlk, ↓reduceIte])
    refine aops.consX fun K hK => callI (good_Compact (zs.mergeSort fun x y => decide (x ≤ y)) (by omega)) rfl rfl rfl rfl rfl (by first | (simp [eI_dropAll]; done) | rw [List.take_of_length_le (by simp [eI_dropAll])]) (by simp [eI_dropAll]) (by simp) (by simp [eI_dropAll]; rfl) (hK _ ?_)
    repeat first | (refine aops.cons fun K hK => ?_; simp [and_assoc]; (try simp (disch := omega) only [wrap64]); (repeat refine ⟨by omega, ?_⟩); refine hK _ ?_; clear hK K) | refine aops.nil ?_ | refine AW.seqR ttOK etOK ?_ | refine AW.lastR ttOK etOK ?_ | refine AW.seqSkip ?_ | refine AW.seq ?_ | refine AW.block ?_ | (refine AW.skip ?_; simp only [andThen, inBlk, ↓reduceIte]) | (refine AW.exit ?_; simp (disch := omega) only [andThen, inBlk, ↓reduceIte, Nat.reduceEqDiff]) | (guard_target =~ andThen _ _ _ _; simp only [andThen, inBlk, ↓reduceIte])
    have hc := Lib.compact_length_le (zs.mergeSort fun x y => decide (x ≤ y))
    rw [hS] at hc
    refine AW.weakE (Weak.freeze _ 20 (by rfl)) (by simp; rfl) ?_
    exact AW.ret (by simp [resL, resA, resV, resVs, andThen, inBlk, usedE, setOf, hz, eI_take])
  | cons x r =>
    obtain ⟨hx, hr, hlt⟩ := get_of_drop hd
    have hci : colsIn (e.take (k + 1)) = colsIn (e.take k) ++ (if x.kind = 1 then [x.num] else []) := by rw [take_succ_of hx, colsIn_app]; simp [colsIn]
    generalize colsIn (e.take k) = cs at hcl hci
    repeat first | (refine aops.cons fun K hK => ?_; simp [and_assoc]; (try simp (disch := omega) only [wrap64]); (repeat refine ⟨by omega, ?_⟩); refine hK _ ?_; clear hK K) | refine aops.nil ?_ | refine AW.seqR ttOK etOK ?_ | refine AW.lastR ttOK etOK ?_ | refine AW.seqSkip ?_ | refine AW.seq ?_ | refine AW.block ?_ | (refine AW.skip ?_; simp only [andThen, inBlk, ↓reduceIte]) | (refine AW.exit ?_; simp (disch := omega) only [andThen, inBlk, ↓reduceIte, Nat.reduceEqDiff]) | (guard_target =~ andThen _ _ _ _; simp only [andThen, inBlk, ↓reduceIte])
    refine AW.cond _ (by rfl) (fun _ => ?_) (fun hx => absurd hx (by simp [hlt]))
    repeat first | (refine aops.cons fun K hK => ?_; simp [and_assoc, hx]; (try simp (disch := omega) only [wrap64]); (repeat refine ⟨by omega, ?_⟩); refine hK _ ?_; clear hK K) | refine aops.nil ?_ | refine AW.seqR ttOK etOK ?_ | refine AW.lastR ttOK etOK ?_ | refine AW.seqSkip ?_ | refine AW.seq ?_ | refine AW.block ?_ | (refine AW.skip ?_; simp only [andThen, inBlk, ↓reduceIte]) | (refine AW.exit ?_; simp (disch := omega) only [andThen, inBlk, ↓reduceIte, Nat.reduceEqDiff]) | (guard_target =~ andThen _ _ _ _; simp only [andThen, inBlk, ↓reduceIte])
    by_cases k1 : x.kind = 1
    · refine AW.cond _ (by rfl) (fun _ => ?_) (fun hx => absurd hx (by simp [k1]))
      repeat first | (refine aops.cons fun K hK => ?_; simp [and_assoc, eI_take, eI_append, eI_one]; (try simp (disch := omega) only [wrap64]); (repeat refine ⟨by omega, ?_⟩); refine hK _ ?_; clear hK K) | refine aops.nil ?_ | refine AW.seqR ttOK etOK ?_ | refine AW.lastR ttOK etOK ?_ | refine AW.seqSkip ?_ | refine AW.seq ?_ | refine AW.block ?_ | (refine AW.skip ?_; simp only [andThen, inBlk, ↓reduceIte]) | (refine AW.exit ?_; simp (disch := omega) only [andThen, inBlk, ↓reduceIte, Nat.reduceEqDiff]) | (guard_target =~ andThen _ _ _ _; simp only [andThen, inBlk, ↓reduceIte])
      refine ⟨hlt, ⟨26, [(3, .ms 20 1 0 (cs.length + 1)), (7, .d (.sl 5 (e.map nodeC))), (8, aI e.length), (9, aI (k + 1))], [(20, .arr 1 (eI (cs ++ [x.num])))]⟩, ?_, by simp [hci, k1]⟩
      refine Weak.thenE (Weak.killE _ 19) (by simp; rfl) ?_
      refine Weak.thenE (Weak.killE _ 5) (by simp; rfl) ?_
      exact Weak.to2 (by simp) (by simp)
    · refine AW.cond _ (by rfl) (fun hx => absurd hx (by simp [k1])) (fun _ => ?_)
      repeat first | (refine aops.cons fun K hK => ?_; simp [and_assoc]; (try simp (disch := omega) only [wrap64]); (repeat refine ⟨by omega, ?_⟩); refine hK _ ?_; clear hK K) | refine aops.nil ?_ | refine AW.seqR ttOK etOK ?_ | refine AW.lastR ttOK etOK ?_ | refine AW.seqSkip ?_ | refine AW.seq ?_ | refine AW.block ?_ | (refine AW.skip ?_; simp only [andThen, inBlk, ↓reduceIte]) | (refine AW.exit ?_; simp (disch := omega) only [andThen, inBlk, ↓reduceIte, Nat.reduceEqDiff]) | (guard_target =~ andThen _ _ _ _; simp only [andThen, inBlk, ↓reduceIte])
      refine ⟨hlt, ⟨26, [(3, .ms 20 1 0 cs.length), (7, .d (.sl 5 (e.map nodeC))), (8, aI e.length), (9, aI (k + 1))], [(20, .arr 1 (eI cs))]⟩, ?_, by simp [hci, k1]⟩
      refine Weak.thenE (Weak.killE _ 5) (by simp; rfl) ?_
      exact Weak.to2 (by simp) (by simp)
end Go.Proofs.Ab.Try
