/- A part of the proof of the law: it holds for all states of the abstract kind told in the first of these texts; no condition besides those its statements name. -/
import Derived.Test.YtapnljdpijhcnaaAbG2
import Derived.Test.YtapnljdpijhcnaaAbH1
import Derived.Test.YtapnljdpijhcnaaAbM2
namespace Go.Proofs.Ab.Try
open Go Go.Proofs Go.Proofs.Ab
set_option linter.unusedSimpArgs false
set_option linter.unusedVariables false
set_option maxHeartbeats 8000000
/-! ### Lists put together -/
def sumLen {α : Type} (l : List (List α)) : Nat := (l.map List.length).sum
theorem sumLen_take {α : Type} (l : List (List α)) (k : Nat) : sumLen (l.take k) ≤ sumLen l := by
  induction l generalizing k with
  | nil => simp [sumLen]
  | cons x r ih =>
    cases k with
    | zero => simp [sumLen]
    | succ k => have := ih k; simp [sumLen] at this ⊢; omega
theorem sumLen_flat {α : Type} (l : List (List α)) : l.flatten.length = sumLen l := by simp [sumLen, List.length_flatten]
theorem flat_succ {α : Type} {l : List (List α)} {k : Nat} {g : List α} (h : l[k]? = some g) : (l.take (k + 1)).flatten = (l.take k).flatten ++ g := by rw [take_succ_of h]; simp
def eMC (l : List Col) : List (List D) := l.map colC
@[simp] theorem eMC_length (l : List Col) : (eMC l).length = l.length := by simp [eMC]
theorem eMC_take (l : List Col) (n : Nat) : (eMC l).take n = eMC (l.take n) := by simp [eMC, List.map_take]
theorem eMC_append (l m : List Col) : eMC l ++ eMC m = eMC (l ++ m) := by simp [eMC]
theorem eMC_one (x : Col) : [colC x] = eMC [x] := rfl
@[simp] theorem eMC_takeAll (l : List Col) : List.take l.length (eMC l) = eMC l := by rw [List.take_of_length_le (by simp)]
theorem eCs_getM (l : List (List Col)) (n : Nat) : (eCs l)[n]? = (l[n]?).map fun c => [D.sl 2 (eMC c)] := by simp [eCs, eMC]
@[simp] theorem eMC_nil : eMC [] = [] := rfl
@[simp] theorem eI_nil' : eI [] = [] := rfl
theorem good_ConcatI (l : List (List Int)) (hl : l.length ≤ 1000) (hs : sumLen l ≤ 2000000) : Good Try.prog 24 [.bs 1 (eG l)] (.d (.sl 1 (eI l.flatten))) := by
  refine goodF ttOK Try.func24 (vs := [.tmp 2]) (nt := 36) rfl rfl rfl (by kernel_rfl) (by simp) trivial ?_
  repeat first | (refine aops.cons fun K hK => ?_; simp [and_assoc]; (try simp (disch := omega) only [wrap64]); (repeat refine ⟨by omega, ?_⟩); refine hK _ ?_; clear hK K) | refine aops.nil ?_ | refine AW.seqR ttOK etOK ?_ | refine AW.lastR ttOK etOK ?_ | refine AW.seqSkip ?_ | refine AW.seq ?_ | refine AW.block ?_ | (refine AW.skip ?_; simp only [andThen, inBlk, ↓reduceIte]) | (refine AW.exit ?_; simp (disch := omega) only [andThen, inBlk, ↓reduceIte, Nat.reduceEqDiff]) | (guard_target =~ andThen _ _ _ _; simp only [andThen, inBlk, ↓reduceIte])
  refine AW.iterI (fun k s => s = ⟨36, [(0, .bs 1 (eG l)), (3, aI (sumLen (l.take k))), (9, .bs 1 (eG l)), (10, aI l.length), (11, aI k)], []⟩) l.length (s₀ := ⟨36, [(0, .bs 1 (eG l)), (3, aI 0), (9, .bs 1 (eG l)), (10, aI l.length), (11, aI 0)], []⟩) ?_ ?_ ?_
  · exact Weak.to (by simp)
  · simp [sumLen]
  rintro k s hk rfl
  have hst := sumLen_take l k
  by_cases hlt : k < l.length
  · obtain ⟨g, hg⟩ : ∃ g, l[k]? = some g := ⟨l[k], List.getElem?_eq_getElem hlt⟩
    have hst1 := sumLen_take l (k + 1)
    have hsu : sumLen (l.take (k + 1)) = sumLen (l.take k) + g.length := by rw [take_succ_of hg]; simp [sumLen]
    have hpos : ¬ ((sumLen (l.take k) : Int) + g.length < 0) := by omega
    repeat first | (refine aops.cons fun K hK => ?_; simp [and_assoc]; (try simp (disch := omega) only [wrap64]); (repeat refine ⟨by omega, ?_⟩); refine hK _ ?_; clear hK K) | refine aops.nil ?_ | refine AW.seqR ttOK etOK ?_ | refine AW.lastR ttOK etOK ?_ | refine AW.seqSkip ?_ | refine AW.seq ?_ | refine AW.block ?_ | (refine AW.skip ?_; simp only [andThen, inBlk, ↓reduceIte]) | (refine AW.exit ?_; simp (disch := omega) only [andThen, inBlk, ↓reduceIte, Nat.reduceEqDiff]) | (guard_target =~ andThen _ _ _ _; simp only [andThen, inBlk, ↓reduceIte])
    refine AW.cond _ (by rfl) (fun _ => ?_) (fun hx => absurd hx (by simp [hlt]))
    repeat first | (refine aops.cons fun K hK => ?_; simp [and_assoc, eG_get, hg]; (try simp (disch := omega) only [wrap64]); (repeat refine ⟨by omega, ?_⟩); refine hK _ ?_; clear hK K) | refine aops.nil ?_ | refine AW.seqR ttOK etOK ?_ | refine AW.lastR ttOK etOK ?_ | refine AW.seqSkip ?_ | refine AW.seq ?_ | refine AW.block ?_ | (refine AW.skip ?_; simp only [andThen, inBlk, ↓reduceIte]) | (refine AW.exit ?_; simp (disch := omega) only [andThen, inBlk, ↓reduceIte, Nat.reduceEqDiff]) | (guard_target =~ andThen _ _ _ _; simp only [andThen, inBlk, ↓reduceIte])
    refine AW.cond _ (by rfl) (fun hx => absurd hx (by simp [hpos])) (fun _ => ?_)
    repeat first | (refine aops.cons fun K hK => ?_; simp [and_assoc]; (try simp (disch := omega) only [wrap64]); (repeat refine ⟨by omega, ?_⟩); refine hK _ ?_; clear hK K) | refine aops.nil ?_ | refine AW.seqR ttOK etOK ?_ | refine AW.lastR ttOK etOK ?_ | refine AW.seqSkip ?_ | refine AW.seq ?_ | refine AW.block ?_ | (refine AW.skip ?_; simp only [andThen, inBlk, ↓reduceIte]) | (refine AW.exit ?_; simp (disch := omega) only [andThen, inBlk, ↓reduceIte, Nat.reduceEqDiff]) | (guard_target =~ andThen _ _ _ _; simp only [andThen, inBlk, ↓reduceIte])
    exact ⟨hlt, ⟨36, [(0, .bs 1 (eG l)), (3, aI ((sumLen (l.take k) : Int) + g.length)), (9, .bs 1 (eG l)), (10, aI l.length), (11, aI (k + 1))], []⟩, Weak.to (by simp), by simp [hsu]⟩
  · have hke : l.take k = l := List.take_of_length_le (by omega)
    repeat first | (refine aops.cons fun K hK => ?_; simp [and_assoc, hke]; (try simp (disch := omega) only [wrap64]); (repeat refine ⟨by omega, ?_⟩); refine hK _ ?_; clear hK K) | refine aops.nil ?_ | refine AW.seqR ttOK etOK ?_ | refine AW.lastR ttOK etOK ?_ | refine AW.seqSkip ?_ | refine AW.seq ?_ | refine AW.block ?_ | (refine AW.skip ?_; simp only [andThen, inBlk, ↓reduceIte]) | (refine AW.exit ?_; simp (disch := omega) only [andThen, inBlk, ↓reduceIte, Nat.reduceEqDiff]) | (guard_target =~ andThen _ _ _ _; simp only [andThen, inBlk, ↓reduceIte])
    refine AW.cond _ (by rfl) (fun hx => absurd hx (by simp [hlt])) (fun _ => ?_)
    repeat first | (refine aops.cons fun K hK => ?_; simp [and_assoc]; (try simp (disch := omega) only [wrap64]); (repeat refine ⟨by omega, ?_⟩); refine hK _ ?_; clear hK K) | refine aops.nil ?_ | refine AW.seqR ttOK etOK ?_ | refine AW.lastR ttOK etOK ?_ | refine AW.seqSkip ?_ | refine AW.seq ?_ | refine AW.block ?_ | (refine AW.skip ?_; simp only [andThen, inBlk, ↓reduceIte]) | (refine AW.exit ?_; simp (disch := omega) only [andThen, inBlk, ↓reduceIte, Nat.reduceEqDiff]) | (guard_target =~ andThen _ _ _ _; simp only [andThen, inBlk, ↓reduceIte])
    refine aops.consX fun K hK => callN (goodN_GrowI (sumLen l) hs) rfl rfl rfl (by simp; rfl) (by repeat' constructor) rfl (by simp) (by simp; rfl) (hK _ ?_)
    repeat first | (refine aops.cons fun K hK => ?_; simp [and_assoc]; (try simp (disch := omega) only [wrap64]); (repeat refine ⟨by omega, ?_⟩); refine hK _ ?_; clear hK K) | refine aops.nil ?_ | refine AW.seqR ttOK etOK ?_ | refine AW.lastR ttOK etOK ?_ | refine AW.seqSkip ?_ | refine AW.seq ?_ | refine AW.block ?_ | (refine AW.skip ?_; simp only [andThen, inBlk, ↓reduceIte]) | (refine AW.exit ?_; simp (disch := omega) only [andThen, inBlk, ↓reduceIte, Nat.reduceEqDiff]) | (guard_target =~ andThen _ _ _ _; simp only [andThen, inBlk, ↓reduceIte])
    refine AW.iterI (fun k s => ∃ id, (id = 24 ∨ id = 33) ∧ s = ⟨36, [(6, .ms id 1 0 (l.take k).flatten.length), (25, .bs 1 (eG l)), (26, aI l.length), (27, aI k)], [(id, .arr 1 (eI (l.take k).flatten))]⟩) l.length (s₀ := ⟨36, [(6, .ms 24 1 0 0), (25, .bs 1 (eG l)), (26, aI l.length), (27, aI 0)], [(24, .arr 1 (eI []))]⟩) ?_ ?_ ?_
    · exact Weak.to2 (by simp) (by simp)
    · exact ⟨24, .inl rfl, by simp⟩
    rintro k s hk ⟨id, hid, rfl⟩
    have hfl : (l.take k).flatten.length ≤ 2000000 := by rw [sumLen_flat]; exact Nat.le_trans (sumLen_take l k) hs
    by_cases hlt : k < l.length
    · obtain ⟨g, hg⟩ : ∃ g, l[k]? = some g := ⟨l[k], List.getElem?_eq_getElem hlt⟩
      have hfs := flat_succ hg
      have hfl1 : (l.take (k + 1)).flatten.length ≤ 2000000 := by rw [sumLen_flat]; exact Nat.le_trans (sumLen_take l (k + 1)) hs
      have hgl : (l.take k).flatten.length + g.length ≤ 2000000 := by rw [hfs] at hfl1; simpa using hfl1
      generalize hF : (l.take k).flatten = fl at hfl hfs hgl
      rcases hid with rfl | rfl
      · repeat first | (refine aops.cons fun K hK => ?_; simp [and_assoc]; (try simp (disch := omega) only [wrap64]); (repeat refine ⟨by omega, ?_⟩); refine hK _ ?_; clear hK K) | refine aops.nil ?_ | refine AW.seqR ttOK etOK ?_ | refine AW.lastR ttOK etOK ?_ | refine AW.seqSkip ?_ | refine AW.seq ?_ | refine AW.block ?_ | (refine AW.skip ?_; simp only [andThen, inBlk, ↓reduceIte]) | (refine AW.exit ?_; simp (disch := omega) only [andThen, inBlk, ↓reduceIte, Nat.reduceEqDiff]) | (guard_target =~ andThen _ _ _ _; simp only [andThen, inBlk, ↓reduceIte])
        refine AW.cond _ (by rfl) (fun _ => ?_) (fun hx => absurd hx (by simp [hlt]))
        repeat first | (refine aops.cons fun K hK => ?_; simp [and_assoc, eG_get, hg, eI_take, eI_append]; (try simp (disch := omega) only [wrap64]); (repeat refine ⟨by omega, ?_⟩); refine hK _ ?_; clear hK K) | refine aops.nil ?_ | refine AW.seqR ttOK etOK ?_ | refine AW.lastR ttOK etOK ?_ | refine AW.seqSkip ?_ | refine AW.seq ?_ | refine AW.block ?_ | (refine AW.skip ?_; simp only [andThen, inBlk, ↓reduceIte]) | (refine AW.exit ?_; simp (disch := omega) only [andThen, inBlk, ↓reduceIte, Nat.reduceEqDiff]) | (guard_target =~ andThen _ _ _ _; simp only [andThen, inBlk, ↓reduceIte])
        exact ⟨hlt, ⟨36, [(6, .ms 33 1 0 (fl.length + g.length)), (25, .bs 1 (eG l)), (26, aI l.length), (27, aI (k + 1))], [(33, .arr 1 (eI (fl ++ g)))]⟩, Weak.to2 (by simp) (by simp), 33, .inr rfl, by simp [hfs]⟩
      · repeat first | (refine aops.cons fun K hK => ?_; simp [and_assoc]; (try simp (disch := omega) only [wrap64]); (repeat refine ⟨by omega, ?_⟩); refine hK _ ?_; clear hK K) | refine aops.nil ?_ | refine AW.seqR ttOK etOK ?_ | refine AW.lastR ttOK etOK ?_ | refine AW.seqSkip ?_ | refine AW.seq ?_ | refine AW.block ?_ | (refine AW.skip ?_; simp only [andThen, inBlk, ↓reduceIte]) | (refine AW.exit ?_; simp (disch := omega) only [andThen, inBlk, ↓reduceIte, Nat.reduceEqDiff]) | (guard_target =~ andThen _ _ _ _; simp only [andThen, inBlk, ↓reduceIte])
        refine AW.cond _ (by rfl) (fun _ => ?_) (fun hx => absurd hx (by simp [hlt]))
        repeat first | (refine aops.cons fun K hK => ?_; simp [and_assoc, eG_get, hg, eI_take, eI_append]; (try simp (disch := omega) only [wrap64]); (repeat refine ⟨by omega, ?_⟩); refine hK _ ?_; clear hK K) | refine aops.nil ?_ | refine AW.seqR ttOK etOK ?_ | refine AW.lastR ttOK etOK ?_ | refine AW.seqSkip ?_ | refine AW.seq ?_ | refine AW.block ?_ | (refine AW.skip ?_; simp only [andThen, inBlk, ↓reduceIte]) | (refine AW.exit ?_; simp (disch := omega) only [andThen, inBlk, ↓reduceIte, Nat.reduceEqDiff]) | (guard_target =~ andThen _ _ _ _; simp only [andThen, inBlk, ↓reduceIte])
        exact ⟨hlt, ⟨36, [(6, .ms 33 1 0 (fl.length + g.length)), (25, .bs 1 (eG l)), (26, aI l.length), (27, aI (k + 1))], [(33, .arr 1 (eI (fl ++ g)))]⟩, Weak.to2 (by simp) (by simp), 33, .inr rfl, by simp [hfs]⟩
    · have hke : l.take k = l := List.take_of_length_le (by omega)
      rw [hke] at hfl
      have hTf : List.take (List.map List.length l).sum l.flatten = l.flatten := List.take_of_length_le (by simp [List.length_flatten])
      rcases hid with rfl | rfl
      · repeat first | (refine aops.cons fun K hK => ?_; simp [and_assoc, hke]; (try simp (disch := omega) only [wrap64]); (repeat refine ⟨by omega, ?_⟩); refine hK _ ?_; clear hK K) | refine aops.nil ?_ | refine AW.seqR ttOK etOK ?_ | refine AW.lastR ttOK etOK ?_ | refine AW.seqSkip ?_ | refine AW.seq ?_ | refine AW.block ?_ | (refine AW.skip ?_; simp only [andThen, inBlk, ↓reduceIte]) | (refine AW.exit ?_; simp (disch := omega) only [andThen, inBlk, ↓reduceIte, Nat.reduceEqDiff]) | (guard_target =~ andThen _ _ _ _; simp only [andThen, inBlk, ↓reduceIte])
        refine AW.cond _ (by rfl) (fun hx => absurd hx (by simp [hlt])) (fun _ => ?_)
        repeat first | (refine aops.cons fun K hK => ?_; simp [and_assoc]; (try simp (disch := omega) only [wrap64]); (repeat refine ⟨by omega, ?_⟩); refine hK _ ?_; clear hK K) | refine aops.nil ?_ | refine AW.seqR ttOK etOK ?_ | refine AW.lastR ttOK etOK ?_ | refine AW.seqSkip ?_ | refine AW.seq ?_ | refine AW.block ?_ | (refine AW.skip ?_; simp only [andThen, inBlk, ↓reduceIte]) | (refine AW.exit ?_; simp (disch := omega) only [andThen, inBlk, ↓reduceIte, Nat.reduceEqDiff]) | (guard_target =~ andThen _ _ _ _; simp only [andThen, inBlk, ↓reduceIte])
        refine AW.weakE (Weak.freeze _ 24 (by rfl)) (by simp; rfl) ?_
        exact AW.ret (by simp [resL, resA, resV, resVs, andThen, inBlk, eI_take, hTf])
      · repeat first | (refine aops.cons fun K hK => ?_; simp [and_assoc, hke]; (try simp (disch := omega) only [wrap64]); (repeat refine ⟨by omega, ?_⟩); refine hK _ ?_; clear hK K) | refine aops.nil ?_ | refine AW.seqR ttOK etOK ?_ | refine AW.lastR ttOK etOK ?_ | refine AW.seqSkip ?_ | refine AW.seq ?_ | refine AW.block ?_ | (refine AW.skip ?_; simp only [andThen, inBlk, ↓reduceIte]) | (refine AW.exit ?_; simp (disch := omega) only [andThen, inBlk, ↓reduceIte, Nat.reduceEqDiff]) | (guard_target =~ andThen _ _ _ _; simp only [andThen, inBlk, ↓reduceIte])
        refine AW.cond _ (by rfl) (fun hx => absurd hx (by simp [hlt])) (fun _ => ?_)
        repeat first | (refine aops.cons fun K hK => ?_; simp [and_assoc]; (try simp (disch := omega) only [wrap64]); (repeat refine ⟨by omega, ?_⟩); refine hK _ ?_; clear hK K) | refine aops.nil ?_ | refine AW.seqR ttOK etOK ?_ | refine AW.lastR ttOK etOK ?_ | refine AW.seqSkip ?_ | refine AW.seq ?_ | refine AW.block ?_ | (refine AW.skip ?_; simp only [andThen, inBlk, ↓reduceIte]) | (refine AW.exit ?_; simp (disch := omega) only [andThen, inBlk, ↓reduceIte, Nat.reduceEqDiff]) | (guard_target =~ andThen _ _ _ _; simp only [andThen, inBlk, ↓reduceIte])
        refine AW.weakE (Weak.freeze _ 33 (by rfl)) (by simp; rfl) ?_
        exact AW.ret (by simp [resL, resA, resV, resVs, andThen, inBlk, eI_take, hTf])
theorem good_ConcatC (l : List (List Col)) (hl : l.length ≤ 1000) (hs : sumLen l ≤ 2000000) : Good Try.prog 64 [.bs 1 (eCs l)] (.d (.sl 2 (eMC l.flatten))) := by
  refine goodF ttOK Try.func64 (vs := [.tmp 2]) (nt := 36) rfl rfl rfl (by kernel_rfl) (by simp) trivial ?_
  repeat first | (refine aops.cons fun K hK => ?_; simp [and_assoc]; (try simp (disch := omega) only [wrap64]); (repeat refine ⟨by omega, ?_⟩); refine hK _ ?_; clear hK K) | refine aops.nil ?_ | refine AW.seqR ttOK etOK ?_ | refine AW.lastR ttOK etOK ?_ | refine AW.seqSkip ?_ | refine AW.seq ?_ | refine AW.block ?_ | (refine AW.skip ?_; simp only [andThen, inBlk, ↓reduceIte]) | (refine AW.exit ?_; simp (disch := omega) only [andThen, inBlk, ↓reduceIte, Nat.reduceEqDiff]) | (guard_target =~ andThen _ _ _ _; simp only [andThen, inBlk, ↓reduceIte])
  refine AW.iterI (fun k s => s = ⟨36, [(0, .bs 1 (eCs l)), (3, aI (sumLen (l.take k))), (9, .bs 1 (eCs l)), (10, aI l.length), (11, aI k)], []⟩) l.length (s₀ := ⟨36, [(0, .bs 1 (eCs l)), (3, aI 0), (9, .bs 1 (eCs l)), (10, aI l.length), (11, aI 0)], []⟩) ?_ ?_ ?_
  · exact Weak.to (by simp)
  · simp [sumLen]
  rintro k s hk rfl
  have hst := sumLen_take l k
  by_cases hlt : k < l.length
  · obtain ⟨g, hg⟩ : ∃ g, l[k]? = some g := ⟨l[k], List.getElem?_eq_getElem hlt⟩
    have hst1 := sumLen_take l (k + 1)
    have hsu : sumLen (l.take (k + 1)) = sumLen (l.take k) + g.length := by rw [take_succ_of hg]; simp [sumLen]
    have hpos : ¬ ((sumLen (l.take k) : Int) + g.length < 0) := by omega
    repeat first | (refine aops.cons fun K hK => ?_; simp [and_assoc]; (try simp (disch := omega) only [wrap64]); (repeat refine ⟨by omega, ?_⟩); refine hK _ ?_; clear hK K) | refine aops.nil ?_ | refine AW.seqR ttOK etOK ?_ | refine AW.lastR ttOK etOK ?_ | refine AW.seqSkip ?_ | refine AW.seq ?_ | refine AW.block ?_ | (refine AW.skip ?_; simp only [andThen, inBlk, ↓reduceIte]) | (refine AW.exit ?_; simp (disch := omega) only [andThen, inBlk, ↓reduceIte, Nat.reduceEqDiff]) | (guard_target =~ andThen _ _ _ _; simp only [andThen, inBlk, ↓reduceIte])
    refine AW.cond _ (by rfl) (fun _ => ?_) (fun hx => absurd hx (by simp [hlt]))
    repeat first | (refine aops.cons fun K hK => ?_; simp [and_assoc, eCs_getM, hg]; (try simp (disch := omega) only [wrap64]); (repeat refine ⟨by omega, ?_⟩); refine hK _ ?_; clear hK K) | refine aops.nil ?_ | refine AW.seqR ttOK etOK ?_ | refine AW.lastR ttOK etOK ?_ | refine AW.seqSkip ?_ | refine AW.seq ?_ | refine AW.block ?_ | (refine AW.skip ?_; simp only [andThen, inBlk, ↓reduceIte]) | (refine AW.exit ?_; simp (disch := omega) only [andThen, inBlk, ↓reduceIte, Nat.reduceEqDiff]) | (guard_target =~ andThen _ _ _ _; simp only [andThen, inBlk, ↓reduceIte])
    refine AW.cond _ (by rfl) (fun hx => absurd hx (by simp [hpos])) (fun _ => ?_)
    repeat first | (refine aops.cons fun K hK => ?_; simp [and_assoc]; (try simp (disch := omega) only [wrap64]); (repeat refine ⟨by omega, ?_⟩); refine hK _ ?_; clear hK K) | refine aops.nil ?_ | refine AW.seqR ttOK etOK ?_ | refine AW.lastR ttOK etOK ?_ | refine AW.seqSkip ?_ | refine AW.seq ?_ | refine AW.block ?_ | (refine AW.skip ?_; simp only [andThen, inBlk, ↓reduceIte]) | (refine AW.exit ?_; simp (disch := omega) only [andThen, inBlk, ↓reduceIte, Nat.reduceEqDiff]) | (guard_target =~ andThen _ _ _ _; simp only [andThen, inBlk, ↓reduceIte])
    exact ⟨hlt, ⟨36, [(0, .bs 1 (eCs l)), (3, aI ((sumLen (l.take k) : Int) + g.length)), (9, .bs 1 (eCs l)), (10, aI l.length), (11, aI (k + 1))], []⟩, Weak.to (by simp), by simp [hsu]⟩
  · have hke : l.take k = l := List.take_of_length_le (by omega)
    repeat first | (refine aops.cons fun K hK => ?_; simp [and_assoc, hke]; (try simp (disch := omega) only [wrap64]); (repeat refine ⟨by omega, ?_⟩); refine hK _ ?_; clear hK K) | refine aops.nil ?_ | refine AW.seqR ttOK etOK ?_ | refine AW.lastR ttOK etOK ?_ | refine AW.seqSkip ?_ | refine AW.seq ?_ | refine AW.block ?_ | (refine AW.skip ?_; simp only [andThen, inBlk, ↓reduceIte]) | (refine AW.exit ?_; simp (disch := omega) only [andThen, inBlk, ↓reduceIte, Nat.reduceEqDiff]) | (guard_target =~ andThen _ _ _ _; simp only [andThen, inBlk, ↓reduceIte])
    refine AW.cond _ (by rfl) (fun hx => absurd hx (by simp [hlt])) (fun _ => ?_)
    repeat first | (refine aops.cons fun K hK => ?_; simp [and_assoc]; (try simp (disch := omega) only [wrap64]); (repeat refine ⟨by omega, ?_⟩); refine hK _ ?_; clear hK K) | refine aops.nil ?_ | refine AW.seqR ttOK etOK ?_ | refine AW.lastR ttOK etOK ?_ | refine AW.seqSkip ?_ | refine AW.seq ?_ | refine AW.block ?_ | (refine AW.skip ?_; simp only [andThen, inBlk, ↓reduceIte]) | (refine AW.exit ?_; simp (disch := omega) only [andThen, inBlk, ↓reduceIte, Nat.reduceEqDiff]) | (guard_target =~ andThen _ _ _ _; simp only [andThen, inBlk, ↓reduceIte])
    refine aops.consX fun K hK => callN (goodN_GrowC (sumLen l) hs) rfl rfl rfl (by simp; rfl) (by repeat' constructor) rfl (by simp) (by simp; rfl) (hK _ ?_)
    repeat first | (refine aops.cons fun K hK => ?_; simp [and_assoc]; (try simp (disch := omega) only [wrap64]); (repeat refine ⟨by omega, ?_⟩); refine hK _ ?_; clear hK K) | refine aops.nil ?_ | refine AW.seqR ttOK etOK ?_ | refine AW.lastR ttOK etOK ?_ | refine AW.seqSkip ?_ | refine AW.seq ?_ | refine AW.block ?_ | (refine AW.skip ?_; simp only [andThen, inBlk, ↓reduceIte]) | (refine AW.exit ?_; simp (disch := omega) only [andThen, inBlk, ↓reduceIte, Nat.reduceEqDiff]) | (guard_target =~ andThen _ _ _ _; simp only [andThen, inBlk, ↓reduceIte])
    refine AW.iterI (fun k s => ∃ id, (id = 24 ∨ id = 33) ∧ s = ⟨36, [(6, .ms id 2 0 (l.take k).flatten.length), (25, .bs 1 (eCs l)), (26, aI l.length), (27, aI k)], [(id, .arr 2 (eMC (l.take k).flatten))]⟩) l.length (s₀ := ⟨36, [(6, .ms 24 2 0 0), (25, .bs 1 (eCs l)), (26, aI l.length), (27, aI 0)], [(24, .arr 2 (eMC []))]⟩) ?_ ?_ ?_
    · exact Weak.to2 (by simp) (by simp)
    · exact ⟨24, .inl rfl, by simp⟩
    rintro k s hk ⟨id, hid, rfl⟩
    have hfl : (l.take k).flatten.length ≤ 2000000 := by rw [sumLen_flat]; exact Nat.le_trans (sumLen_take l k) hs
    by_cases hlt : k < l.length
    · obtain ⟨g, hg⟩ : ∃ g, l[k]? = some g := ⟨l[k], List.getElem?_eq_getElem hlt⟩
      have hfs := flat_succ hg
      have hfl1 : (l.take (k + 1)).flatten.length ≤ 2000000 := by rw [sumLen_flat]; exact Nat.le_trans (sumLen_take l (k + 1)) hs
      have hgl : (l.take k).flatten.length + g.length ≤ 2000000 := by rw [hfs] at hfl1; simpa using hfl1
      generalize hF : (l.take k).flatten = fl at hfl hfs hgl
      rcases hid with rfl | rfl
      · repeat first | (refine aops.cons fun K hK => ?_; simp [and_assoc]; (try simp (disch := omega) only [wrap64]); (repeat refine ⟨by omega, ?_⟩); refine hK _ ?_; clear hK K) | refine aops.nil ?_ | refine AW.seqR ttOK etOK ?_ | refine AW.lastR ttOK etOK ?_ | refine AW.seqSkip ?_ | refine AW.seq ?_ | refine AW.block ?_ | (refine AW.skip ?_; simp only [andThen, inBlk, ↓reduceIte]) | (refine AW.exit ?_; simp (disch := omega) only [andThen, inBlk, ↓reduceIte, Nat.reduceEqDiff]) | (guard_target =~ andThen _ _ _ _; simp only [andThen, inBlk, ↓reduceIte])
        refine AW.cond _ (by rfl) (fun _ => ?_) (fun hx => absurd hx (by simp [hlt]))
        repeat first | (refine aops.cons fun K hK => ?_; simp [and_assoc, eCs_getM, hg, eMC_take, eMC_append]; (try simp (disch := omega) only [wrap64]); (repeat refine ⟨by omega, ?_⟩); refine hK _ ?_; clear hK K) | refine aops.nil ?_ | refine AW.seqR ttOK etOK ?_ | refine AW.lastR ttOK etOK ?_ | refine AW.seqSkip ?_ | refine AW.seq ?_ | refine AW.block ?_ | (refine AW.skip ?_; simp only [andThen, inBlk, ↓reduceIte]) | (refine AW.exit ?_; simp (disch := omega) only [andThen, inBlk, ↓reduceIte, Nat.reduceEqDiff]) | (guard_target =~ andThen _ _ _ _; simp only [andThen, inBlk, ↓reduceIte])
        exact ⟨hlt, ⟨36, [(6, .ms 33 2 0 (fl.length + g.length)), (25, .bs 1 (eCs l)), (26, aI l.length), (27, aI (k + 1))], [(33, .arr 2 (eMC (fl ++ g)))]⟩, Weak.to2 (by simp) (by simp), 33, .inr rfl, by simp [hfs]⟩
      · repeat first | (refine aops.cons fun K hK => ?_; simp [and_assoc]; (try simp (disch := omega) only [wrap64]); (repeat refine ⟨by omega, ?_⟩); refine hK _ ?_; clear hK K) | refine aops.nil ?_ | refine AW.seqR ttOK etOK ?_ | refine AW.lastR ttOK etOK ?_ | refine AW.seqSkip ?_ | refine AW.seq ?_ | refine AW.block ?_ | (refine AW.skip ?_; simp only [andThen, inBlk, ↓reduceIte]) | (refine AW.exit ?_; simp (disch := omega) only [andThen, inBlk, ↓reduceIte, Nat.reduceEqDiff]) | (guard_target =~ andThen _ _ _ _; simp only [andThen, inBlk, ↓reduceIte])
        refine AW.cond _ (by rfl) (fun _ => ?_) (fun hx => absurd hx (by simp [hlt]))
        repeat first | (refine aops.cons fun K hK => ?_; simp [and_assoc, eCs_getM, hg, eMC_take, eMC_append]; (try simp (disch := omega) only [wrap64]); (repeat refine ⟨by omega, ?_⟩); refine hK _ ?_; clear hK K) | refine aops.nil ?_ | refine AW.seqR ttOK etOK ?_ | refine AW.lastR ttOK etOK ?_ | refine AW.seqSkip ?_ | refine AW.seq ?_ | refine AW.block ?_ | (refine AW.skip ?_; simp only [andThen, inBlk, ↓reduceIte]) | (refine AW.exit ?_; simp (disch := omega) only [andThen, inBlk, ↓reduceIte, Nat.reduceEqDiff]) | (guard_target =~ andThen _ _ _ _; simp only [andThen, inBlk, ↓reduceIte])
        exact ⟨hlt, ⟨36, [(6, .ms 33 2 0 (fl.length + g.length)), (25, .bs 1 (eCs l)), (26, aI l.length), (27, aI (k + 1))], [(33, .arr 2 (eMC (fl ++ g)))]⟩, Weak.to2 (by simp) (by simp), 33, .inr rfl, by simp [hfs]⟩
    · have hke : l.take k = l := List.take_of_length_le (by omega)
      rw [hke] at hfl
      have hTf : List.take (List.map List.length l).sum l.flatten = l.flatten := List.take_of_length_le (by simp [List.length_flatten])
      rcases hid with rfl | rfl
      · repeat first | (refine aops.cons fun K hK => ?_; simp [and_assoc, hke]; (try simp (disch := omega) only [wrap64]); (repeat refine ⟨by omega, ?_⟩); refine hK _ ?_; clear hK K) | refine aops.nil ?_ | refine AW.seqR ttOK etOK ?_ | refine AW.lastR ttOK etOK ?_ | refine AW.seqSkip ?_ | refine AW.seq ?_ | refine AW.block ?_ | (refine AW.skip ?_; simp only [andThen, inBlk, ↓reduceIte]) | (refine AW.exit ?_; simp (disch := omega) only [andThen, inBlk, ↓reduceIte, Nat.reduceEqDiff]) | (guard_target =~ andThen _ _ _ _; simp only [andThen, inBlk, ↓reduceIte])
        refine AW.cond _ (by rfl) (fun hx => absurd hx (by simp [hlt])) (fun _ => ?_)
        repeat first | (refine aops.cons fun K hK => ?_; simp [and_assoc]; (try simp (disch := omega) only [wrap64]); (repeat refine ⟨by omega, ?_⟩); refine hK _ ?_; clear hK K) | refine aops.nil ?_ | refine AW.seqR ttOK etOK ?_ | refine AW.lastR ttOK etOK ?_ | refine AW.seqSkip ?_ | refine AW.seq ?_ | refine AW.block ?_ | (refine AW.skip ?_; simp only [andThen, inBlk, ↓reduceIte]) | (refine AW.exit ?_; simp (disch := omega) only [andThen, inBlk, ↓reduceIte, Nat.reduceEqDiff]) | (guard_target =~ andThen _ _ _ _; simp only [andThen, inBlk, ↓reduceIte])
        refine AW.weakE (Weak.freeze _ 24 (by rfl)) (by simp; rfl) ?_
        exact AW.ret (by simp [resL, resA, resV, resVs, andThen, inBlk, eMC_take, hTf])
      · repeat first | (refine aops.cons fun K hK => ?_; simp [and_assoc, hke]; (try simp (disch := omega) only [wrap64]); (repeat refine ⟨by omega, ?_⟩); refine hK _ ?_; clear hK K) | refine aops.nil ?_ | refine AW.seqR ttOK etOK ?_ | refine AW.lastR ttOK etOK ?_ | refine AW.seqSkip ?_ | refine AW.seq ?_ | refine AW.block ?_ | (refine AW.skip ?_; simp only [andThen, inBlk, ↓reduceIte]) | (refine AW.exit ?_; simp (disch := omega) only [andThen, inBlk, ↓reduceIte, Nat.reduceEqDiff]) | (guard_target =~ andThen _ _ _ _; simp only [andThen, inBlk, ↓reduceIte])
        refine AW.cond _ (by rfl) (fun hx => absurd hx (by simp [hlt])) (fun _ => ?_)
        repeat first | (refine aops.cons fun K hK => ?_; simp [and_assoc]; (try simp (disch := omega) only [wrap64]); (repeat refine ⟨by omega, ?_⟩); refine hK _ ?_; clear hK K) | refine aops.nil ?_ | refine AW.seqR ttOK etOK ?_ | refine AW.lastR ttOK etOK ?_ | refine AW.seqSkip ?_ | refine AW.seq ?_ | refine AW.block ?_ | (refine AW.skip ?_; simp only [andThen, inBlk, ↓reduceIte]) | (refine AW.exit ?_; simp (disch := omega) only [andThen, inBlk, ↓reduceIte, Nat.reduceEqDiff]) | (guard_target =~ andThen _ _ _ _; simp only [andThen, inBlk, ↓reduceIte])
        refine AW.weakE (Weak.freeze _ 33 (by rfl)) (by simp; rfl) ?_
        exact AW.ret (by simp [resL, resA, resV, resVs, andThen, inBlk, eMC_take, hTf])
end Go.Proofs.Ab.Try
