/- A part of the proof of the law: it holds for all states of the abstract kind told in the first of these texts; no condition besides those its statements name. -/
import Derived.Test.YtapnljdpijhcnaaAbG1
import Derived.Test.YtapnljdpijhcnaaAbM2
namespace Go.Proofs.Ab.Try
open Go Go.Proofs Go.Proofs.Ab
set_option linter.unusedSimpArgs false
set_option linter.unusedVariables false
set_option maxHeartbeats 8000000
/-! ### kit -/
def rangeF (n lo hi : Int) : Int := if inR n lo hi then 0 else 1
theorem good_Range (n lo hi : Int) : Good Try.prog 43 [aI n, aI lo, aI hi] (aI (rangeF n lo hi)) := by
  refine goodF ttOK Try.func43 (vs := [.tmp 6]) (nt := 12) rfl rfl rfl (by kernel_rfl) (by simp) trivial ?_
  repeat first | (refine aops.cons fun K hK => ?_; simp [and_assoc]; (try simp (disch := omega) only [wrap64]); (repeat refine ⟨by omega, ?_⟩); refine hK _ ?_; clear hK K) | refine aops.nil ?_ | refine AW.seqR ttOK etOK ?_ | refine AW.lastR ttOK etOK ?_ | refine AW.seqSkip ?_ | refine AW.seq ?_ | refine AW.block ?_ | (refine AW.skip ?_; simp only [andThen, inBlk, ↓reduceIte]) | (refine AW.exit ?_; simp (disch := omega) only [andThen, inBlk, ↓reduceIte, Nat.reduceEqDiff]) | (guard_target =~ andThen _ _ _ _; simp only [andThen, inBlk, ↓reduceIte])
  refine aops.cons fun K hK => ?_
  simp [and_assoc]
  refine callA (good_In n lo hi) (by repeat' constructor) (hK _ ?_)
  clear hK K
  repeat first | (refine aops.cons fun K hK => ?_; simp [and_assoc]; (try simp (disch := omega) only [wrap64]); (repeat refine ⟨by omega, ?_⟩); refine hK _ ?_; clear hK K) | refine aops.nil ?_ | refine AW.seqR ttOK etOK ?_ | refine AW.lastR ttOK etOK ?_ | refine AW.seqSkip ?_ | refine AW.seq ?_ | refine AW.block ?_ | (refine AW.skip ?_; simp only [andThen, inBlk, ↓reduceIte]) | (refine AW.exit ?_; simp (disch := omega) only [andThen, inBlk, ↓reduceIte, Nat.reduceEqDiff]) | (guard_target =~ andThen _ _ _ _; simp only [andThen, inBlk, ↓reduceIte])
  by_cases h : inR n lo hi = true
  · refine AW.cond _ (by rfl) (fun hx => absurd hx (by simp [h])) (fun _ => ?_)
    repeat first | (refine aops.cons fun K hK => ?_; simp [and_assoc]; (try simp (disch := omega) only [wrap64]); (repeat refine ⟨by omega, ?_⟩); refine hK _ ?_; clear hK K) | refine aops.nil ?_ | refine AW.seqR ttOK etOK ?_ | refine AW.lastR ttOK etOK ?_ | refine AW.seqSkip ?_ | refine AW.seq ?_ | refine AW.block ?_ | (refine AW.skip ?_; simp only [andThen, inBlk, ↓reduceIte]) | (refine AW.exit ?_; simp (disch := omega) only [andThen, inBlk, ↓reduceIte, Nat.reduceEqDiff]) | (guard_target =~ andThen _ _ _ _; simp only [andThen, inBlk, ↓reduceIte])
    exact AW.ret (by simp [resL, resA, resV, resVs, andThen, inBlk, rangeF, h])
  · refine AW.cond _ (by rfl) (fun _ => ?_) (fun hx => absurd hx (by simp [h]))
    repeat first | (refine aops.cons fun K hK => ?_; simp [and_assoc]; (try simp (disch := omega) only [wrap64]); (repeat refine ⟨by omega, ?_⟩); refine hK _ ?_; clear hK K) | refine aops.nil ?_ | refine AW.seqR ttOK etOK ?_ | refine AW.lastR ttOK etOK ?_ | refine AW.seqSkip ?_ | refine AW.seq ?_ | refine AW.block ?_ | (refine AW.skip ?_; simp only [andThen, inBlk, ↓reduceIte]) | (refine AW.exit ?_; simp (disch := omega) only [andThen, inBlk, ↓reduceIte, Nat.reduceEqDiff]) | (guard_target =~ andThen _ _ _ _; simp only [andThen, inBlk, ↓reduceIte])
    exact AW.ret (by simp [resL, resA, resV, resVs, andThen, inBlk, rangeF, h])
def firstGo : List Int → Int
  | [] => 0
  | f :: r => if f = 0 then firstGo r else f
theorem good_First (l : List Int) (hl : l.length ≤ 1000) : Good Try.prog 42 [.bs 1 (eI l)] (aI (firstGo l)) := by
  refine goodF ttOK Try.func42 (vs := [.tmp 2]) (nt := 15) rfl rfl rfl (by kernel_rfl) (by simp) trivial ?_
  repeat first | (refine aops.cons fun K hK => ?_; simp [and_assoc]; (try simp (disch := omega) only [wrap64]); (repeat refine ⟨by omega, ?_⟩); refine hK _ ?_; clear hK K) | refine aops.nil ?_ | refine AW.seqR ttOK etOK ?_ | refine AW.lastR ttOK etOK ?_ | refine AW.seqSkip ?_ | refine AW.seq ?_ | refine AW.block ?_ | (refine AW.skip ?_; simp only [andThen, inBlk, ↓reduceIte]) | (refine AW.exit ?_; simp (disch := omega) only [andThen, inBlk, ↓reduceIte, Nat.reduceEqDiff]) | (guard_target =~ andThen _ _ _ _; simp only [andThen, inBlk, ↓reduceIte])
  refine AW.iterI (fun k s => s = ⟨15, [(5, .bs 1 (eI l)), (6, aI l.length), (7, aI k)], []⟩ ∧ firstGo (l.drop k) = firstGo l) l.length (s₀ := ⟨15, [(5, .bs 1 (eI l)), (6, aI l.length), (7, aI 0)], []⟩) ?_ ?_ ?_
  · exact Weak.to (by simp)
  · exact ⟨rfl, rfl⟩
  rintro k s hk ⟨rfl, h2⟩
  cases hd : l.drop k with
  | nil =>
    have : l.length ≤ k := by simpa using hd
    rw [hd] at h2
    repeat first | (refine aops.cons fun K hK => ?_; simp [and_assoc]; (try simp (disch := omega) only [wrap64]); (repeat refine ⟨by omega, ?_⟩); refine hK _ ?_; clear hK K) | refine aops.nil ?_ | refine AW.seqR ttOK etOK ?_ | refine AW.lastR ttOK etOK ?_ | refine AW.seqSkip ?_ | refine AW.seq ?_ | refine AW.block ?_ | (refine AW.skip ?_; simp only [andThen, inBlk, ↓reduceIte]) | (refine AW.exit ?_; simp (disch := omega) only [andThen, inBlk, ↓reduceIte, Nat.reduceEqDiff]) | (guard_target =~ andThen _ _ _ _; simp only [andThen, inBlk, ↓reduceIte])
    refine AW.cond _ (by rfl) (fun hx => absurd hx (by simp [this])) (fun _ => ?_)
    repeat first | (refine aops.cons fun K hK => ?_; simp [and_assoc]; (try simp (disch := omega) only [wrap64]); (repeat refine ⟨by omega, ?_⟩); refine hK _ ?_; clear hK K) | refine aops.nil ?_ | refine AW.seqR ttOK etOK ?_ | refine AW.lastR ttOK etOK ?_ | refine AW.seqSkip ?_ | refine AW.seq ?_ | refine AW.block ?_ | (refine AW.skip ?_; simp only [andThen, inBlk, ↓reduceIte]) | (refine AW.exit ?_; simp (disch := omega) only [andThen, inBlk, ↓reduceIte, Nat.reduceEqDiff]) | (guard_target =~ andThen _ _ _ _; simp only [andThen, inBlk, ↓reduceIte])
    exact AW.ret (by simp [resL, resA, resV, resVs, andThen, inBlk, ← h2, firstGo])
  | cons x r =>
    obtain ⟨hx, hr, hlt⟩ := get_of_drop hd
    rw [hd] at h2
    repeat first | (refine aops.cons fun K hK => ?_; simp [and_assoc]; (try simp (disch := omega) only [wrap64]); (repeat refine ⟨by omega, ?_⟩); refine hK _ ?_; clear hK K) | refine aops.nil ?_ | refine AW.seqR ttOK etOK ?_ | refine AW.lastR ttOK etOK ?_ | refine AW.seqSkip ?_ | refine AW.seq ?_ | refine AW.block ?_ | (refine AW.skip ?_; simp only [andThen, inBlk, ↓reduceIte]) | (refine AW.exit ?_; simp (disch := omega) only [andThen, inBlk, ↓reduceIte, Nat.reduceEqDiff]) | (guard_target =~ andThen _ _ _ _; simp only [andThen, inBlk, ↓reduceIte])
    refine AW.cond _ (by rfl) (fun _ => ?_) (fun hx => absurd hx (by simp [hlt]))
    repeat first | (refine aops.cons fun K hK => ?_; simp [and_assoc, eI_get, hx]; (try simp (disch := omega) only [wrap64]); (repeat refine ⟨by omega, ?_⟩); refine hK _ ?_; clear hK K) | refine aops.nil ?_ | refine AW.seqR ttOK etOK ?_ | refine AW.lastR ttOK etOK ?_ | refine AW.seqSkip ?_ | refine AW.seq ?_ | refine AW.block ?_ | (refine AW.skip ?_; simp only [andThen, inBlk, ↓reduceIte]) | (refine AW.exit ?_; simp (disch := omega) only [andThen, inBlk, ↓reduceIte, Nat.reduceEqDiff]) | (guard_target =~ andThen _ _ _ _; simp only [andThen, inBlk, ↓reduceIte])
    by_cases h3 : x = 0
    · refine AW.cond _ (by rfl) (fun hx => absurd hx (by simp [h3])) (fun _ => ?_)
      repeat first | (refine aops.cons fun K hK => ?_; simp [and_assoc]; (try simp (disch := omega) only [wrap64]); (repeat refine ⟨by omega, ?_⟩); refine hK _ ?_; clear hK K) | refine aops.nil ?_ | refine AW.seqR ttOK etOK ?_ | refine AW.lastR ttOK etOK ?_ | refine AW.seqSkip ?_ | refine AW.seq ?_ | refine AW.block ?_ | (refine AW.skip ?_; simp only [andThen, inBlk, ↓reduceIte]) | (refine AW.exit ?_; simp (disch := omega) only [andThen, inBlk, ↓reduceIte, Nat.reduceEqDiff]) | (guard_target =~ andThen _ _ _ _; simp only [andThen, inBlk, ↓reduceIte])
      refine ⟨hlt, ⟨15, [(5, .bs 1 (eI l)), (6, aI l.length), (7, aI (k + 1))], []⟩, ?_, by simp, ?_⟩
      · exact Weak.to (by simp)
      · rw [hr, ← h2]; simp [firstGo, h3]
    · refine AW.cond _ (by rfl) (fun _ => ?_) (fun hx => absurd hx (by simp [h3]))
      repeat first | (refine aops.cons fun K hK => ?_; simp [and_assoc]; (try simp (disch := omega) only [wrap64]); (repeat refine ⟨by omega, ?_⟩); refine hK _ ?_; clear hK K) | refine aops.nil ?_ | refine AW.seqR ttOK etOK ?_ | refine AW.lastR ttOK etOK ?_ | refine AW.seqSkip ?_ | refine AW.seq ?_ | refine AW.block ?_ | (refine AW.skip ?_; simp only [andThen, inBlk, ↓reduceIte]) | (refine AW.exit ?_; simp (disch := omega) only [andThen, inBlk, ↓reduceIte, Nat.reduceEqDiff]) | (guard_target =~ andThen _ _ _ _; simp only [andThen, inBlk, ↓reduceIte])
      exact AW.ret (by simp [resL, resA, resV, resVs, andThen, inBlk, ← h2, firstGo, h3])
theorem good_IsNull (v : Val) : Good Try.prog 57 [.ag ((valC v).map .d)] (aB (v.kind == 0)) := by
  refine goodF ttOK Try.func57 (vs := [.tmp 2]) (nt := 6) rfl rfl rfl (by kernel_rfl) (by simp) trivial ?_
  repeat first | (refine aops.cons fun K hK => ?_; simp [and_assoc]; (try simp (disch := omega) only [wrap64]); (repeat refine ⟨by omega, ?_⟩); refine hK _ ?_; clear hK K) | refine aops.nil ?_ | refine AW.seqR ttOK etOK ?_ | refine AW.lastR ttOK etOK ?_ | refine AW.seqSkip ?_ | refine AW.seq ?_ | refine AW.block ?_ | (refine AW.skip ?_; simp only [andThen, inBlk, ↓reduceIte]) | (refine AW.exit ?_; simp (disch := omega) only [andThen, inBlk, ↓reduceIte, Nat.reduceEqDiff]) | (guard_target =~ andThen _ _ _ _; simp only [andThen, inBlk, ↓reduceIte])
  exact AW.ret (by simp [resL, resA, resV, resVs, andThen, inBlk])
/-! ### Names -/
def chBad (c : Int) (i : Nat) : Bool := (decide (c < 97) || decide (122 < c)) && (decide (i = 0) || (decide (c ≠ 95) && (decide (c < 48) || decide (57 < c))))
def nameGo (s : ByteArray) : Nat → Nat → Bool
  | 0, _ => true
  | n + 1, k => if h : k < s.size then (!chBad (s[k].toNat : Int) k && nameGo s n (k + 1)) else true
def nameB (s : ByteArray) : Bool := !(s.toList == []) && decide (s.size ≤ 32) && nameGo s s.size 0
theorem good_Name (s : ByteArray) (hs : s.size ≤ 9000000000000000000) : Good Try.prog 27 [.d (.v (.string s))] (aB (nameB s)) := by
  refine goodF ttOK Try.func27 (vs := [.tmp 2]) (nt := 43) rfl rfl rfl (by kernel_rfl) (by simp) trivial ?_
  by_cases h0 : s.toList = []
  · repeat first | (refine aops.cons fun K hK => ?_; simp [and_assoc, h0]; (try simp (disch := omega) only [wrap64]); (repeat refine ⟨by omega, ?_⟩); refine hK _ ?_; clear hK K) | refine aops.nil ?_ | refine AW.seqR ttOK etOK ?_ | refine AW.lastR ttOK etOK ?_ | refine AW.seqSkip ?_ | refine AW.seq ?_ | refine AW.block ?_ | (refine AW.skip ?_; simp only [andThen, inBlk, ↓reduceIte]) | (refine AW.exit ?_; simp (disch := omega) only [andThen, inBlk, ↓reduceIte, Nat.reduceEqDiff]) | (guard_target =~ andThen _ _ _ _; simp only [andThen, inBlk, ↓reduceIte])
    refine AW.cond _ (by rfl) (fun _ => ?_) (fun hx => absurd hx (by simp [h0]))
    repeat first | (refine aops.cons fun K hK => ?_; simp [and_assoc]; (try simp (disch := omega) only [wrap64]); (repeat refine ⟨by omega, ?_⟩); refine hK _ ?_; clear hK K) | refine aops.nil ?_ | refine AW.seqR ttOK etOK ?_ | refine AW.lastR ttOK etOK ?_ | refine AW.seqSkip ?_ | refine AW.seq ?_ | refine AW.block ?_ | (refine AW.skip ?_; simp only [andThen, inBlk, ↓reduceIte]) | (refine AW.exit ?_; simp (disch := omega) only [andThen, inBlk, ↓reduceIte, Nat.reduceEqDiff]) | (guard_target =~ andThen _ _ _ _; simp only [andThen, inBlk, ↓reduceIte])
    exact AW.ret (by simp [resL, resA, resV, resVs, andThen, inBlk, nameB, h0])
  by_cases h1 : (32 : Int) < s.size
  · repeat first | (refine aops.cons fun K hK => ?_; simp [and_assoc, h0, h1]; (try simp (disch := omega) only [wrap64]); (repeat refine ⟨by omega, ?_⟩); refine hK _ ?_; clear hK K) | refine aops.nil ?_ | refine AW.seqR ttOK etOK ?_ | refine AW.lastR ttOK etOK ?_ | refine AW.seqSkip ?_ | refine AW.seq ?_ | refine AW.block ?_ | (refine AW.skip ?_; simp only [andThen, inBlk, ↓reduceIte]) | (refine AW.exit ?_; simp (disch := omega) only [andThen, inBlk, ↓reduceIte, Nat.reduceEqDiff]) | (guard_target =~ andThen _ _ _ _; simp only [andThen, inBlk, ↓reduceIte])
    refine AW.cond _ (by rfl) (fun _ => ?_) (fun hx => absurd hx (by simp [h0, h1]))
    repeat first | (refine aops.cons fun K hK => ?_; simp [and_assoc]; (try simp (disch := omega) only [wrap64]); (repeat refine ⟨by omega, ?_⟩); refine hK _ ?_; clear hK K) | refine aops.nil ?_ | refine AW.seqR ttOK etOK ?_ | refine AW.lastR ttOK etOK ?_ | refine AW.seqSkip ?_ | refine AW.seq ?_ | refine AW.block ?_ | (refine AW.skip ?_; simp only [andThen, inBlk, ↓reduceIte]) | (refine AW.exit ?_; simp (disch := omega) only [andThen, inBlk, ↓reduceIte, Nat.reduceEqDiff]) | (guard_target =~ andThen _ _ _ _; simp only [andThen, inBlk, ↓reduceIte])
    have h1' : ¬ s.size ≤ 32 := by omega
    exact AW.ret (by simp [resL, resA, resV, resVs, andThen, inBlk, nameB, h0, h1'])
  repeat first | (refine aops.cons fun K hK => ?_; simp [and_assoc, h0, h1]; (try simp (disch := omega) only [wrap64]); (repeat refine ⟨by omega, ?_⟩); refine hK _ ?_; clear hK K) | refine aops.nil ?_ | refine AW.seqR ttOK etOK ?_ | refine AW.lastR ttOK etOK ?_ | refine AW.seqSkip ?_ | refine AW.seq ?_ | refine AW.block ?_ | (refine AW.skip ?_; simp only [andThen, inBlk, ↓reduceIte]) | (refine AW.exit ?_; simp (disch := omega) only [andThen, inBlk, ↓reduceIte, Nat.reduceEqDiff]) | (guard_target =~ andThen _ _ _ _; simp only [andThen, inBlk, ↓reduceIte])
  refine AW.cond _ (by rfl) (fun hx => absurd hx (by simp [h0, h1])) (fun _ => ?_)
  repeat first | (refine aops.cons fun K hK => ?_; simp [and_assoc]; (try simp (disch := omega) only [wrap64]); (repeat refine ⟨by omega, ?_⟩); refine hK _ ?_; clear hK K) | refine aops.nil ?_ | refine AW.seqR ttOK etOK ?_ | refine AW.lastR ttOK etOK ?_ | refine AW.seqSkip ?_ | refine AW.seq ?_ | refine AW.block ?_ | (refine AW.skip ?_; simp only [andThen, inBlk, ↓reduceIte]) | (refine AW.exit ?_; simp (disch := omega) only [andThen, inBlk, ↓reduceIte, Nat.reduceEqDiff]) | (guard_target =~ andThen _ _ _ _; simp only [andThen, inBlk, ↓reduceIte])
  refine AW.iterI (fun k s' => s' = ⟨43, [(0, .d (.v (.string s))), (13, aI s.size), (14, aI k)], []⟩ ∧ nameGo s (s.size - k) k = nameGo s s.size 0) s.size (s₀ := ⟨43, [(0, .d (.v (.string s))), (13, aI s.size), (14, aI 0)], []⟩) ?_ ?_ ?_
  · exact Weak.to (by simp)
  · exact ⟨rfl, rfl⟩
  rintro k s' hk ⟨rfl, h2⟩
  have h1' : s.size ≤ 32 := by omega
  by_cases hlt : k < s.size
  rotate_left
  · repeat first | (refine aops.cons fun K hK => ?_; simp [and_assoc]; (try simp (disch := omega) only [wrap64]); (repeat refine ⟨by omega, ?_⟩); refine hK _ ?_; clear hK K) | refine aops.nil ?_ | refine AW.seqR ttOK etOK ?_ | refine AW.lastR ttOK etOK ?_ | refine AW.seqSkip ?_ | refine AW.seq ?_ | refine AW.block ?_ | (refine AW.skip ?_; simp only [andThen, inBlk, ↓reduceIte]) | (refine AW.exit ?_; simp (disch := omega) only [andThen, inBlk, ↓reduceIte, Nat.reduceEqDiff]) | (guard_target =~ andThen _ _ _ _; simp only [andThen, inBlk, ↓reduceIte])
    refine AW.cond _ (by rfl) (fun hx => absurd hx (by simp [hlt])) (fun _ => ?_)
    repeat first | (refine aops.cons fun K hK => ?_; simp [and_assoc]; (try simp (disch := omega) only [wrap64]); (repeat refine ⟨by omega, ?_⟩); refine hK _ ?_; clear hK K) | refine aops.nil ?_ | refine AW.seqR ttOK etOK ?_ | refine AW.lastR ttOK etOK ?_ | refine AW.seqSkip ?_ | refine AW.seq ?_ | refine AW.block ?_ | (refine AW.skip ?_; simp only [andThen, inBlk, ↓reduceIte]) | (refine AW.exit ?_; simp (disch := omega) only [andThen, inBlk, ↓reduceIte, Nat.reduceEqDiff]) | (guard_target =~ andThen _ _ _ _; simp only [andThen, inBlk, ↓reduceIte])
    have e : s.size - k = 0 := by omega
    rw [e] at h2
    exact AW.ret (by simp [resL, resA, resV, resVs, andThen, inBlk, nameB, h0, h1', ← h2, nameGo])
  repeat first | (refine aops.cons fun K hK => ?_; simp [and_assoc]; (try simp (disch := omega) only [wrap64]); (repeat refine ⟨by omega, ?_⟩); refine hK _ ?_; clear hK K) | refine aops.nil ?_ | refine AW.seqR ttOK etOK ?_ | refine AW.lastR ttOK etOK ?_ | refine AW.seqSkip ?_ | refine AW.seq ?_ | refine AW.block ?_ | (refine AW.skip ?_; simp only [andThen, inBlk, ↓reduceIte]) | (refine AW.exit ?_; simp (disch := omega) only [andThen, inBlk, ↓reduceIte, Nat.reduceEqDiff]) | (guard_target =~ andThen _ _ _ _; simp only [andThen, inBlk, ↓reduceIte])
  refine AW.cond _ (by rfl) (fun _ => ?_) (fun hx => absurd hx (by simp [hlt]))
  repeat first | (refine aops.cons fun K hK => ?_; simp [and_assoc, hlt]; (try simp (disch := omega) only [wrap64]); (repeat refine ⟨by omega, ?_⟩); refine hK _ ?_; clear hK K) | refine aops.nil ?_ | refine AW.seqR ttOK etOK ?_ | refine AW.lastR ttOK etOK ?_ | refine AW.seqSkip ?_ | refine AW.seq ?_ | refine AW.block ?_ | (refine AW.skip ?_; simp only [andThen, inBlk, ↓reduceIte]) | (refine AW.exit ?_; simp (disch := omega) only [andThen, inBlk, ↓reduceIte, Nat.reduceEqDiff]) | (guard_target =~ andThen _ _ _ _; simp only [andThen, inBlk, ↓reduceIte])
  have hn : nameGo s (s.size - k) k = (!chBad (s[k].toNat : Int) k && nameGo s (s.size - (k + 1)) (k + 1)) := by
    rw [show s.size - k = (s.size - (k + 1)) + 1 by omega]
    simp [nameGo, hlt]
  rw [hn] at h2
  revert h2
  generalize hc : (s[k].toNat : Int) = c
  intro h2
  have good : chBad c k = false → ∀ tm, Weak ⟨43, tm, []⟩ ⟨43, [(0, .d (.v (.string s))), (13, aI s.size), (14, aI (k + 1))], []⟩ → (k < s.size ∧ ∃ s'', Weak ⟨43, tm, []⟩ s'' ∧ (s'' = ⟨43, [(0, .d (.v (.string s))), (13, aI s.size), (14, aI (k + 1 : Nat))], []⟩ ∧ nameGo s (s.size - (k + 1)) (k + 1) = nameGo s s.size 0)) := by
    intro hb tm hw
    exact ⟨hlt, _, hw, by simp, by rw [← h2]; simp [hb]⟩
  have bad : chBad c k = true → nameGo s s.size 0 = false := by
    intro hb; rw [← h2]; simp [hb]
  by_cases c1 : c < 97
  · by_cases k0 : k = 0
    · have hb : chBad c k = true := by simp [chBad, c1, k0]
      repeat first | (refine aops.cons fun K hK => ?_; simp [and_assoc, c1, k0]; (try simp (disch := omega) only [wrap64]); (repeat refine ⟨by omega, ?_⟩); refine hK _ ?_; clear hK K) | refine aops.nil ?_ | refine AW.seqR ttOK etOK ?_ | refine AW.lastR ttOK etOK ?_ | refine AW.seqSkip ?_ | refine AW.seq ?_ | refine AW.block ?_ | (refine AW.skip ?_; simp only [andThen, inBlk, ↓reduceIte]) | (refine AW.exit ?_; simp (disch := omega) only [andThen, inBlk, ↓reduceIte, Nat.reduceEqDiff]) | (guard_target =~ andThen _ _ _ _; simp only [andThen, inBlk, ↓reduceIte])
      refine AW.cond _ (by rfl) (fun _ => ?_) (fun hx => absurd hx (by simp [c1, k0]))
      repeat first | (refine aops.cons fun K hK => ?_; simp [and_assoc]; (try simp (disch := omega) only [wrap64]); (repeat refine ⟨by omega, ?_⟩); refine hK _ ?_; clear hK K) | refine aops.nil ?_ | refine AW.seqR ttOK etOK ?_ | refine AW.lastR ttOK etOK ?_ | refine AW.seqSkip ?_ | refine AW.seq ?_ | refine AW.block ?_ | (refine AW.skip ?_; simp only [andThen, inBlk, ↓reduceIte]) | (refine AW.exit ?_; simp (disch := omega) only [andThen, inBlk, ↓reduceIte, Nat.reduceEqDiff]) | (guard_target =~ andThen _ _ _ _; simp only [andThen, inBlk, ↓reduceIte])
      exact AW.ret (by simp [resL, resA, resV, resVs, andThen, inBlk, nameB, bad hb])
    by_cases c2 : c = 95
    · have hb : chBad c k = false := by simp [chBad, c1, c2, k0]
      repeat first | (refine aops.cons fun K hK => ?_; simp [and_assoc, c1, k0, c2]; (try simp (disch := omega) only [wrap64]); (repeat refine ⟨by omega, ?_⟩); refine hK _ ?_; clear hK K) | refine aops.nil ?_ | refine AW.seqR ttOK etOK ?_ | refine AW.lastR ttOK etOK ?_ | refine AW.seqSkip ?_ | refine AW.seq ?_ | refine AW.block ?_ | (refine AW.skip ?_; simp only [andThen, inBlk, ↓reduceIte]) | (refine AW.exit ?_; simp (disch := omega) only [andThen, inBlk, ↓reduceIte, Nat.reduceEqDiff]) | (guard_target =~ andThen _ _ _ _; simp only [andThen, inBlk, ↓reduceIte])
      refine AW.cond _ (by rfl) (fun hx => absurd hx (by simp [c1, k0, c2])) (fun _ => ?_)
      repeat first | (refine aops.cons fun K hK => ?_; simp [and_assoc]; (try simp (disch := omega) only [wrap64]); (repeat refine ⟨by omega, ?_⟩); refine hK _ ?_; clear hK K) | refine aops.nil ?_ | refine AW.seqR ttOK etOK ?_ | refine AW.lastR ttOK etOK ?_ | refine AW.seqSkip ?_ | refine AW.seq ?_ | refine AW.block ?_ | (refine AW.skip ?_; simp only [andThen, inBlk, ↓reduceIte]) | (refine AW.exit ?_; simp (disch := omega) only [andThen, inBlk, ↓reduceIte, Nat.reduceEqDiff]) | (guard_target =~ andThen _ _ _ _; simp only [andThen, inBlk, ↓reduceIte])
      exact good hb _ (Weak.to (by simp))
    by_cases c3 : c < 48
    · have hb : chBad c k = true := by simp [chBad, c1, c2, c3]
      repeat first | (refine aops.cons fun K hK => ?_; simp [and_assoc, c1, k0, c2, c3]; (try simp (disch := omega) only [wrap64]); (repeat refine ⟨by omega, ?_⟩); refine hK _ ?_; clear hK K) | refine aops.nil ?_ | refine AW.seqR ttOK etOK ?_ | refine AW.lastR ttOK etOK ?_ | refine AW.seqSkip ?_ | refine AW.seq ?_ | refine AW.block ?_ | (refine AW.skip ?_; simp only [andThen, inBlk, ↓reduceIte]) | (refine AW.exit ?_; simp (disch := omega) only [andThen, inBlk, ↓reduceIte, Nat.reduceEqDiff]) | (guard_target =~ andThen _ _ _ _; simp only [andThen, inBlk, ↓reduceIte])
      refine AW.cond _ (by rfl) (fun _ => ?_) (fun hx => absurd hx (by simp [c1, k0, c2, c3]))
      repeat first | (refine aops.cons fun K hK => ?_; simp [and_assoc]; (try simp (disch := omega) only [wrap64]); (repeat refine ⟨by omega, ?_⟩); refine hK _ ?_; clear hK K) | refine aops.nil ?_ | refine AW.seqR ttOK etOK ?_ | refine AW.lastR ttOK etOK ?_ | refine AW.seqSkip ?_ | refine AW.seq ?_ | refine AW.block ?_ | (refine AW.skip ?_; simp only [andThen, inBlk, ↓reduceIte]) | (refine AW.exit ?_; simp (disch := omega) only [andThen, inBlk, ↓reduceIte, Nat.reduceEqDiff]) | (guard_target =~ andThen _ _ _ _; simp only [andThen, inBlk, ↓reduceIte])
      exact AW.ret (by simp [resL, resA, resV, resVs, andThen, inBlk, nameB, bad hb])
    by_cases c4 : 57 < c
    · have hb : chBad c k = true := by simp [chBad, c1, c2, c4]
      repeat first | (refine aops.cons fun K hK => ?_; simp [and_assoc, c1, k0, c2, c3, c4]; (try simp (disch := omega) only [wrap64]); (repeat refine ⟨by omega, ?_⟩); refine hK _ ?_; clear hK K) | refine aops.nil ?_ | refine AW.seqR ttOK etOK ?_ | refine AW.lastR ttOK etOK ?_ | refine AW.seqSkip ?_ | refine AW.seq ?_ | refine AW.block ?_ | (refine AW.skip ?_; simp only [andThen, inBlk, ↓reduceIte]) | (refine AW.exit ?_; simp (disch := omega) only [andThen, inBlk, ↓reduceIte, Nat.reduceEqDiff]) | (guard_target =~ andThen _ _ _ _; simp only [andThen, inBlk, ↓reduceIte])
      refine AW.cond _ (by rfl) (fun _ => ?_) (fun hx => absurd hx (by simp [c1, k0, c2, c3, c4]))
      repeat first | (refine aops.cons fun K hK => ?_; simp [and_assoc]; (try simp (disch := omega) only [wrap64]); (repeat refine ⟨by omega, ?_⟩); refine hK _ ?_; clear hK K) | refine aops.nil ?_ | refine AW.seqR ttOK etOK ?_ | refine AW.lastR ttOK etOK ?_ | refine AW.seqSkip ?_ | refine AW.seq ?_ | refine AW.block ?_ | (refine AW.skip ?_; simp only [andThen, inBlk, ↓reduceIte]) | (refine AW.exit ?_; simp (disch := omega) only [andThen, inBlk, ↓reduceIte, Nat.reduceEqDiff]) | (guard_target =~ andThen _ _ _ _; simp only [andThen, inBlk, ↓reduceIte])
      exact AW.ret (by simp [resL, resA, resV, resVs, andThen, inBlk, nameB, bad hb])
    · have hb : chBad c k = false := by simp [chBad, c1, c2, c3, c4, k0]
      repeat first | (refine aops.cons fun K hK => ?_; simp [and_assoc, c1, k0, c2, c3, c4]; (try simp (disch := omega) only [wrap64]); (repeat refine ⟨by omega, ?_⟩); refine hK _ ?_; clear hK K) | refine aops.nil ?_ | refine AW.seqR ttOK etOK ?_ | refine AW.lastR ttOK etOK ?_ | refine AW.seqSkip ?_ | refine AW.seq ?_ | refine AW.block ?_ | (refine AW.skip ?_; simp only [andThen, inBlk, ↓reduceIte]) | (refine AW.exit ?_; simp (disch := omega) only [andThen, inBlk, ↓reduceIte, Nat.reduceEqDiff]) | (guard_target =~ andThen _ _ _ _; simp only [andThen, inBlk, ↓reduceIte])
      refine AW.cond _ (by rfl) (fun hx => absurd hx (by simp [c1, k0, c2, c3, c4])) (fun _ => ?_)
      repeat first | (refine aops.cons fun K hK => ?_; simp [and_assoc]; (try simp (disch := omega) only [wrap64]); (repeat refine ⟨by omega, ?_⟩); refine hK _ ?_; clear hK K) | refine aops.nil ?_ | refine AW.seqR ttOK etOK ?_ | refine AW.lastR ttOK etOK ?_ | refine AW.seqSkip ?_ | refine AW.seq ?_ | refine AW.block ?_ | (refine AW.skip ?_; simp only [andThen, inBlk, ↓reduceIte]) | (refine AW.exit ?_; simp (disch := omega) only [andThen, inBlk, ↓reduceIte, Nat.reduceEqDiff]) | (guard_target =~ andThen _ _ _ _; simp only [andThen, inBlk, ↓reduceIte])
      exact good hb _ (Weak.to (by simp))
  by_cases c0 : 122 < c
  · have c2 : ¬ c = 95 := by omega
    have c3 : ¬ c < 48 := by omega
    have c4 : 57 < c := by omega
    have hb : chBad c k = true := by simp [chBad, c0, c2, c4]
    by_cases k0 : k = 0
    · repeat first | (refine aops.cons fun K hK => ?_; simp [and_assoc, c1, c0, k0]; (try simp (disch := omega) only [wrap64]); (repeat refine ⟨by omega, ?_⟩); refine hK _ ?_; clear hK K) | refine aops.nil ?_ | refine AW.seqR ttOK etOK ?_ | refine AW.lastR ttOK etOK ?_ | refine AW.seqSkip ?_ | refine AW.seq ?_ | refine AW.block ?_ | (refine AW.skip ?_; simp only [andThen, inBlk, ↓reduceIte]) | (refine AW.exit ?_; simp (disch := omega) only [andThen, inBlk, ↓reduceIte, Nat.reduceEqDiff]) | (guard_target =~ andThen _ _ _ _; simp only [andThen, inBlk, ↓reduceIte])
      refine AW.cond _ (by rfl) (fun _ => ?_) (fun hx => absurd hx (by simp [c1, c0, k0]))
      repeat first | (refine aops.cons fun K hK => ?_; simp [and_assoc]; (try simp (disch := omega) only [wrap64]); (repeat refine ⟨by omega, ?_⟩); refine hK _ ?_; clear hK K) | refine aops.nil ?_ | refine AW.seqR ttOK etOK ?_ | refine AW.lastR ttOK etOK ?_ | refine AW.seqSkip ?_ | refine AW.seq ?_ | refine AW.block ?_ | (refine AW.skip ?_; simp only [andThen, inBlk, ↓reduceIte]) | (refine AW.exit ?_; simp (disch := omega) only [andThen, inBlk, ↓reduceIte, Nat.reduceEqDiff]) | (guard_target =~ andThen _ _ _ _; simp only [andThen, inBlk, ↓reduceIte])
      exact AW.ret (by simp [resL, resA, resV, resVs, andThen, inBlk, nameB, bad hb])
    · repeat first | (refine aops.cons fun K hK => ?_; simp [and_assoc, c1, c0, k0, c2, c3, c4]; (try simp (disch := omega) only [wrap64]); (repeat refine ⟨by omega, ?_⟩); refine hK _ ?_; clear hK K) | refine aops.nil ?_ | refine AW.seqR ttOK etOK ?_ | refine AW.lastR ttOK etOK ?_ | refine AW.seqSkip ?_ | refine AW.seq ?_ | refine AW.block ?_ | (refine AW.skip ?_; simp only [andThen, inBlk, ↓reduceIte]) | (refine AW.exit ?_; simp (disch := omega) only [andThen, inBlk, ↓reduceIte, Nat.reduceEqDiff]) | (guard_target =~ andThen _ _ _ _; simp only [andThen, inBlk, ↓reduceIte])
      refine AW.cond _ (by rfl) (fun _ => ?_) (fun hx => absurd hx (by simp [c1, c0, k0, c2, c3, c4]))
      repeat first | (refine aops.cons fun K hK => ?_; simp [and_assoc]; (try simp (disch := omega) only [wrap64]); (repeat refine ⟨by omega, ?_⟩); refine hK _ ?_; clear hK K) | refine aops.nil ?_ | refine AW.seqR ttOK etOK ?_ | refine AW.lastR ttOK etOK ?_ | refine AW.seqSkip ?_ | refine AW.seq ?_ | refine AW.block ?_ | (refine AW.skip ?_; simp only [andThen, inBlk, ↓reduceIte]) | (refine AW.exit ?_; simp (disch := omega) only [andThen, inBlk, ↓reduceIte, Nat.reduceEqDiff]) | (guard_target =~ andThen _ _ _ _; simp only [andThen, inBlk, ↓reduceIte])
      exact AW.ret (by simp [resL, resA, resV, resVs, andThen, inBlk, nameB, bad hb])
  · have hb : chBad c k = false := by simp [chBad, c1, c0]
    repeat first | (refine aops.cons fun K hK => ?_; simp [and_assoc, c1, c0]; (try simp (disch := omega) only [wrap64]); (repeat refine ⟨by omega, ?_⟩); refine hK _ ?_; clear hK K) | refine aops.nil ?_ | refine AW.seqR ttOK etOK ?_ | refine AW.lastR ttOK etOK ?_ | refine AW.seqSkip ?_ | refine AW.seq ?_ | refine AW.block ?_ | (refine AW.skip ?_; simp only [andThen, inBlk, ↓reduceIte]) | (refine AW.exit ?_; simp (disch := omega) only [andThen, inBlk, ↓reduceIte, Nat.reduceEqDiff]) | (guard_target =~ andThen _ _ _ _; simp only [andThen, inBlk, ↓reduceIte])
    refine AW.cond _ (by rfl) (fun hx => absurd hx (by simp [c1, c0])) (fun _ => ?_)
    repeat first | (refine aops.cons fun K hK => ?_; simp [and_assoc]; (try simp (disch := omega) only [wrap64]); (repeat refine ⟨by omega, ?_⟩); refine hK _ ?_; clear hK K) | refine aops.nil ?_ | refine AW.seqR ttOK etOK ?_ | refine AW.lastR ttOK etOK ?_ | refine AW.seqSkip ?_ | refine AW.seq ?_ | refine AW.block ?_ | (refine AW.skip ?_; simp only [andThen, inBlk, ↓reduceIte]) | (refine AW.exit ?_; simp (disch := omega) only [andThen, inBlk, ↓reduceIte, Nat.reduceEqDiff]) | (guard_target =~ andThen _ _ _ _; simp only [andThen, inBlk, ↓reduceIte])
    exact good hb _ (Weak.to (by simp))
end Go.Proofs.Ab.Try
