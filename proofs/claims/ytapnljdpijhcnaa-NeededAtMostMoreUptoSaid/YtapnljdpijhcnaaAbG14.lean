/- A part of the proof of the law: it holds for all states of the abstract kind told in the first of these texts; no condition besides those its statements name. -/
import Derived.Test.YtapnljdpijhcnaaAbG12
import Derived.Test.YtapnljdpijhcnaaAbH1
namespace Go.Proofs.Ab.Try
open Go Go.Proofs Go.Proofs.Ab
set_option linter.unusedSimpArgs false
set_option linter.unusedVariables false
set_option maxHeartbeats 8000000
/-! ### The table of a name -/
theorem good_table1 (x : Named) (n : ByteArray) : Good Try.prog 59 [.ag ((namedC x).map .d), .d (.v (.string n))] (aI (cmpS x.name n)) := by
  refine goodF ttOK Try.func59 (vs := [.tmp 4]) (nt := 9) rfl rfl rfl (by kernel_rfl) (by simp) trivial ?_
  repeat first | (refine aops.cons fun K hK => ?_; simp [and_assoc]; (try simp (disch := omega) only [wrap64]); (repeat refine ⟨by omega, ?_⟩); refine hK _ ?_; clear hK K) | refine aops.nil ?_ | refine AW.seqR ttOK etOK ?_ | refine AW.lastR ttOK etOK ?_ | refine AW.seqSkip ?_ | refine AW.seq ?_ | refine AW.block ?_ | (refine AW.skip ?_; simp only [andThen, inBlk, ↓reduceIte]) | (refine AW.exit ?_; simp (disch := omega) only [andThen, inBlk, ↓reduceIte, Nat.reduceEqDiff]) | (guard_target =~ andThen _ _ _ _; simp only [andThen, inBlk, ↓reduceIte])
  refine aops.cons fun K hK => ?_
  simp [and_assoc]
  refine callA (good_Compare x.name n) (by repeat' constructor) (hK _ ?_)
  clear hK K
  repeat first | (refine aops.cons fun K hK => ?_; simp [and_assoc]; (try simp (disch := omega) only [wrap64]); (repeat refine ⟨by omega, ?_⟩); refine hK _ ?_; clear hK K) | refine aops.nil ?_ | refine AW.seqR ttOK etOK ?_ | refine AW.lastR ttOK etOK ?_ | refine AW.seqSkip ?_ | refine AW.seq ?_ | refine AW.block ?_ | (refine AW.skip ?_; simp only [andThen, inBlk, ↓reduceIte]) | (refine AW.exit ?_; simp (disch := omega) only [andThen, inBlk, ↓reduceIte, Nat.reduceEqDiff]) | (guard_target =~ andThen _ _ _ _; simp only [andThen, inBlk, ↓reduceIte])
  exact AW.ret (by simp [resL, resA, resV, resVs, andThen, inBlk])
def lessAt (t : List Named) (n : ByteArray) (h : Nat) : Bool := match t[h]? with | some x => decide (cmpS x.name n < 0) | none => false
def bs (p : Nat → Bool) (i j : Nat) : Nat := if h : i < j then (if p ((i + j) / 2) then bs p ((i + j) / 2 + 1) j else bs p i ((i + j) / 2)) else i
termination_by j - i
decreasing_by all_goals omega
theorem bs_le (p : Nat → Bool) : ∀ (n i j : Nat), j - i ≤ n → i ≤ j → bs p i j ≤ j := by
  intro n
  induction n with
  | zero => intro i j h1 h2; unfold bs; rw [dif_neg (by omega)]; omega
  | succ n ih =>
    intro i j h1 h2
    unfold bs
    split
    · split
      · exact ih _ _ (by omega) (by omega)
      · exact Nat.le_trans (ih _ _ (by omega) (by omega)) (by omega)
    · omega
def findAt (t : List Named) (n : ByteArray) : Nat := bs (lessAt t n) 0 t.length
def foundB (t : List Named) (n : ByteArray) : Bool := match t[findAt t n]? with | some x => cmpS x.name n == 0 | none => false
theorem u64w {n : Int} (h1 : 0 ≤ n) (h2 : n ≤ 18446744073709551615) : IntKind.u64.wrap n = n := IntWalk.u64_in n ⟨h1, h2⟩
theorem good_BinarySearch (t : List Named) (n : ByteArray) (ht : t.length ≤ 2000000) : Good Try.prog 58 [.bs 3 (t.map namedC), .d (.v (.string n)), .cl 59 []] (.tp [aI (findAt t n), aB (foundB t n)]) := by
  refine goodF ttOK Try.func58 (vs := [.tmp 6, .tmp 7]) (nt := 49) rfl rfl rfl (by kernel_rfl) (by simp) (by simp [dataA, dataL]) ?_
  repeat first | (refine aops.cons fun K hK => ?_; simp [and_assoc]; (try simp (disch := omega) only [wrap64]); (repeat refine ⟨by omega, ?_⟩); refine hK _ ?_; clear hK K) | refine aops.nil ?_ | refine AW.seqR ttOK etOK ?_ | refine AW.lastR ttOK etOK ?_ | refine AW.seqSkip ?_ | refine AW.seq ?_ | refine AW.block ?_ | (refine AW.skip ?_; simp only [andThen, inBlk, ↓reduceIte]) | (refine AW.exit ?_; simp (disch := omega) only [andThen, inBlk, ↓reduceIte, Nat.reduceEqDiff]) | (guard_target =~ andThen _ _ _ _; simp only [andThen, inBlk, ↓reduceIte])
  refine AW.iterI (fun k s => ∃ i j : Nat, s = ⟨49, [(0, .bs 3 (t.map namedC)), (1, .d (.v (.string n))), (2, .cl 59 []), (8, aI t.length), (9, aI i), (10, aI j)], []⟩ ∧ i ≤ j ∧ j ≤ t.length ∧ j - i + k ≤ t.length ∧ bs (lessAt t n) i j = findAt t n) t.length (s₀ := ⟨49, [(0, .bs 3 (t.map namedC)), (1, .d (.v (.string n))), (2, .cl 59 []), (8, aI t.length), (9, aI 0), (10, aI t.length)], []⟩) ?_ ?_ ?_
  · exact Weak.to (by simp)
  · exact ⟨0, t.length, rfl, by omega, by omega, by omega, rfl⟩
  rintro k s hk ⟨i, j, rfl, hij, hj, hm, hb⟩
  by_cases hlt : i < j
  rotate_left
  · have hi : i = findAt t n := by rw [← hb]; unfold bs; rw [dif_neg hlt]
    repeat first | (refine aops.cons fun K hK => ?_; simp [and_assoc]; (try simp (disch := omega) only [wrap64]); (repeat refine ⟨by omega, ?_⟩); refine hK _ ?_; clear hK K) | refine aops.nil ?_ | refine AW.seqR ttOK etOK ?_ | refine AW.lastR ttOK etOK ?_ | refine AW.seqSkip ?_ | refine AW.seq ?_ | refine AW.block ?_ | (refine AW.skip ?_; simp only [andThen, inBlk, ↓reduceIte]) | (refine AW.exit ?_; simp (disch := omega) only [andThen, inBlk, ↓reduceIte, Nat.reduceEqDiff]) | (guard_target =~ andThen _ _ _ _; simp only [andThen, inBlk, ↓reduceIte])
    refine AW.cond _ (by rfl) (fun hx => absurd hx (by simp [hlt])) (fun _ => ?_)
    by_cases hin : i < t.length
    · obtain ⟨x, hx⟩ : ∃ x, t[i]? = some x := ⟨t[i], List.getElem?_eq_getElem hin⟩
      have hx' : t[i] = x := (List.getElem?_eq_some_iff.1 hx).2
      repeat first | (refine aops.cons fun K hK => ?_; simp [and_assoc, hin, hx, hx']; (try simp (disch := omega) only [wrap64]); (repeat refine ⟨by omega, ?_⟩); refine hK _ ?_; clear hK K) | refine aops.nil ?_ | refine AW.seqR ttOK etOK ?_ | refine AW.lastR ttOK etOK ?_ | refine AW.seqSkip ?_ | refine AW.seq ?_ | refine AW.block ?_ | (refine AW.skip ?_; simp only [andThen, inBlk, ↓reduceIte]) | (refine AW.exit ?_; simp (disch := omega) only [andThen, inBlk, ↓reduceIte, Nat.reduceEqDiff]) | (guard_target =~ andThen _ _ _ _; simp only [andThen, inBlk, ↓reduceIte])
      refine aops.cons fun K hK => ?_
      simp [and_assoc, hin, hx, hx']
      refine callA (good_table1 x n) (by repeat' constructor) (hK _ ?_)
      clear hK K
      repeat first | (refine aops.cons fun K hK => ?_; simp [and_assoc, hin]; (try simp (disch := omega) only [wrap64]); (repeat refine ⟨by omega, ?_⟩); refine hK _ ?_; clear hK K) | refine aops.nil ?_ | refine AW.seqR ttOK etOK ?_ | refine AW.lastR ttOK etOK ?_ | refine AW.seqSkip ?_ | refine AW.seq ?_ | refine AW.block ?_ | (refine AW.skip ?_; simp only [andThen, inBlk, ↓reduceIte]) | (refine AW.exit ?_; simp (disch := omega) only [andThen, inBlk, ↓reduceIte, Nat.reduceEqDiff]) | (guard_target =~ andThen _ _ _ _; simp only [andThen, inBlk, ↓reduceIte])
      have hf : foundB t n = (cmpS x.name n == 0) := by unfold foundB; rw [← hi, hx]
      exact AW.ret (by simp [resL, resA, resV, resVs, andThen, inBlk, ← hi, hf])
    · repeat first | (refine aops.cons fun K hK => ?_; simp [and_assoc, hin]; (try simp (disch := omega) only [wrap64]); (repeat refine ⟨by omega, ?_⟩); refine hK _ ?_; clear hK K) | refine aops.nil ?_ | refine AW.seqR ttOK etOK ?_ | refine AW.lastR ttOK etOK ?_ | refine AW.seqSkip ?_ | refine AW.seq ?_ | refine AW.block ?_ | (refine AW.skip ?_; simp only [andThen, inBlk, ↓reduceIte]) | (refine AW.exit ?_; simp (disch := omega) only [andThen, inBlk, ↓reduceIte, Nat.reduceEqDiff]) | (guard_target =~ andThen _ _ _ _; simp only [andThen, inBlk, ↓reduceIte])
      have hf : foundB t n = false := by unfold foundB; rw [← hi, List.getElem?_eq_none (by omega)]
      exact AW.ret (by simp [resL, resA, resV, resVs, andThen, inBlk, ← hi, hf])
  · obtain ⟨h, hh⟩ : ∃ h, (i + j) / 2 = h := ⟨_, rfl⟩
    have hu : IntKind.u64.wrap ((i : Int) + j) = ((i + j : Nat) : Int) := by rw [u64w (by omega) (by omega)]; simp
    have hu2 : IntKind.u64.wrap (((i + j : Nat)) : Int) = ((i + j : Nat) : Int) := u64w (by omega) (by omega)
    have hd : ((i + j : Nat) : Int).fdiv 2 = (h : Int) := by rw [Int.fdiv_eq_ediv_of_nonneg _ (by omega)]; omega
    have hd2 : ((i : Int) + j).fdiv 2 = (h : Int) := by rw [Int.fdiv_eq_ediv_of_nonneg _ (by omega)]; omega
    have hw : IntKind.i64.wrap (h : Int) = h := wrap64 (by omega) (by omega)
    obtain ⟨x, hx⟩ : ∃ x, t[h]? = some x := ⟨t[h]'(by omega), List.getElem?_eq_getElem (by omega)⟩
    have hl : lessAt t n h = decide (cmpS x.name n < 0) := by unfold lessAt; rw [hx]
    have hbs : bs (lessAt t n) i j = if lessAt t n h then bs (lessAt t n) (h + 1) j else bs (lessAt t n) i h := by
      rw [bs, dif_pos hlt, hh]
    repeat first | (refine aops.cons fun K hK => ?_; simp [and_assoc]; (try simp (disch := omega) only [wrap64]); (repeat refine ⟨by omega, ?_⟩); refine hK _ ?_; clear hK K) | refine aops.nil ?_ | refine AW.seqR ttOK etOK ?_ | refine AW.lastR ttOK etOK ?_ | refine AW.seqSkip ?_ | refine AW.seq ?_ | refine AW.block ?_ | (refine AW.skip ?_; simp only [andThen, inBlk, ↓reduceIte]) | (refine AW.exit ?_; simp (disch := omega) only [andThen, inBlk, ↓reduceIte, Nat.reduceEqDiff]) | (guard_target =~ andThen _ _ _ _; simp only [andThen, inBlk, ↓reduceIte])
    refine AW.cond _ (by rfl) (fun _ => ?_) (fun hx => absurd hx (by simp [hlt]))
    repeat first | (refine aops.cons fun K hK => ?_; simp [and_assoc, hu, hu2, hd, hd2, hw, IntKind.bits, hx]; (try simp (disch := omega) only [wrap64]); (repeat refine ⟨by omega, ?_⟩); refine hK _ ?_; clear hK K) | refine aops.nil ?_ | refine AW.seqR ttOK etOK ?_ | refine AW.lastR ttOK etOK ?_ | refine AW.seqSkip ?_ | refine AW.seq ?_ | refine AW.block ?_ | (refine AW.skip ?_; simp only [andThen, inBlk, ↓reduceIte]) | (refine AW.exit ?_; simp (disch := omega) only [andThen, inBlk, ↓reduceIte, Nat.reduceEqDiff]) | (guard_target =~ andThen _ _ _ _; simp only [andThen, inBlk, ↓reduceIte])
    refine aops.cons fun K hK => ?_
    simp [and_assoc, hx]
    refine callA (good_table1 x n) (by repeat' constructor) (hK _ ?_)
    clear hK K
    repeat first | (refine aops.cons fun K hK => ?_; simp [and_assoc]; (try simp (disch := omega) only [wrap64]); (repeat refine ⟨by omega, ?_⟩); refine hK _ ?_; clear hK K) | refine aops.nil ?_ | refine AW.seqR ttOK etOK ?_ | refine AW.lastR ttOK etOK ?_ | refine AW.seqSkip ?_ | refine AW.seq ?_ | refine AW.block ?_ | (refine AW.skip ?_; simp only [andThen, inBlk, ↓reduceIte]) | (refine AW.exit ?_; simp (disch := omega) only [andThen, inBlk, ↓reduceIte, Nat.reduceEqDiff]) | (guard_target =~ andThen _ _ _ _; simp only [andThen, inBlk, ↓reduceIte])
    by_cases hc : cmpS x.name n < 0
    · refine AW.cond _ (by rfl) (fun _ => ?_) (fun hx => absurd hx (by simp [hc]))
      repeat first | (refine aops.cons fun K hK => ?_; simp [and_assoc]; (try simp (disch := omega) only [wrap64]); (repeat refine ⟨by omega, ?_⟩); refine hK _ ?_; clear hK K) | refine aops.nil ?_ | refine AW.seqR ttOK etOK ?_ | refine AW.lastR ttOK etOK ?_ | refine AW.seqSkip ?_ | refine AW.seq ?_ | refine AW.block ?_ | (refine AW.skip ?_; simp only [andThen, inBlk, ↓reduceIte]) | (refine AW.exit ?_; simp (disch := omega) only [andThen, inBlk, ↓reduceIte, Nat.reduceEqDiff]) | (guard_target =~ andThen _ _ _ _; simp only [andThen, inBlk, ↓reduceIte])
      refine ⟨by omega, ⟨49, [(0, .bs 3 (t.map namedC)), (1, .d (.v (.string n))), (2, .cl 59 []), (8, aI t.length), (9, aI (h + 1)), (10, aI j)], []⟩, Weak.to (by simp), h + 1, j, by simp, by omega, by omega, by omega, ?_⟩
      rw [← hb, hbs, hl]; simp [hc]
    · refine AW.cond _ (by rfl) (fun hx => absurd hx (by simp [hc])) (fun _ => ?_)
      repeat first | (refine aops.cons fun K hK => ?_; simp [and_assoc]; (try simp (disch := omega) only [wrap64]); (repeat refine ⟨by omega, ?_⟩); refine hK _ ?_; clear hK K) | refine aops.nil ?_ | refine AW.seqR ttOK etOK ?_ | refine AW.lastR ttOK etOK ?_ | refine AW.seqSkip ?_ | refine AW.seq ?_ | refine AW.block ?_ | (refine AW.skip ?_; simp only [andThen, inBlk, ↓reduceIte]) | (refine AW.exit ?_; simp (disch := omega) only [andThen, inBlk, ↓reduceIte, Nat.reduceEqDiff]) | (guard_target =~ andThen _ _ _ _; simp only [andThen, inBlk, ↓reduceIte])
      refine ⟨by omega, ⟨49, [(0, .bs 3 (t.map namedC)), (1, .d (.v (.string n))), (2, .cl 59 []), (8, aI t.length), (9, aI i), (10, aI h)], []⟩, Weak.to (by simp), i, h, by simp, by omega, by omega, by omega, ?_⟩
      rw [← hb, hbs, hl]; simp [hc]
theorem found_get {t : List Named} {n : ByteArray} (h : foundB t n = true) : ∃ x, t[findAt t n]? = some x := by
  unfold foundB at h
  cases hx : t[findAt t n]? with
  | none => rw [hx] at h; cases h
  | some x => exact ⟨x, rfl⟩
theorem good_table_some (t : List Named) (n : ByteArray) (ht : t.length ≤ 2000000) (hf : foundB t n = true) (x : Named) (hx : t[findAt t n]? = some x) : Good Try.prog 36 [.d (.sl 3 (t.map namedC)), .d (.v (.string n))] (.tp [.ag ((tabC x.tab).map .d), aB true]) := by
  refine goodF ttOK Try.func36 (vs := [.cell 4 81, .tmp 5]) (nt := 22) rfl rfl rfl (by kernel_rfl) (by simp) (by simp [dataA, dataL]) ?_
  repeat first | (refine aops.cons fun K hK => ?_; simp [and_assoc]; (try simp (disch := omega) only [wrap64]); (repeat refine ⟨by omega, ?_⟩); refine hK _ ?_; clear hK K) | refine aops.nil ?_ | refine AW.seqR ttOK etOK ?_ | refine AW.lastR ttOK etOK ?_ | refine AW.seqSkip ?_ | refine AW.seq ?_ | refine AW.block ?_ | (refine AW.skip ?_; simp only [andThen, inBlk, ↓reduceIte]) | (refine AW.exit ?_; simp (disch := omega) only [andThen, inBlk, ↓reduceIte, Nat.reduceEqDiff]) | (guard_target =~ andThen _ _ _ _; simp only [andThen, inBlk, ↓reduceIte])
  refine aops.cons fun K hK => ?_
  simp [and_assoc]
  refine callA (good_BinarySearch t n ht) (by repeat' constructor) (hK _ ?_)
  clear hK K
  repeat first | (refine aops.cons fun K hK => ?_; simp [and_assoc]; (try simp (disch := omega) only [wrap64]); (repeat refine ⟨by omega, ?_⟩); refine hK _ ?_; clear hK K) | refine aops.nil ?_ | refine AW.seqR ttOK etOK ?_ | refine AW.lastR ttOK etOK ?_ | refine AW.seqSkip ?_ | refine AW.seq ?_ | refine AW.block ?_ | (refine AW.skip ?_; simp only [andThen, inBlk, ↓reduceIte]) | (refine AW.exit ?_; simp (disch := omega) only [andThen, inBlk, ↓reduceIte, Nat.reduceEqDiff]) | (guard_target =~ andThen _ _ _ _; simp only [andThen, inBlk, ↓reduceIte])
  refine AW.cond _ (by rfl) (fun hx => absurd hx (by simp [hf])) (fun _ => ?_)
  repeat first | (refine aops.cons fun K hK => ?_; simp [and_assoc, hx]; (try simp (disch := omega) only [wrap64]); (repeat refine ⟨by omega, ?_⟩); refine hK _ ?_; clear hK K) | refine aops.nil ?_ | refine AW.seqR ttOK etOK ?_ | refine AW.lastR ttOK etOK ?_ | refine AW.seqSkip ?_ | refine AW.seq ?_ | refine AW.block ?_ | (refine AW.skip ?_; simp only [andThen, inBlk, ↓reduceIte]) | (refine AW.exit ?_; simp (disch := omega) only [andThen, inBlk, ↓reduceIte, Nat.reduceEqDiff]) | (guard_target =~ andThen _ _ _ _; simp only [andThen, inBlk, ↓reduceIte])
  exact AW.ret (by simp [resL, resA, resV, resVs, andThen, inBlk])
theorem good_table_none (t : List Named) (n : ByteArray) (ht : t.length ≤ 2000000) (hf : foundB t n = false) : Good Try.prog 36 [.d (.sl 3 (t.map namedC)), .d (.v (.string n))] (.tp [.ag [aNil, aNil], aB false]) := by
  refine goodF ttOK Try.func36 (vs := [.cell 4 81, .tmp 5]) (nt := 22) rfl rfl rfl (by kernel_rfl) (by simp) (by simp [dataA, dataL]) ?_
  repeat first | (refine aops.cons fun K hK => ?_; simp [and_assoc]; (try simp (disch := omega) only [wrap64]); (repeat refine ⟨by omega, ?_⟩); refine hK _ ?_; clear hK K) | refine aops.nil ?_ | refine AW.seqR ttOK etOK ?_ | refine AW.lastR ttOK etOK ?_ | refine AW.seqSkip ?_ | refine AW.seq ?_ | refine AW.block ?_ | (refine AW.skip ?_; simp only [andThen, inBlk, ↓reduceIte]) | (refine AW.exit ?_; simp (disch := omega) only [andThen, inBlk, ↓reduceIte, Nat.reduceEqDiff]) | (guard_target =~ andThen _ _ _ _; simp only [andThen, inBlk, ↓reduceIte])
  refine aops.cons fun K hK => ?_
  simp [and_assoc]
  refine callA (good_BinarySearch t n ht) (by repeat' constructor) (hK _ ?_)
  clear hK K
  repeat first | (refine aops.cons fun K hK => ?_; simp [and_assoc]; (try simp (disch := omega) only [wrap64]); (repeat refine ⟨by omega, ?_⟩); refine hK _ ?_; clear hK K) | refine aops.nil ?_ | refine AW.seqR ttOK etOK ?_ | refine AW.lastR ttOK etOK ?_ | refine AW.seqSkip ?_ | refine AW.seq ?_ | refine AW.block ?_ | (refine AW.skip ?_; simp only [andThen, inBlk, ↓reduceIte]) | (refine AW.exit ?_; simp (disch := omega) only [andThen, inBlk, ↓reduceIte, Nat.reduceEqDiff]) | (guard_target =~ andThen _ _ _ _; simp only [andThen, inBlk, ↓reduceIte])
  refine AW.cond _ (by rfl) (fun _ => ?_) (fun hx => absurd hx (by simp [hf]))
  repeat first | (refine aops.cons fun K hK => ?_; simp [and_assoc]; (try simp (disch := omega) only [wrap64]); (repeat refine ⟨by omega, ?_⟩); refine hK _ ?_; clear hK K) | refine aops.nil ?_ | refine AW.seqR ttOK etOK ?_ | refine AW.lastR ttOK etOK ?_ | refine AW.seqSkip ?_ | refine AW.seq ?_ | refine AW.block ?_ | (refine AW.skip ?_; simp only [andThen, inBlk, ↓reduceIte]) | (refine AW.exit ?_; simp (disch := omega) only [andThen, inBlk, ↓reduceIte, Nat.reduceEqDiff]) | (guard_target =~ andThen _ _ _ _; simp only [andThen, inBlk, ↓reduceIte])
  exact AW.ret (by simp [resL, resA, resV, resVs, andThen, inBlk])
end Go.Proofs.Ab.Try
