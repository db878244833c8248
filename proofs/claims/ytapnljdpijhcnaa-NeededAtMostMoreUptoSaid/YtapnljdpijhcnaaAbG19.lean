/- A part of the proof of the law: it holds for all states of the abstract kind told in the first of these texts; no condition besides those its statements name. -/
import Derived.Test.YtapnljdpijhcnaaAbG18
import Derived.Test.YtapnljdpijhcnaaAbG17
namespace Go.Proofs.Ab.Try
open Go Go.Proofs Go.Proofs.Ab
set_option linter.unusedSimpArgs false
set_option linter.unusedVariables false
set_option maxHeartbeats 8000000
def unionI (a b : List Int) : List Int := setOf (a ++ b)
theorem unionI_le (a b : List Int) : (unionI a b).length ≤ a.length + b.length := by
  unfold unionI
  exact Nat.le_trans (setOf_le _) (by simp)
theorem good_union (a b : List Int) (h : a.length + b.length ≤ 2000000) : Good Try.prog 16 [.d (.sl 1 (eI a)), .d (.sl 1 (eI b))] (.d (.sl 1 (eI (unionI a b)))) := by
  refine goodF ttOK Try.func16 (vs := [.tmp 4]) (nt := 14) rfl rfl rfl (by kernel_rfl) (by simp) trivial ?_
  have hcc := goodN_ConcatI [a, b] (by simp) (by simp [sumLen]; omega)
  have hfl : [a, b].flatten = a ++ b := by simp
  rw [hfl] at hcc
  generalize hz : a ++ b = zs at hcc
  have hzl : zs.length < 4611686018427387904 := by rw [← hz]; simp; omega
  have hS : (zs.mergeSort fun x y => decide (x ≤ y)).length = zs.length := by simp
  have hc := Lib.compact_length_le (zs.mergeSort fun x y => decide (x ≤ y))
  rw [hS] at hc
  repeat first | (refine aops.cons fun K hK => ?_; simp [and_assoc]; (try simp (disch := omega) only [wrap64]); (repeat refine ⟨by omega, ?_⟩); refine hK _ ?_; clear hK K) | refine aops.nil ?_ | refine AW.seqR ttOK etOK ?_ | refine AW.lastR ttOK etOK ?_ | refine AW.seqSkip ?_ | refine AW.seq ?_ | refine AW.block ?_ | (refine AW.skip ?_; simp only [andThen, inBlk, ↓reduceIte]) | (refine AW.exit ?_; simp (disch := omega) only [andThen, inBlk, ↓reduceIte, Nat.reduceEqDiff]) | (guard_target =~ andThen _ _ _ _; simp only [andThen, inBlk, ↓reduceIte])
  refine aops.consX fun K hK => callN (hcc) rfl rfl rfl (by simp; rfl) (by repeat' constructor) rfl (by simp) (by simp; rfl) (hK _ ?_)
  repeat first | (refine aops.cons fun K hK => ?_; simp [and_assoc]; (try simp (disch := omega) only [wrap64]); (repeat refine ⟨by omega, ?_⟩); refine hK _ ?_; clear hK K) | refine aops.nil ?_ | refine AW.seqR ttOK etOK ?_ | refine AW.lastR ttOK etOK ?_ | refine AW.seqSkip ?_ | refine AW.seq ?_ | refine AW.block ?_ | (refine AW.skip ?_; simp only [andThen, inBlk, ↓reduceIte]) | (refine AW.exit ?_; simp (disch := omega) only [andThen, inBlk, ↓reduceIte, Nat.reduceEqDiff]) | (guard_target =~ andThen _ _ _ _; simp only [andThen, inBlk, ↓reduceIte])
  refine aops.consX fun K hK => callI (good_Sort zs hzl) rfl rfl rfl rfl rfl (by first | (simp [eI_dropAll]; done) | rw [List.take_of_length_le (by simp [eI_dropAll])]) (by simp [eI_dropAll]) (by simp) (by simp [eI_dropAll]; rfl) (hK _ ?_)
  repeat first | (refine aops.cons fun K hK => ?_; simp [and_assoc]; (try simp (disch := omega) only [wrap64]); (repeat refine ⟨by omega, ?_⟩); refine hK _ ?_; clear hK K) | refine aops.nil ?_ | refine AW.seqR ttOK etOK ?_ | refine AW.lastR ttOK etOK ?_ | refine AW.seqSkip ?_ | refine AW.seq ?_ | refine AW.block ?_ | (refine AW.skip ?_; simp only [andThen, inBlk, ↓reduceIte]) | (refine AW.exit ?_; simp (disch := omega) only [andThen, inBlk, ↓reduceIte, Nat.reduceEqDiff]) | (guard_target =~ andThen _ _ _ _; simp only [andThen, inBlk, ↓reduceIte])
  refine aops.consX fun K hK => callI (good_Compact (zs.mergeSort fun x y => decide (x ≤ y)) (by omega)) rfl rfl rfl rfl rfl (by first | (simp [eI_dropAll]; done) | rw [List.take_of_length_le (by simp [eI_dropAll])]) (by simp [eI_dropAll]) (by simp) (by simp [eI_dropAll]; rfl) (hK _ ?_)
  repeat first | (refine aops.cons fun K hK => ?_; simp [and_assoc]; (try simp (disch := omega) only [wrap64]); (repeat refine ⟨by omega, ?_⟩); refine hK _ ?_; clear hK K) | refine aops.nil ?_ | refine AW.seqR ttOK etOK ?_ | refine AW.lastR ttOK etOK ?_ | refine AW.seqSkip ?_ | refine AW.seq ?_ | refine AW.block ?_ | (refine AW.skip ?_; simp only [andThen, inBlk, ↓reduceIte]) | (refine AW.exit ?_; simp (disch := omega) only [andThen, inBlk, ↓reduceIte, Nat.reduceEqDiff]) | (guard_target =~ andThen _ _ _ _; simp only [andThen, inBlk, ↓reduceIte])
  refine AW.weakE (Weak.freeze _ 9 (by rfl)) (by simp; rfl) ?_
  exact AW.ret (by simp [resL, resA, resV, resVs, andThen, inBlk, unionI, setOf, hz, eI_take])
def usedL (l : List (List Node)) : List Int → List Int → List Int
  | out, [] => out
  | out, k :: r => usedL l (unionI out (usedE ((l[k.toNat]?).getD []))) r
theorem usedE_le (e : List Node) : (usedE e).length ≤ e.length := Nat.le_trans (setOf_le _) (colsIn_le e)
theorem good_used (l : List (List Node)) (some' : List Int) (hl : ∀ e ∈ l, e.length ≤ 1000) (hs : some'.length ≤ 1000) (hb : ∀ k ∈ some', inR k 0 ((l.length : Int) - 1) = true) :
    Good Try.prog 18 [.d (.sl 1 (l.map exprC)), .d (.sl 1 (eI some'))] (.d (.sl 1 (eI (usedL l [] some')))) := by
  refine goodF ttOK Try.func18 (vs := [.tmp 4]) (nt := 23) rfl rfl rfl (by kernel_rfl) (by simp) trivial ?_
  repeat first | (refine aops.cons fun K hK => ?_; simp [and_assoc]; (try simp (disch := omega) only [wrap64]); (repeat refine ⟨by omega, ?_⟩); refine hK _ ?_; clear hK K) | refine aops.nil ?_ | refine AW.seqR ttOK etOK ?_ | refine AW.lastR ttOK etOK ?_ | refine AW.seqSkip ?_ | refine AW.seq ?_ | refine AW.block ?_ | (refine AW.skip ?_; simp only [andThen, inBlk, ↓reduceIte]) | (refine AW.exit ?_; simp (disch := omega) only [andThen, inBlk, ↓reduceIte, Nat.reduceEqDiff]) | (guard_target =~ andThen _ _ _ _; simp only [andThen, inBlk, ↓reduceIte])
  refine AW.iterI (fun k s => ∃ out, s = ⟨23, [(0, .d (.sl 1 (l.map exprC))), (5, .d (.sl 1 (eI out))), (8, .d (.sl 1 (eI some'))), (9, aI some'.length), (10, aI k)], []⟩ ∧ out.length ≤ 1000 * k ∧ usedL l out (some'.drop k) = usedL l [] some') some'.length (s₀ := ⟨23, [(0, .d (.sl 1 (l.map exprC))), (5, .d (.sl 1 (eI []))), (8, .d (.sl 1 (eI some'))), (9, aI some'.length), (10, aI 0)], []⟩) ?_ ?_ ?_
  · exact Weak.to (by simp [eI, Le.nild])
  · exact ⟨[], rfl, by simp, by simp⟩
  rintro k s hk ⟨out, rfl, h1, h2⟩
  cases hd : some'.drop k with
  | nil =>
    have : some'.length ≤ k := by simpa using hd
    rw [hd] at h2
    repeat first | (refine aops.cons fun K hK => ?_; simp [and_assoc]; (try simp (disch := omega) only [wrap64]); (repeat refine ⟨by omega, ?_⟩); refine hK _ ?_; clear hK K) | refine aops.nil ?_ | refine AW.seqR ttOK etOK ?_ | refine AW.lastR ttOK etOK ?_ | refine AW.seqSkip ?_ | refine AW.seq ?_ | refine AW.block ?_ | (refine AW.skip ?_; simp only [andThen, inBlk, ↓reduceIte]) | (refine AW.exit ?_; simp (disch := omega) only [andThen, inBlk, ↓reduceIte, Nat.reduceEqDiff]) | (guard_target =~ andThen _ _ _ _; simp only [andThen, inBlk, ↓reduceIte])
    refine AW.cond _ (by rfl) (fun hx => absurd hx (by simp [this])) (fun _ => ?_)
    repeat first | (refine aops.cons fun K hK => ?_; simp [and_assoc]; (try simp (disch := omega) only [wrap64]); (repeat refine ⟨by omega, ?_⟩); refine hK _ ?_; clear hK K) | refine aops.nil ?_ | refine AW.seqR ttOK etOK ?_ | refine AW.lastR ttOK etOK ?_ | refine AW.seqSkip ?_ | refine AW.seq ?_ | refine AW.block ?_ | (refine AW.skip ?_; simp only [andThen, inBlk, ↓reduceIte]) | (refine AW.exit ?_; simp (disch := omega) only [andThen, inBlk, ↓reduceIte, Nat.reduceEqDiff]) | (guard_target =~ andThen _ _ _ _; simp only [andThen, inBlk, ↓reduceIte])
    exact AW.ret (by simp [resL, resA, resV, resVs, andThen, inBlk, ← h2, usedL])
  | cons x r =>
    obtain ⟨hx, hr, hlt⟩ := get_of_drop hd
    rw [hd] at h2
    have hxb := hb x (List.mem_of_getElem? hx)
    simp [inR] at hxb
    obtain ⟨m, hm⟩ : ∃ m : Nat, x = m := ⟨x.toNat, by omega⟩
    obtain ⟨e, he⟩ : ∃ e, l[m]? = some e := ⟨l[m]'(by omega), List.getElem?_eq_getElem (by omega)⟩
    have hel := hl e (List.mem_of_getElem? he)
    have hu := usedE_le e
    have huu := unionI_le out (usedE e)
    repeat first | (refine aops.cons fun K hK => ?_; simp [and_assoc]; (try simp (disch := omega) only [wrap64]); (repeat refine ⟨by omega, ?_⟩); refine hK _ ?_; clear hK K) | refine aops.nil ?_ | refine AW.seqR ttOK etOK ?_ | refine AW.lastR ttOK etOK ?_ | refine AW.seqSkip ?_ | refine AW.seq ?_ | refine AW.block ?_ | (refine AW.skip ?_; simp only [andThen, inBlk, ↓reduceIte]) | (refine AW.exit ?_; simp (disch := omega) only [andThen, inBlk, ↓reduceIte, Nat.reduceEqDiff]) | (guard_target =~ andThen _ _ _ _; simp only [andThen, inBlk, ↓reduceIte])
    refine AW.cond _ (by rfl) (fun _ => ?_) (fun hx => absurd hx (by simp [hlt]))
    repeat first | (refine aops.cons fun K hK => ?_; simp [and_assoc, eI_get, hx, hm, he]; (try simp (disch := omega) only [wrap64]); (repeat refine ⟨by omega, ?_⟩); refine hK _ ?_; clear hK K) | refine aops.nil ?_ | refine AW.seqR ttOK etOK ?_ | refine AW.lastR ttOK etOK ?_ | refine AW.seqSkip ?_ | refine AW.seq ?_ | refine AW.block ?_ | (refine AW.skip ?_; simp only [andThen, inBlk, ↓reduceIte]) | (refine AW.exit ?_; simp (disch := omega) only [andThen, inBlk, ↓reduceIte, Nat.reduceEqDiff]) | (guard_target =~ andThen _ _ _ _; simp only [andThen, inBlk, ↓reduceIte])
    refine aops.cons fun K hK => ?_
    simp [and_assoc]
    refine callA (good_Used e (by omega)) (by repeat' constructor) (hK _ ?_)
    clear hK K
    repeat first | (refine aops.cons fun K hK => ?_; simp [and_assoc]; (try simp (disch := omega) only [wrap64]); (repeat refine ⟨by omega, ?_⟩); refine hK _ ?_; clear hK K) | refine aops.nil ?_ | refine AW.seqR ttOK etOK ?_ | refine AW.lastR ttOK etOK ?_ | refine AW.seqSkip ?_ | refine AW.seq ?_ | refine AW.block ?_ | (refine AW.skip ?_; simp only [andThen, inBlk, ↓reduceIte]) | (refine AW.exit ?_; simp (disch := omega) only [andThen, inBlk, ↓reduceIte, Nat.reduceEqDiff]) | (guard_target =~ andThen _ _ _ _; simp only [andThen, inBlk, ↓reduceIte])
    refine aops.cons fun K hK => ?_
    simp [and_assoc]
    refine callA (good_union out (usedE e) (by omega)) (by repeat' constructor) (hK _ ?_)
    clear hK K
    repeat first | (refine aops.cons fun K hK => ?_; simp [and_assoc]; (try simp (disch := omega) only [wrap64]); (repeat refine ⟨by omega, ?_⟩); refine hK _ ?_; clear hK K) | refine aops.nil ?_ | refine AW.seqR ttOK etOK ?_ | refine AW.lastR ttOK etOK ?_ | refine AW.seqSkip ?_ | refine AW.seq ?_ | refine AW.block ?_ | (refine AW.skip ?_; simp only [andThen, inBlk, ↓reduceIte]) | (refine AW.exit ?_; simp (disch := omega) only [andThen, inBlk, ↓reduceIte, Nat.reduceEqDiff]) | (guard_target =~ andThen _ _ _ _; simp only [andThen, inBlk, ↓reduceIte])
    refine ⟨hlt, ⟨23, [(0, .d (.sl 1 (l.map exprC))), (5, .d (.sl 1 (eI (unionI out (usedE e))))), (8, .d (.sl 1 (eI some'))), (9, aI some'.length), (10, aI (k + 1))], []⟩, Weak.to (by simp), unionI out (usedE e), by simp, by omega, ?_⟩
    rw [hr, ← h2]
    simp [usedL, hm, he]
def upToI : Nat → Nat → List Int
  | _, 0 => []
  | i, n + 1 => (i : Int) :: upToI (i + 1) n
theorem upToI_length : ∀ (n i : Nat), (upToI i n).length = n := by
  intro n
  induction n with
  | zero => intro i; rfl
  | succ n ih => intro i; simp [upToI, ih]
theorem good_upTo (n : Nat) (hn : n ≤ 2000000) : Good Try.prog 20 [aI n] (.d (.sl 1 (eI (upToI 0 n)))) := by
  refine goodF ttOK Try.func20 (vs := [.tmp 2]) (nt := 15) rfl rfl rfl (by kernel_rfl) (by simp) trivial ?_
  repeat first | (refine aops.cons fun K hK => ?_; simp [and_assoc]; (try simp (disch := omega) only [wrap64]); (repeat refine ⟨by omega, ?_⟩); refine hK _ ?_; clear hK K) | refine aops.nil ?_ | refine AW.seqR ttOK etOK ?_ | refine AW.lastR ttOK etOK ?_ | refine AW.seqSkip ?_ | refine AW.seq ?_ | refine AW.block ?_ | (refine AW.skip ?_; simp only [andThen, inBlk, ↓reduceIte]) | (refine AW.exit ?_; simp (disch := omega) only [andThen, inBlk, ↓reduceIte, Nat.reduceEqDiff]) | (guard_target =~ andThen _ _ _ _; simp only [andThen, inBlk, ↓reduceIte])
  refine AW.iterI (fun k s => ∃ out, s = ⟨15, [(3, .ms 12 1 0 out.length), (5, aI n), (6, aI k)], [(12, .arr 1 (eI out))]⟩ ∧ out.length = k ∧ out ++ upToI k (n - k) = upToI 0 n) n (s₀ := ⟨15, [(3, .ms 12 1 0 0), (5, aI n), (6, aI 0)], [(12, .arr 1 (eI []))]⟩) ?_ ?_ ?_
  · refine Weak.thenE (Weak.own _ 3 12 1 (by rfl) (by rfl)) (by simp; rfl) ?_
    exact Weak.to2 (by simp) (by simp)
  · exact ⟨[], rfl, rfl, by simp⟩
  rintro k s hk ⟨out, rfl, h1, h2⟩
  by_cases hlt : k < n
  · have hn1 : n - k = (n - (k + 1)) + 1 := by omega
    rw [hn1, upToI] at h2
    repeat first | (refine aops.cons fun K hK => ?_; simp [and_assoc]; (try simp (disch := omega) only [wrap64]); (repeat refine ⟨by omega, ?_⟩); refine hK _ ?_; clear hK K) | refine aops.nil ?_ | refine AW.seqR ttOK etOK ?_ | refine AW.lastR ttOK etOK ?_ | refine AW.seqSkip ?_ | refine AW.seq ?_ | refine AW.block ?_ | (refine AW.skip ?_; simp only [andThen, inBlk, ↓reduceIte]) | (refine AW.exit ?_; simp (disch := omega) only [andThen, inBlk, ↓reduceIte, Nat.reduceEqDiff]) | (guard_target =~ andThen _ _ _ _; simp only [andThen, inBlk, ↓reduceIte])
    refine AW.cond _ (by rfl) (fun _ => ?_) (fun hx => absurd hx (by simp [hlt]))
    repeat first | (refine aops.cons fun K hK => ?_; simp [and_assoc, eI_take, eI_append, eI_one]; (try simp (disch := omega) only [wrap64]); (repeat refine ⟨by omega, ?_⟩); refine hK _ ?_; clear hK K) | refine aops.nil ?_ | refine AW.seqR ttOK etOK ?_ | refine AW.lastR ttOK etOK ?_ | refine AW.seqSkip ?_ | refine AW.seq ?_ | refine AW.block ?_ | (refine AW.skip ?_; simp only [andThen, inBlk, ↓reduceIte]) | (refine AW.exit ?_; simp (disch := omega) only [andThen, inBlk, ↓reduceIte, Nat.reduceEqDiff]) | (guard_target =~ andThen _ _ _ _; simp only [andThen, inBlk, ↓reduceIte])
    refine ⟨hlt, ⟨15, [(3, .ms 12 1 0 (out.length + 1)), (5, aI n), (6, aI (k + 1))], [(12, .arr 1 (eI (out ++ [(k : Int)])))]⟩, ?_, out ++ [(k : Int)], by simp, by simp [h1], by simpa using h2⟩
    refine Weak.thenE (Weak.killE _ 11) (by simp; rfl) ?_
    exact Weak.to2 (by simp) (by simp)
  · have e0 : n - k = 0 := by omega
    rw [e0] at h2
    simp only [upToI, List.append_nil] at h2
    repeat first | (refine aops.cons fun K hK => ?_; simp [and_assoc]; (try simp (disch := omega) only [wrap64]); (repeat refine ⟨by omega, ?_⟩); refine hK _ ?_; clear hK K) | refine aops.nil ?_ | refine AW.seqR ttOK etOK ?_ | refine AW.lastR ttOK etOK ?_ | refine AW.seqSkip ?_ | refine AW.seq ?_ | refine AW.block ?_ | (refine AW.skip ?_; simp only [andThen, inBlk, ↓reduceIte]) | (refine AW.exit ?_; simp (disch := omega) only [andThen, inBlk, ↓reduceIte, Nat.reduceEqDiff]) | (guard_target =~ andThen _ _ _ _; simp only [andThen, inBlk, ↓reduceIte])
    refine AW.cond _ (by rfl) (fun hx => absurd hx (by simp [hlt])) (fun _ => ?_)
    repeat first | (refine aops.cons fun K hK => ?_; simp [and_assoc]; (try simp (disch := omega) only [wrap64]); (repeat refine ⟨by omega, ?_⟩); refine hK _ ?_; clear hK K) | refine aops.nil ?_ | refine AW.seqR ttOK etOK ?_ | refine AW.lastR ttOK etOK ?_ | refine AW.seqSkip ?_ | refine AW.seq ?_ | refine AW.block ?_ | (refine AW.skip ?_; simp only [andThen, inBlk, ↓reduceIte]) | (refine AW.exit ?_; simp (disch := omega) only [andThen, inBlk, ↓reduceIte, Nat.reduceEqDiff]) | (guard_target =~ andThen _ _ _ _; simp only [andThen, inBlk, ↓reduceIte])
    refine AW.weakE (Weak.freeze _ 12 (by rfl)) (by simp; rfl) ?_
    exact AW.ret (by simp [resL, resA, resV, resVs, andThen, inBlk, eI_take, ← h2])
def sideA (w : Int) : List Int → List Int
  | [] => []
  | k :: r => if k < w then k :: sideA w r else sideA w r
def sideB (w : Int) : List Int → List Int
  | [] => []
  | k :: r => if k < w then sideB w r else (k - w) :: sideB w r
theorem good_sides (l : List Int) (w : Nat) (hl : l.length ≤ 2000000) (hw : w ≤ 1000) (hb : ∀ k ∈ l, -1000000000 ≤ k ∧ k ≤ 1000000000) : Good Try.prog 19 [.d (.sl 1 (eI l)), aI w] (.tp [.d (.sl 1 (eI (sideA w l))), .d (.sl 1 (eI (sideB w l)))]) := by
  refine goodF ttOK Try.func19 (vs := [.tmp 4, .tmp 5]) (nt := 30) rfl rfl rfl (by kernel_rfl) (by simp) (by simp [dataA, dataL]) ?_
  repeat first | (refine aops.cons fun K hK => ?_; simp [and_assoc]; (try simp (disch := omega) only [wrap64]); (repeat refine ⟨by omega, ?_⟩); refine hK _ ?_; clear hK K) | refine aops.nil ?_ | refine AW.seqR ttOK etOK ?_ | refine AW.lastR ttOK etOK ?_ | refine AW.seqSkip ?_ | refine AW.seq ?_ | refine AW.block ?_ | (refine AW.skip ?_; simp only [andThen, inBlk, ↓reduceIte]) | (refine AW.exit ?_; simp (disch := omega) only [andThen, inBlk, ↓reduceIte, Nat.reduceEqDiff]) | (guard_target =~ andThen _ _ _ _; simp only [andThen, inBlk, ↓reduceIte])
  refine AW.iterI (fun k s => ∃ a b, s = ⟨30, [(1, aI w), (4, .ms 20 1 0 a.length), (5, .ms 26 1 0 b.length), (8, .d (.sl 1 (eI l))), (9, aI l.length), (10, aI k)], [(20, .arr 1 (eI a)), (26, .arr 1 (eI b))]⟩ ∧ a.length + b.length ≤ k ∧ a ++ sideA w (l.drop k) = sideA w l ∧ b ++ sideB w (l.drop k) = sideB w l) l.length (s₀ := ⟨30, [(1, aI w), (4, .ms 20 1 0 0), (5, .ms 26 1 0 0), (8, .d (.sl 1 (eI l))), (9, aI l.length), (10, aI 0)], [(20, .arr 1 (eI [])), (26, .arr 1 (eI []))]⟩) ?_ ?_ ?_
  · refine Weak.thenE (Weak.own _ 5 26 1 (by rfl) (by rfl)) (by simp; rfl) ?_
    refine Weak.thenE (Weak.own _ 4 20 1 (by rfl) (by rfl)) (by simp; rfl) ?_
    exact Weak.to2 (by simp) (by simp)
  · exact ⟨[], [], rfl, by simp, by simp, by simp⟩
  rintro k s hk ⟨a, b, rfl, h0, h1, h2⟩
  cases hd : l.drop k with
  | nil =>
    have : l.length ≤ k := by simpa using hd
    rw [hd] at h1 h2
    simp only [sideA, sideB, List.append_nil] at h1 h2
    repeat first | (refine aops.cons fun K hK => ?_; simp [and_assoc]; (try simp (disch := omega) only [wrap64]); (repeat refine ⟨by omega, ?_⟩); refine hK _ ?_; clear hK K) | refine aops.nil ?_ | refine AW.seqR ttOK etOK ?_ | refine AW.lastR ttOK etOK ?_ | refine AW.seqSkip ?_ | refine AW.seq ?_ | refine AW.block ?_ | (refine AW.skip ?_; simp only [andThen, inBlk, ↓reduceIte]) | (refine AW.exit ?_; simp (disch := omega) only [andThen, inBlk, ↓reduceIte, Nat.reduceEqDiff]) | (guard_target =~ andThen _ _ _ _; simp only [andThen, inBlk, ↓reduceIte])
    refine AW.cond _ (by rfl) (fun hx => absurd hx (by simp [this])) (fun _ => ?_)
    repeat first | (refine aops.cons fun K hK => ?_; simp [and_assoc]; (try simp (disch := omega) only [wrap64]); (repeat refine ⟨by omega, ?_⟩); refine hK _ ?_; clear hK K) | refine aops.nil ?_ | refine AW.seqR ttOK etOK ?_ | refine AW.lastR ttOK etOK ?_ | refine AW.seqSkip ?_ | refine AW.seq ?_ | refine AW.block ?_ | (refine AW.skip ?_; simp only [andThen, inBlk, ↓reduceIte]) | (refine AW.exit ?_; simp (disch := omega) only [andThen, inBlk, ↓reduceIte, Nat.reduceEqDiff]) | (guard_target =~ andThen _ _ _ _; simp only [andThen, inBlk, ↓reduceIte])
    refine AW.weakE (Weak.freeze _ 20 (by rfl)) (by simp; rfl) ?_
    refine AW.weakE (Weak.freeze _ 26 (by rfl)) (by simp; rfl) ?_
    exact AW.ret (by simp [resL, resA, resV, resVs, andThen, inBlk, eI_take, ← h1, ← h2])
  | cons x r =>
    obtain ⟨hx, hr, hlt⟩ := get_of_drop hd
    rw [hd] at h1 h2
    have hxb := hb x (List.mem_of_getElem? hx)
    repeat first | (refine aops.cons fun K hK => ?_; simp [and_assoc]; (try simp (disch := omega) only [wrap64]); (repeat refine ⟨by omega, ?_⟩); refine hK _ ?_; clear hK K) | refine aops.nil ?_ | refine AW.seqR ttOK etOK ?_ | refine AW.lastR ttOK etOK ?_ | refine AW.seqSkip ?_ | refine AW.seq ?_ | refine AW.block ?_ | (refine AW.skip ?_; simp only [andThen, inBlk, ↓reduceIte]) | (refine AW.exit ?_; simp (disch := omega) only [andThen, inBlk, ↓reduceIte, Nat.reduceEqDiff]) | (guard_target =~ andThen _ _ _ _; simp only [andThen, inBlk, ↓reduceIte])
    refine AW.cond _ (by rfl) (fun _ => ?_) (fun hx => absurd hx (by simp [hlt]))
    repeat first | (refine aops.cons fun K hK => ?_; simp [and_assoc, eI_get, hx]; (try simp (disch := omega) only [wrap64]); (repeat refine ⟨by omega, ?_⟩); refine hK _ ?_; clear hK K) | refine aops.nil ?_ | refine AW.seqR ttOK etOK ?_ | refine AW.lastR ttOK etOK ?_ | refine AW.seqSkip ?_ | refine AW.seq ?_ | refine AW.block ?_ | (refine AW.skip ?_; simp only [andThen, inBlk, ↓reduceIte]) | (refine AW.exit ?_; simp (disch := omega) only [andThen, inBlk, ↓reduceIte, Nat.reduceEqDiff]) | (guard_target =~ andThen _ _ _ _; simp only [andThen, inBlk, ↓reduceIte])
    by_cases hw2 : x < w
    · refine AW.cond _ (by rfl) (fun _ => ?_) (fun hx => absurd hx (by simp [hw2]))
      repeat first | (refine aops.cons fun K hK => ?_; simp [and_assoc, eI_take, eI_append, eI_one]; (try simp (disch := omega) only [wrap64]); (repeat refine ⟨by omega, ?_⟩); refine hK _ ?_; clear hK K) | refine aops.nil ?_ | refine AW.seqR ttOK etOK ?_ | refine AW.lastR ttOK etOK ?_ | refine AW.seqSkip ?_ | refine AW.seq ?_ | refine AW.block ?_ | (refine AW.skip ?_; simp only [andThen, inBlk, ↓reduceIte]) | (refine AW.exit ?_; simp (disch := omega) only [andThen, inBlk, ↓reduceIte, Nat.reduceEqDiff]) | (guard_target =~ andThen _ _ _ _; simp only [andThen, inBlk, ↓reduceIte])
      refine ⟨hlt, ⟨30, [(1, aI w), (4, .ms 20 1 0 (a.length + 1)), (5, .ms 26 1 0 b.length), (8, .d (.sl 1 (eI l))), (9, aI l.length), (10, aI (k + 1))], [(20, .arr 1 (eI (a ++ [x]))), (26, .arr 1 (eI b))]⟩, ?_, a ++ [x], b, by simp, by simp; omega, ?_, ?_⟩
      · refine Weak.thenE (Weak.killE _ 19) (by simp; rfl) ?_
        exact Weak.to3 (by intro i; simp [lk]; try (split <;> simp_all)) (by simp)
      · rw [hr, ← h1]; simp [sideA, hw2]
      · rw [hr, ← h2]; simp [sideB, hw2]
    · refine AW.cond _ (by rfl) (fun hx => absurd hx (by simp [hw2])) (fun _ => ?_)
      repeat first | (refine aops.cons fun K hK => ?_; simp [and_assoc, eI_take, eI_append, eI_one]; (try simp (disch := omega) only [wrap64]); (repeat refine ⟨by omega, ?_⟩); refine hK _ ?_; clear hK K) | refine aops.nil ?_ | refine AW.seqR ttOK etOK ?_ | refine AW.lastR ttOK etOK ?_ | refine AW.seqSkip ?_ | refine AW.seq ?_ | refine AW.block ?_ | (refine AW.skip ?_; simp only [andThen, inBlk, ↓reduceIte]) | (refine AW.exit ?_; simp (disch := omega) only [andThen, inBlk, ↓reduceIte, Nat.reduceEqDiff]) | (guard_target =~ andThen _ _ _ _; simp only [andThen, inBlk, ↓reduceIte])
      refine ⟨hlt, ⟨30, [(1, aI w), (4, .ms 20 1 0 a.length), (5, .ms 26 1 0 (b.length + 1)), (8, .d (.sl 1 (eI l))), (9, aI l.length), (10, aI (k + 1))], [(20, .arr 1 (eI a)), (26, .arr 1 (eI (b ++ [x - w])))]⟩, ?_, a, b ++ [x - w], by simp, by simp; omega, ?_, ?_⟩
      · refine Weak.thenE (Weak.killE _ 25) (by simp; rfl) ?_
        refine Weak.to3 ?_ (by simp)
        intro i
        simp only [lk]
        by_cases i1 : 20 = i <;> by_cases i2 : 26 = i <;> simp_all <;> omega
      · rw [hr, ← h1]; simp [sideA, hw2]
      · rw [hr, ← h2]; simp [sideB, hw2]
end Go.Proofs.Ab.Try
