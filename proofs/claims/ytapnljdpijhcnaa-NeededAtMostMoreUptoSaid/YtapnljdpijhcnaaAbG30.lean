/- A part of the proof of the law: it holds for all states of the abstract kind told in the first of these texts; no condition besides those its statements name. -/
import Derived.Test.YtapnljdpijhcnaaAbG29
namespace Go.Proofs.Ab.Try
open Go Go.Proofs Go.Proofs.Ab
set_option linter.unusedSimpArgs false
set_option linter.unusedVariables false
set_option maxHeartbeats 8000000
/-! ### Needed -/
def chkGo (n : Nat) : Option Int → List Int → Int
  | _, [] => 0
  | p, k :: r => if inR k 0 ((n : Int) - 1) = false then 1 else if (p.map fun y => decide (k ≤ y)) = some true then 8 else chkGo n (some k) r
def prevI (l : List Int) : Nat → Option Int
  | 0 => none
  | k + 1 => l[k]?
def lastC (t : List Named) (p : List PStep) : List Col := ((schF t p).1[p.length - 1]?).getD []
def needF (t : List Named) (p : List PStep) (l : List Int) : Int := if (schF t p).2 ≠ 0 then (schF t p).2 else chkGo (lastC t p).length none l
def putGo : List (List Int) → List Int → List (List Int) → List (List Int)
  | N, j :: js, l :: ls => putGo (N.set j.toNat l) js ls
  | N, _, _ => N
def needGo (p : List PStep) (fr : List Int) (cols : List (List Col)) : Nat → List (List Int) → List (List Int)
  | 0, N => N
  | i + 1, N => match p[i]? with
    | some s => needGo p fr cols i (putGo N (inputsOf p fr i) (askF p fr cols i s ((N[i]?).getD [])))
    | none => N
def need0 (p : List PStep) (l : List Int) : List (List Int) := (List.replicate p.length []).set (p.length - 1) l
def needN (t : List Named) (p : List PStep) (l : List Int) : List (List Int) := needGo p (startsGo 0 [] p) (schF t p).1 p.length (need0 p l)
/-- What is needed are columns that there are. -/
def NOk (p : List PStep) (cols : List (List Col)) (N : List (List Int)) : Prop := N.length = p.length ∧ ∀ (j : Nat) (l : List Int), N[j]? = some l → Srt ((cols[j]?).getD []).length l
theorem chk_srt (n : Nat) : ∀ (l : List Int) (p : Option Int), chkGo n p l = 0 → (∀ x ∈ l, 0 ≤ x ∧ x < (n : Int)) ∧ l.Pairwise (· < ·) ∧ ∀ y, p = some y → ∀ x ∈ l, y < x := by
  intro l
  induction l with
  | nil => intro p _; exact ⟨by simp, List.Pairwise.nil, by simp⟩
  | cons k r ih =>
    intro p h
    unfold chkGo at h
    split at h
    · omega
    split at h
    · omega
    rename_i h1 h2
    obtain ⟨a, b, c⟩ := ih _ h
    have h1' : inR k 0 ((n : Int) - 1) = true := by simpa using h1
    have hk := inR_iff.1 h1'
    refine ⟨?_, List.pairwise_cons.2 ⟨fun x hx => c k rfl x hx, b⟩, ?_⟩
    · intro x hx
      rcases List.mem_cons.1 hx with rfl | hx
      · omega
      · exact a x hx
    · rintro y rfl x hx
      have hyk : y < k := by simpa using h2
      rcases List.mem_cons.1 hx with rfl | hx
      · exact hyk
      · exact Int.lt_trans hyk (c k rfl x hx)
theorem chkGo_srt {n : Nat} {l : List Int} (h : chkGo n none l = 0) : Srt n l := by
  obtain ⟨a, b, _⟩ := chk_srt n l none h
  exact ⟨b, a⟩
theorem srt_nil (n : Nat) : Srt n [] := ⟨List.Pairwise.nil, by simp⟩
theorem need0_ok {t : List Named} {p : List PStep} {l : List Int} (hne : p ≠ []) (h : Srt (lastC t p).length l) : NOk p (schF t p).1 (need0 p l) := by
  have hpl : 0 < p.length := List.length_pos_iff.2 hne
  refine ⟨by simp [need0], fun j q hq => ?_⟩
  unfold need0 at hq
  by_cases hj : j = p.length - 1
  · subst hj
    rw [List.getElem?_set_self (by simp; omega)] at hq
    injection hq with hq
    subst hq
    exact h
  · rw [List.getElem?_set_ne (by omega), List.getElem?_replicate] at hq
    split at hq
    · injection hq with hq; subst hq; exact srt_nil _
    · cases hq
theorem set_ok {p : List PStep} {cols : List (List Col)} {N : List (List Int)} (h : NOk p cols N) {j : Nat} {l : List Int} (hl : Srt ((cols[j]?).getD []).length l) : NOk p cols (N.set j l) := by
  refine ⟨by simp [h.1], fun i q hq => ?_⟩
  by_cases hij : i = j
  · subst hij
    have hlt : i < (N.set i l).length := (List.getElem?_eq_some_iff.1 hq).1
    rw [List.getElem?_set_self (by simpa using hlt)] at hq
    injection hq with hq
    subst hq
    exact hl
  · rw [List.getElem?_set_ne (fun h => hij h.symm)] at hq
    exact h.2 i q hq
theorem good_Needed_no (t : List Named) (p : List PStep) (l : List Int) (ht : smL smNamed t) (hp : smL smStep p) (hl : l.length ≤ 2000000) (h : needF t p l ≠ 0) : Good Try.prog 4 [aNamed t, aPlan p, .bs 1 (eI l)] (.tp [aNil, aI (needF t p l)]) := by
  refine goodF ttOK Try.func4 (vs := [.tmp 6, .tmp 7]) (nt := 106) rfl rfl rfl (by kernel_rfl) (by simp) (by simp [dataA, dataL]) ?_
  by_cases f0 : (schF t p).2 = 0
  rotate_left
  · have hq : needF t p l = (schF t p).2 := by simp [needF, f0]
    repeat first | (refine aops.cons fun K hK => ?_; simp [and_assoc]; (try simp (disch := omega) only [wrap64]); (repeat refine ⟨by omega, ?_⟩); refine hK _ ?_; clear hK K) | refine aops.nil ?_ | refine runD.nil ?_ | (refine runD.cons fun K hK => ?_; simp [and_assoc]; (try simp (disch := omega) only [wrap64]); (repeat refine ⟨by omega, ?_⟩); refine hK _ _ (runD.eqs (by simp; rfl) ?_); clear hK K) | refine AW.seqD ttOK etOK mixOK _ (by simp [calmCount, isCalm]; rfl) (by decide +kernel) (by decide +kernel) (by decide +kernel) (by decide +kernel) ?_ | refine AW.lastD ttOK etOK mixOK _ (by simp [calmCount, isCalm]; rfl) (by decide +kernel) (by decide +kernel) (by decide +kernel) (by decide +kernel) ?_ | refine AW.seqDM ttOK etOK mixOK _ (by simp [calmCount, isCalm]; rfl) (by decide +kernel) (by decide +kernel) (by decide +kernel) (by simp; rfl) ?_ | refine AW.lastDM ttOK etOK mixOK _ (by simp [calmCount, isCalm]; rfl) (by decide +kernel) (by decide +kernel) (by decide +kernel) (by simp; rfl) ?_ | refine AW.seqR ttOK etOK ?_ | refine AW.lastR ttOK etOK ?_ | refine AW.seqSkip ?_ | refine AW.seq ?_ | refine AW.block ?_ | (refine AW.skip ?_; simp only [andThen, inBlk, ↓reduceIte]) | (refine AW.exit ?_; simp (disch := omega) only [andThen, inBlk, ↓reduceIte, Nat.reduceEqDiff]) | (guard_target =~ andThen _ _ _ _; simp only [andThen, inBlk, ↓reduceIte])
    first | refine aops.cons fun K hK => ?_ | refine runD.cons fun K hK => ?_
    simp [and_assoc]
    first | refine callA (good_newWork_no t p ht hp f0) (by repeat' constructor) (hK _ ?_) | refine callA (good_newWork_no t p ht hp f0) (by repeat' constructor) (hK _ _ (runD.eqs (by simp; rfl) ?_))
    clear hK K
    repeat first | (refine aops.cons fun K hK => ?_; simp [and_assoc]; (try simp (disch := omega) only [wrap64]); (repeat refine ⟨by omega, ?_⟩); refine hK _ ?_; clear hK K) | refine aops.nil ?_ | refine runD.nil ?_ | (refine runD.cons fun K hK => ?_; simp [and_assoc]; (try simp (disch := omega) only [wrap64]); (repeat refine ⟨by omega, ?_⟩); refine hK _ _ (runD.eqs (by simp; rfl) ?_); clear hK K) | refine AW.seqD ttOK etOK mixOK _ (by simp [calmCount, isCalm]; rfl) (by decide +kernel) (by decide +kernel) (by decide +kernel) (by decide +kernel) ?_ | refine AW.lastD ttOK etOK mixOK _ (by simp [calmCount, isCalm]; rfl) (by decide +kernel) (by decide +kernel) (by decide +kernel) (by decide +kernel) ?_ | refine AW.seqDM ttOK etOK mixOK _ (by simp [calmCount, isCalm]; rfl) (by decide +kernel) (by decide +kernel) (by decide +kernel) (by simp; rfl) ?_ | refine AW.lastDM ttOK etOK mixOK _ (by simp [calmCount, isCalm]; rfl) (by decide +kernel) (by decide +kernel) (by decide +kernel) (by simp; rfl) ?_ | refine AW.seqR ttOK etOK ?_ | refine AW.lastR ttOK etOK ?_ | refine AW.seqSkip ?_ | refine AW.seq ?_ | refine AW.block ?_ | (refine AW.skip ?_; simp only [andThen, inBlk, ↓reduceIte]) | (refine AW.exit ?_; simp (disch := omega) only [andThen, inBlk, ↓reduceIte, Nat.reduceEqDiff]) | (guard_target =~ andThen _ _ _ _; simp only [andThen, inBlk, ↓reduceIte])
    refine AW.cond _ (by rfl) (fun _ => ?_) (fun hx => absurd hx (by simp [f0]))
    repeat first | (refine aops.cons fun K hK => ?_; simp [and_assoc]; (try simp (disch := omega) only [wrap64]); (repeat refine ⟨by omega, ?_⟩); refine hK _ ?_; clear hK K) | refine aops.nil ?_ | refine runD.nil ?_ | (refine runD.cons fun K hK => ?_; simp [and_assoc]; (try simp (disch := omega) only [wrap64]); (repeat refine ⟨by omega, ?_⟩); refine hK _ _ (runD.eqs (by simp; rfl) ?_); clear hK K) | refine AW.seqD ttOK etOK mixOK _ (by simp [calmCount, isCalm]; rfl) (by decide +kernel) (by decide +kernel) (by decide +kernel) (by decide +kernel) ?_ | refine AW.lastD ttOK etOK mixOK _ (by simp [calmCount, isCalm]; rfl) (by decide +kernel) (by decide +kernel) (by decide +kernel) (by decide +kernel) ?_ | refine AW.seqDM ttOK etOK mixOK _ (by simp [calmCount, isCalm]; rfl) (by decide +kernel) (by decide +kernel) (by decide +kernel) (by simp; rfl) ?_ | refine AW.lastDM ttOK etOK mixOK _ (by simp [calmCount, isCalm]; rfl) (by decide +kernel) (by decide +kernel) (by decide +kernel) (by simp; rfl) ?_ | refine AW.seqR ttOK etOK ?_ | refine AW.lastR ttOK etOK ?_ | refine AW.seqSkip ?_ | refine AW.seq ?_ | refine AW.block ?_ | (refine AW.skip ?_; simp only [andThen, inBlk, ↓reduceIte]) | (refine AW.exit ?_; simp (disch := omega) only [andThen, inBlk, ↓reduceIte, Nat.reduceEqDiff]) | (guard_target =~ andThen _ _ _ _; simp only [andThen, inBlk, ↓reduceIte])
    exact AW.ret (by simp [resL, resA, resV, resVs, andThen, inBlk, hq])
  have hq : needF t p l = chkGo (lastC t p).length none l := by simp [needF, f0]
  rw [hq] at h ⊢
  obtain ⟨hw, hne, hpl, hf⟩ := fits ht hp f0
  have hpp : 0 < p.length := List.length_pos_iff.2 hne
  have hlast : (p.length : Int) - 1 = ((p.length - 1 : Nat) : Int) := by omega
  have hlc : (schF t p).1[p.length - 1]? = some (lastC t p) := by
    have hlt : p.length - 1 < (schF t p).1.length := by rw [hf.len]; omega
    unfold lastC
    rw [List.getElem?_eq_getElem hlt]; rfl
  have hc20 : (lastC t p).length ≤ 20 := (hf.cok _ (List.mem_of_getElem? hlc)).1
  repeat first | (refine aops.cons fun K hK => ?_; simp [and_assoc]; (try simp (disch := omega) only [wrap64]); (repeat refine ⟨by omega, ?_⟩); refine hK _ ?_; clear hK K) | refine aops.nil ?_ | refine runD.nil ?_ | (refine runD.cons fun K hK => ?_; simp [and_assoc]; (try simp (disch := omega) only [wrap64]); (repeat refine ⟨by omega, ?_⟩); refine hK _ _ (runD.eqs (by simp; rfl) ?_); clear hK K) | refine AW.seqD ttOK etOK mixOK _ (by simp [calmCount, isCalm]; rfl) (by decide +kernel) (by decide +kernel) (by decide +kernel) (by decide +kernel) ?_ | refine AW.lastD ttOK etOK mixOK _ (by simp [calmCount, isCalm]; rfl) (by decide +kernel) (by decide +kernel) (by decide +kernel) (by decide +kernel) ?_ | refine AW.seqDM ttOK etOK mixOK _ (by simp [calmCount, isCalm]; rfl) (by decide +kernel) (by decide +kernel) (by decide +kernel) (by simp; rfl) ?_ | refine AW.lastDM ttOK etOK mixOK _ (by simp [calmCount, isCalm]; rfl) (by decide +kernel) (by decide +kernel) (by decide +kernel) (by simp; rfl) ?_ | refine AW.seqR ttOK etOK ?_ | refine AW.lastR ttOK etOK ?_ | refine AW.seqSkip ?_ | refine AW.seq ?_ | refine AW.block ?_ | (refine AW.skip ?_; simp only [andThen, inBlk, ↓reduceIte]) | (refine AW.exit ?_; simp (disch := omega) only [andThen, inBlk, ↓reduceIte, Nat.reduceEqDiff]) | (guard_target =~ andThen _ _ _ _; simp only [andThen, inBlk, ↓reduceIte])
  first | refine aops.cons fun K hK => ?_ | refine runD.cons fun K hK => ?_
  simp [and_assoc]
  first | refine callA (good_newWork_ok t p ht hp f0) (by repeat' constructor) (hK _ ?_) | refine callA (good_newWork_ok t p ht hp f0) (by repeat' constructor) (hK _ _ (runD.eqs (by simp; rfl) ?_))
  clear hK K
  repeat first | (refine aops.cons fun K hK => ?_; simp [and_assoc]; (try simp (disch := omega) only [wrap64]); (repeat refine ⟨by omega, ?_⟩); refine hK _ ?_; clear hK K) | refine aops.nil ?_ | refine runD.nil ?_ | (refine runD.cons fun K hK => ?_; simp [and_assoc]; (try simp (disch := omega) only [wrap64]); (repeat refine ⟨by omega, ?_⟩); refine hK _ _ (runD.eqs (by simp; rfl) ?_); clear hK K) | refine AW.seqD ttOK etOK mixOK _ (by simp [calmCount, isCalm]; rfl) (by decide +kernel) (by decide +kernel) (by decide +kernel) (by decide +kernel) ?_ | refine AW.lastD ttOK etOK mixOK _ (by simp [calmCount, isCalm]; rfl) (by decide +kernel) (by decide +kernel) (by decide +kernel) (by decide +kernel) ?_ | refine AW.seqDM ttOK etOK mixOK _ (by simp [calmCount, isCalm]; rfl) (by decide +kernel) (by decide +kernel) (by decide +kernel) (by simp; rfl) ?_ | refine AW.lastDM ttOK etOK mixOK _ (by simp [calmCount, isCalm]; rfl) (by decide +kernel) (by decide +kernel) (by decide +kernel) (by simp; rfl) ?_ | refine AW.seqR ttOK etOK ?_ | refine AW.lastR ttOK etOK ?_ | refine AW.seqSkip ?_ | refine AW.seq ?_ | refine AW.block ?_ | (refine AW.skip ?_; simp only [andThen, inBlk, ↓reduceIte]) | (refine AW.exit ?_; simp (disch := omega) only [andThen, inBlk, ↓reduceIte, Nat.reduceEqDiff]) | (guard_target =~ andThen _ _ _ _; simp only [andThen, inBlk, ↓reduceIte])
  refine AW.cond _ (by rfl) (fun hx => absurd hx (by simp [f0])) (fun _ => ?_)
  repeat first | (refine aops.cons fun K hK => ?_; simp [and_assoc, hlast]; (try simp (disch := omega) only [wrap64]); (repeat refine ⟨by omega, ?_⟩); refine hK _ ?_; clear hK K) | refine aops.nil ?_ | refine runD.nil ?_ | (refine runD.cons fun K hK => ?_; simp [and_assoc, hlast]; (try simp (disch := omega) only [wrap64]); (repeat refine ⟨by omega, ?_⟩); refine hK _ _ (runD.eqs (by simp; rfl) ?_); clear hK K) | refine AW.seqD ttOK etOK mixOK _ (by simp [calmCount, isCalm]; rfl) (by decide +kernel) (by decide +kernel) (by decide +kernel) (by decide +kernel) ?_ | refine AW.lastD ttOK etOK mixOK _ (by simp [calmCount, isCalm]; rfl) (by decide +kernel) (by decide +kernel) (by decide +kernel) (by decide +kernel) ?_ | refine AW.seqDM ttOK etOK mixOK _ (by simp [calmCount, isCalm]; rfl) (by decide +kernel) (by decide +kernel) (by decide +kernel) (by simp; rfl) ?_ | refine AW.lastDM ttOK etOK mixOK _ (by simp [calmCount, isCalm]; rfl) (by decide +kernel) (by decide +kernel) (by decide +kernel) (by simp; rfl) ?_ | refine AW.seqR ttOK etOK ?_ | refine AW.lastR ttOK etOK ?_ | refine AW.seqSkip ?_ | refine AW.seq ?_ | refine AW.block ?_ | (refine AW.skip ?_; simp only [andThen, inBlk, ↓reduceIte]) | (refine AW.exit ?_; simp (disch := omega) only [andThen, inBlk, ↓reduceIte, Nat.reduceEqDiff]) | (guard_target =~ andThen _ _ _ _; simp only [andThen, inBlk, ↓reduceIte])
  refine AW.iterI (fun k s' => s' = ⟨106, [(2, .bs 1 (eI l)), (8, .d (.rp (workC t p))), (10, aI (p.length - 1 : Nat)), (30, .bs 1 (eI l)), (31, aI l.length), (32, aI k)], []⟩ ∧ chkGo (lastC t p).length (prevI l k) (l.drop k) = chkGo (lastC t p).length none l) l.length (s₀ := ⟨106, [(2, .bs 1 (eI l)), (8, .d (.rp (workC t p))), (10, aI (p.length - 1 : Nat)), (30, .bs 1 (eI l)), (31, aI l.length), (32, aI 0)], []⟩) ?_ ?_ ?_
  · refine Weak.thenE (Weak.killE _ 4) (by simp; rfl) ?_
    exact Weak.to2 (by simp) (by simp)
  · exact ⟨rfl, by simp [prevI]⟩
  rintro k s' hk ⟨rfl, g2⟩
  cases hd : l.drop k with
  | nil =>
    rw [hd] at g2
    exact absurd g2.symm (by simpa [chkGo] using h)
  | cons x r =>
    obtain ⟨hx, hr, hlt⟩ := get_of_drop hd
    rw [hd] at g2
    repeat first | (refine aops.cons fun K hK => ?_; simp [and_assoc]; (try simp (disch := omega) only [wrap64]); (repeat refine ⟨by omega, ?_⟩); refine hK _ ?_; clear hK K) | refine aops.nil ?_ | refine runD.nil ?_ | (refine runD.cons fun K hK => ?_; simp [and_assoc]; (try simp (disch := omega) only [wrap64]); (repeat refine ⟨by omega, ?_⟩); refine hK _ _ (runD.eqs (by simp; rfl) ?_); clear hK K) | refine AW.seqD ttOK etOK mixOK _ (by simp [calmCount, isCalm]; rfl) (by decide +kernel) (by decide +kernel) (by decide +kernel) (by decide +kernel) ?_ | refine AW.lastD ttOK etOK mixOK _ (by simp [calmCount, isCalm]; rfl) (by decide +kernel) (by decide +kernel) (by decide +kernel) (by decide +kernel) ?_ | refine AW.seqDM ttOK etOK mixOK _ (by simp [calmCount, isCalm]; rfl) (by decide +kernel) (by decide +kernel) (by decide +kernel) (by simp; rfl) ?_ | refine AW.lastDM ttOK etOK mixOK _ (by simp [calmCount, isCalm]; rfl) (by decide +kernel) (by decide +kernel) (by decide +kernel) (by simp; rfl) ?_ | refine AW.seqR ttOK etOK ?_ | refine AW.lastR ttOK etOK ?_ | refine AW.seqSkip ?_ | refine AW.seq ?_ | refine AW.block ?_ | (refine AW.skip ?_; simp only [andThen, inBlk, ↓reduceIte]) | (refine AW.exit ?_; simp (disch := omega) only [andThen, inBlk, ↓reduceIte, Nat.reduceEqDiff]) | (guard_target =~ andThen _ _ _ _; simp only [andThen, inBlk, ↓reduceIte])
    refine AW.cond _ (by rfl) (fun _ => ?_) (fun hx => absurd hx (by simp [hlt]))
    repeat first | (refine aops.cons fun K hK => ?_; simp [and_assoc, eI_get, hx, workC, eCs_get, hlc]; (try simp (disch := omega) only [wrap64]); (repeat refine ⟨by omega, ?_⟩); refine hK _ ?_; clear hK K) | refine aops.nil ?_ | refine runD.nil ?_ | (refine runD.cons fun K hK => ?_; simp [and_assoc, eI_get, hx, workC, eCs_get, hlc]; (try simp (disch := omega) only [wrap64]); (repeat refine ⟨by omega, ?_⟩); refine hK _ _ (runD.eqs (by simp; rfl) ?_); clear hK K) | refine AW.seqD ttOK etOK mixOK _ (by simp [calmCount, isCalm]; rfl) (by decide +kernel) (by decide +kernel) (by decide +kernel) (by decide +kernel) ?_ | refine AW.lastD ttOK etOK mixOK _ (by simp [calmCount, isCalm]; rfl) (by decide +kernel) (by decide +kernel) (by decide +kernel) (by decide +kernel) ?_ | refine AW.seqDM ttOK etOK mixOK _ (by simp [calmCount, isCalm]; rfl) (by decide +kernel) (by decide +kernel) (by decide +kernel) (by simp; rfl) ?_ | refine AW.lastDM ttOK etOK mixOK _ (by simp [calmCount, isCalm]; rfl) (by decide +kernel) (by decide +kernel) (by decide +kernel) (by simp; rfl) ?_ | refine AW.seqR ttOK etOK ?_ | refine AW.lastR ttOK etOK ?_ | refine AW.seqSkip ?_ | refine AW.seq ?_ | refine AW.block ?_ | (refine AW.skip ?_; simp only [andThen, inBlk, ↓reduceIte]) | (refine AW.exit ?_; simp (disch := omega) only [andThen, inBlk, ↓reduceIte, Nat.reduceEqDiff]) | (guard_target =~ andThen _ _ _ _; simp only [andThen, inBlk, ↓reduceIte])
    first | refine aops.cons fun K hK => ?_ | refine runD.cons fun K hK => ?_
    simp [and_assoc, workC, eCs_get, hlc]
    first | refine callA (good_In x 0 (((lastC t p).length : Int) - 1)) (by repeat' constructor) (hK _ ?_) | refine callA (good_In x 0 (((lastC t p).length : Int) - 1)) (by repeat' constructor) (hK _ _ (runD.eqs (by simp; rfl) ?_))
    clear hK K
    repeat first | (refine aops.cons fun K hK => ?_; simp [and_assoc]; (try simp (disch := omega) only [wrap64]); (repeat refine ⟨by omega, ?_⟩); refine hK _ ?_; clear hK K) | refine aops.nil ?_ | refine runD.nil ?_ | (refine runD.cons fun K hK => ?_; simp [and_assoc]; (try simp (disch := omega) only [wrap64]); (repeat refine ⟨by omega, ?_⟩); refine hK _ _ (runD.eqs (by simp; rfl) ?_); clear hK K) | refine AW.seqD ttOK etOK mixOK _ (by simp [calmCount, isCalm]; rfl) (by decide +kernel) (by decide +kernel) (by decide +kernel) (by decide +kernel) ?_ | refine AW.lastD ttOK etOK mixOK _ (by simp [calmCount, isCalm]; rfl) (by decide +kernel) (by decide +kernel) (by decide +kernel) (by decide +kernel) ?_ | refine AW.seqDM ttOK etOK mixOK _ (by simp [calmCount, isCalm]; rfl) (by decide +kernel) (by decide +kernel) (by decide +kernel) (by simp; rfl) ?_ | refine AW.lastDM ttOK etOK mixOK _ (by simp [calmCount, isCalm]; rfl) (by decide +kernel) (by decide +kernel) (by decide +kernel) (by simp; rfl) ?_ | refine AW.seqR ttOK etOK ?_ | refine AW.lastR ttOK etOK ?_ | refine AW.seqSkip ?_ | refine AW.seq ?_ | refine AW.block ?_ | (refine AW.skip ?_; simp only [andThen, inBlk, ↓reduceIte]) | (refine AW.exit ?_; simp (disch := omega) only [andThen, inBlk, ↓reduceIte, Nat.reduceEqDiff]) | (guard_target =~ andThen _ _ _ _; simp only [andThen, inBlk, ↓reduceIte])
    by_cases hi : inR x 0 (((lastC t p).length : Int) - 1) = true
    rotate_left
    · have w3 : chkGo (lastC t p).length none l = 1 := by rw [← g2]; simp [chkGo, hi]
      refine AW.cond _ (by rfl) (fun _ => ?_) (fun hx => absurd hx (by simp [hi]))
      repeat first | (refine aops.cons fun K hK => ?_; simp [and_assoc]; (try simp (disch := omega) only [wrap64]); (repeat refine ⟨by omega, ?_⟩); refine hK _ ?_; clear hK K) | refine aops.nil ?_ | refine runD.nil ?_ | (refine runD.cons fun K hK => ?_; simp [and_assoc]; (try simp (disch := omega) only [wrap64]); (repeat refine ⟨by omega, ?_⟩); refine hK _ _ (runD.eqs (by simp; rfl) ?_); clear hK K) | refine AW.seqD ttOK etOK mixOK _ (by simp [calmCount, isCalm]; rfl) (by decide +kernel) (by decide +kernel) (by decide +kernel) (by decide +kernel) ?_ | refine AW.lastD ttOK etOK mixOK _ (by simp [calmCount, isCalm]; rfl) (by decide +kernel) (by decide +kernel) (by decide +kernel) (by decide +kernel) ?_ | refine AW.seqDM ttOK etOK mixOK _ (by simp [calmCount, isCalm]; rfl) (by decide +kernel) (by decide +kernel) (by decide +kernel) (by simp; rfl) ?_ | refine AW.lastDM ttOK etOK mixOK _ (by simp [calmCount, isCalm]; rfl) (by decide +kernel) (by decide +kernel) (by decide +kernel) (by simp; rfl) ?_ | refine AW.seqR ttOK etOK ?_ | refine AW.lastR ttOK etOK ?_ | refine AW.seqSkip ?_ | refine AW.seq ?_ | refine AW.block ?_ | (refine AW.skip ?_; simp only [andThen, inBlk, ↓reduceIte]) | (refine AW.exit ?_; simp (disch := omega) only [andThen, inBlk, ↓reduceIte, Nat.reduceEqDiff]) | (guard_target =~ andThen _ _ _ _; simp only [andThen, inBlk, ↓reduceIte])
      exact AW.ret (by simp [resL, resA, resV, resVs, andThen, inBlk, w3])
    refine AW.cond _ (by rfl) (fun hx => absurd hx (by simp [hi])) (fun _ => ?_)
    cases k with
    | zero =>
      repeat first | (refine aops.cons fun K hK => ?_; simp [and_assoc]; (try simp (disch := omega) only [wrap64]); (repeat refine ⟨by omega, ?_⟩); refine hK _ ?_; clear hK K) | refine aops.nil ?_ | refine runD.nil ?_ | (refine runD.cons fun K hK => ?_; simp [and_assoc]; (try simp (disch := omega) only [wrap64]); (repeat refine ⟨by omega, ?_⟩); refine hK _ _ (runD.eqs (by simp; rfl) ?_); clear hK K) | refine AW.seqD ttOK etOK mixOK _ (by simp [calmCount, isCalm]; rfl) (by decide +kernel) (by decide +kernel) (by decide +kernel) (by decide +kernel) ?_ | refine AW.lastD ttOK etOK mixOK _ (by simp [calmCount, isCalm]; rfl) (by decide +kernel) (by decide +kernel) (by decide +kernel) (by decide +kernel) ?_ | refine AW.seqDM ttOK etOK mixOK _ (by simp [calmCount, isCalm]; rfl) (by decide +kernel) (by decide +kernel) (by decide +kernel) (by simp; rfl) ?_ | refine AW.lastDM ttOK etOK mixOK _ (by simp [calmCount, isCalm]; rfl) (by decide +kernel) (by decide +kernel) (by decide +kernel) (by simp; rfl) ?_ | refine AW.seqR ttOK etOK ?_ | refine AW.lastR ttOK etOK ?_ | refine AW.seqSkip ?_ | refine AW.seq ?_ | refine AW.block ?_ | (refine AW.skip ?_; simp only [andThen, inBlk, ↓reduceIte]) | (refine AW.exit ?_; simp (disch := omega) only [andThen, inBlk, ↓reduceIte, Nat.reduceEqDiff]) | (guard_target =~ andThen _ _ _ _; simp only [andThen, inBlk, ↓reduceIte])
      refine AW.cond _ (by rfl) (fun hx => absurd hx (by simp [hi])) (fun _ => ?_)
      repeat first | (refine aops.cons fun K hK => ?_; simp [and_assoc]; (try simp (disch := omega) only [wrap64]); (repeat refine ⟨by omega, ?_⟩); refine hK _ ?_; clear hK K) | refine aops.nil ?_ | refine runD.nil ?_ | (refine runD.cons fun K hK => ?_; simp [and_assoc]; (try simp (disch := omega) only [wrap64]); (repeat refine ⟨by omega, ?_⟩); refine hK _ _ (runD.eqs (by simp; rfl) ?_); clear hK K) | refine AW.seqD ttOK etOK mixOK _ (by simp [calmCount, isCalm]; rfl) (by decide +kernel) (by decide +kernel) (by decide +kernel) (by decide +kernel) ?_ | refine AW.lastD ttOK etOK mixOK _ (by simp [calmCount, isCalm]; rfl) (by decide +kernel) (by decide +kernel) (by decide +kernel) (by decide +kernel) ?_ | refine AW.seqDM ttOK etOK mixOK _ (by simp [calmCount, isCalm]; rfl) (by decide +kernel) (by decide +kernel) (by decide +kernel) (by simp; rfl) ?_ | refine AW.lastDM ttOK etOK mixOK _ (by simp [calmCount, isCalm]; rfl) (by decide +kernel) (by decide +kernel) (by decide +kernel) (by simp; rfl) ?_ | refine AW.seqR ttOK etOK ?_ | refine AW.lastR ttOK etOK ?_ | refine AW.seqSkip ?_ | refine AW.seq ?_ | refine AW.block ?_ | (refine AW.skip ?_; simp only [andThen, inBlk, ↓reduceIte]) | (refine AW.exit ?_; simp (disch := omega) only [andThen, inBlk, ↓reduceIte, Nat.reduceEqDiff]) | (guard_target =~ andThen _ _ _ _; simp only [andThen, inBlk, ↓reduceIte])
      refine ⟨hlt, ⟨106, [(2, .bs 1 (eI l)), (8, .d (.rp (workC t p))), (10, aI (p.length - 1 : Nat)), (30, .bs 1 (eI l)), (31, aI l.length), (32, aI (0 + 1))], []⟩, Weak.to2 (by simp) (by simp [workC]), by simp, ?_⟩
      rw [hr, ← g2]; simp [chkGo, hi, prevI, hx]
    | succ m =>
      obtain ⟨y, hy⟩ : ∃ y, l[m]? = some y := ⟨l[m]'(by omega), List.getElem?_eq_getElem (by omega)⟩
      have e1 : (m : Int) + 1 - 1 = m := by omega
      have hpos : (0 : Int) < (m : Int) + 1 := by omega
      by_cases hle : x ≤ y
      · have w3 : chkGo (lastC t p).length none l = 8 := by rw [← g2]; simp [chkGo, hi, prevI, hy, hle]
        repeat first | (refine aops.cons fun K hK => ?_; simp [and_assoc, e1, hpos, eI_get, hy, hle]; (try simp (disch := omega) only [wrap64]); (repeat refine ⟨by omega, ?_⟩); refine hK _ ?_; clear hK K) | refine aops.nil ?_ | refine runD.nil ?_ | (refine runD.cons fun K hK => ?_; simp [and_assoc, e1, hpos, eI_get, hy, hle]; (try simp (disch := omega) only [wrap64]); (repeat refine ⟨by omega, ?_⟩); refine hK _ _ (runD.eqs (by simp; rfl) ?_); clear hK K) | refine AW.seqD ttOK etOK mixOK _ (by simp [calmCount, isCalm]; rfl) (by decide +kernel) (by decide +kernel) (by decide +kernel) (by decide +kernel) ?_ | refine AW.lastD ttOK etOK mixOK _ (by simp [calmCount, isCalm]; rfl) (by decide +kernel) (by decide +kernel) (by decide +kernel) (by decide +kernel) ?_ | refine AW.seqDM ttOK etOK mixOK _ (by simp [calmCount, isCalm]; rfl) (by decide +kernel) (by decide +kernel) (by decide +kernel) (by simp; rfl) ?_ | refine AW.lastDM ttOK etOK mixOK _ (by simp [calmCount, isCalm]; rfl) (by decide +kernel) (by decide +kernel) (by decide +kernel) (by simp; rfl) ?_ | refine AW.seqR ttOK etOK ?_ | refine AW.lastR ttOK etOK ?_ | refine AW.seqSkip ?_ | refine AW.seq ?_ | refine AW.block ?_ | (refine AW.skip ?_; simp only [andThen, inBlk, ↓reduceIte]) | (refine AW.exit ?_; simp (disch := omega) only [andThen, inBlk, ↓reduceIte, Nat.reduceEqDiff]) | (guard_target =~ andThen _ _ _ _; simp only [andThen, inBlk, ↓reduceIte])
        refine AW.cond _ (by rfl) (fun _ => ?_) (fun hx => absurd hx (by simp [hle]))
        repeat first | (refine aops.cons fun K hK => ?_; simp [and_assoc]; (try simp (disch := omega) only [wrap64]); (repeat refine ⟨by omega, ?_⟩); refine hK _ ?_; clear hK K) | refine aops.nil ?_ | refine runD.nil ?_ | (refine runD.cons fun K hK => ?_; simp [and_assoc]; (try simp (disch := omega) only [wrap64]); (repeat refine ⟨by omega, ?_⟩); refine hK _ _ (runD.eqs (by simp; rfl) ?_); clear hK K) | refine AW.seqD ttOK etOK mixOK _ (by simp [calmCount, isCalm]; rfl) (by decide +kernel) (by decide +kernel) (by decide +kernel) (by decide +kernel) ?_ | refine AW.lastD ttOK etOK mixOK _ (by simp [calmCount, isCalm]; rfl) (by decide +kernel) (by decide +kernel) (by decide +kernel) (by decide +kernel) ?_ | refine AW.seqDM ttOK etOK mixOK _ (by simp [calmCount, isCalm]; rfl) (by decide +kernel) (by decide +kernel) (by decide +kernel) (by simp; rfl) ?_ | refine AW.lastDM ttOK etOK mixOK _ (by simp [calmCount, isCalm]; rfl) (by decide +kernel) (by decide +kernel) (by decide +kernel) (by simp; rfl) ?_ | refine AW.seqR ttOK etOK ?_ | refine AW.lastR ttOK etOK ?_ | refine AW.seqSkip ?_ | refine AW.seq ?_ | refine AW.block ?_ | (refine AW.skip ?_; simp only [andThen, inBlk, ↓reduceIte]) | (refine AW.exit ?_; simp (disch := omega) only [andThen, inBlk, ↓reduceIte, Nat.reduceEqDiff]) | (guard_target =~ andThen _ _ _ _; simp only [andThen, inBlk, ↓reduceIte])
        exact AW.ret (by simp [resL, resA, resV, resVs, andThen, inBlk, w3])
      · repeat first | (refine aops.cons fun K hK => ?_; simp [and_assoc, e1, hpos, eI_get, hy, hle]; (try simp (disch := omega) only [wrap64]); (repeat refine ⟨by omega, ?_⟩); refine hK _ ?_; clear hK K) | refine aops.nil ?_ | refine runD.nil ?_ | (refine runD.cons fun K hK => ?_; simp [and_assoc, e1, hpos, eI_get, hy, hle]; (try simp (disch := omega) only [wrap64]); (repeat refine ⟨by omega, ?_⟩); refine hK _ _ (runD.eqs (by simp; rfl) ?_); clear hK K) | refine AW.seqD ttOK etOK mixOK _ (by simp [calmCount, isCalm]; rfl) (by decide +kernel) (by decide +kernel) (by decide +kernel) (by decide +kernel) ?_ | refine AW.lastD ttOK etOK mixOK _ (by simp [calmCount, isCalm]; rfl) (by decide +kernel) (by decide +kernel) (by decide +kernel) (by decide +kernel) ?_ | refine AW.seqDM ttOK etOK mixOK _ (by simp [calmCount, isCalm]; rfl) (by decide +kernel) (by decide +kernel) (by decide +kernel) (by simp; rfl) ?_ | refine AW.lastDM ttOK etOK mixOK _ (by simp [calmCount, isCalm]; rfl) (by decide +kernel) (by decide +kernel) (by decide +kernel) (by simp; rfl) ?_ | refine AW.seqR ttOK etOK ?_ | refine AW.lastR ttOK etOK ?_ | refine AW.seqSkip ?_ | refine AW.seq ?_ | refine AW.block ?_ | (refine AW.skip ?_; simp only [andThen, inBlk, ↓reduceIte]) | (refine AW.exit ?_; simp (disch := omega) only [andThen, inBlk, ↓reduceIte, Nat.reduceEqDiff]) | (guard_target =~ andThen _ _ _ _; simp only [andThen, inBlk, ↓reduceIte])
        refine AW.cond _ (by rfl) (fun hx => absurd hx (by simp [hle])) (fun _ => ?_)
        repeat first | (refine aops.cons fun K hK => ?_; simp [and_assoc]; (try simp (disch := omega) only [wrap64]); (repeat refine ⟨by omega, ?_⟩); refine hK _ ?_; clear hK K) | refine aops.nil ?_ | refine runD.nil ?_ | (refine runD.cons fun K hK => ?_; simp [and_assoc]; (try simp (disch := omega) only [wrap64]); (repeat refine ⟨by omega, ?_⟩); refine hK _ _ (runD.eqs (by simp; rfl) ?_); clear hK K) | refine AW.seqD ttOK etOK mixOK _ (by simp [calmCount, isCalm]; rfl) (by decide +kernel) (by decide +kernel) (by decide +kernel) (by decide +kernel) ?_ | refine AW.lastD ttOK etOK mixOK _ (by simp [calmCount, isCalm]; rfl) (by decide +kernel) (by decide +kernel) (by decide +kernel) (by decide +kernel) ?_ | refine AW.seqDM ttOK etOK mixOK _ (by simp [calmCount, isCalm]; rfl) (by decide +kernel) (by decide +kernel) (by decide +kernel) (by simp; rfl) ?_ | refine AW.lastDM ttOK etOK mixOK _ (by simp [calmCount, isCalm]; rfl) (by decide +kernel) (by decide +kernel) (by decide +kernel) (by simp; rfl) ?_ | refine AW.seqR ttOK etOK ?_ | refine AW.lastR ttOK etOK ?_ | refine AW.seqSkip ?_ | refine AW.seq ?_ | refine AW.block ?_ | (refine AW.skip ?_; simp only [andThen, inBlk, ↓reduceIte]) | (refine AW.exit ?_; simp (disch := omega) only [andThen, inBlk, ↓reduceIte, Nat.reduceEqDiff]) | (guard_target =~ andThen _ _ _ _; simp only [andThen, inBlk, ↓reduceIte])
        refine ⟨hlt, ⟨106, [(2, .bs 1 (eI l)), (8, .d (.rp (workC t p))), (10, aI (p.length - 1 : Nat)), (30, .bs 1 (eI l)), (31, aI l.length), (32, aI ((m + 1 : Nat) + 1))], []⟩, Weak.to2 (by simp) (by simp [workC]), by simp, ?_⟩
        rw [hr, ← g2]; simp [chkGo, hi, prevI, hx, hy, hle]
end Go.Proofs.Ab.Try
