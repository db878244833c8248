/- A part of the proof of the law: it holds for all states of the abstract kind told in the first of these texts; no condition besides those its statements name. -/
import Derived.Test.YtapnljdpijhcnaaAbG23
namespace Go.Proofs.Ab.Try
open Go Go.Proofs Go.Proofs.Ab
set_option linter.unusedSimpArgs false
set_option linter.unusedVariables false
set_option maxHeartbeats 8000000
/-! ### At most twenty columns -/
def ok20 (c : List Col) : Prop := c.length ≤ 20 ∧ ∀ x ∈ c, smCol x
theorem ok20.sm {c : List Col} (h : ok20 c) : smL smCol c := ⟨by have := h.1; omega, h.2⟩
theorem colsF_20 {c : List Col} (h : colsF c = 0) : c.length ≤ 20 := by
  unfold colsF at h
  split at h
  · omega
  · omega
theorem tabF_20 {t : Tab} (h : tabF t = 0) : t.cols.length ≤ 20 := by
  unfold tabF at h
  split at h
  · omega
  · rename_i h1; exact colsF_20 (by simpa using h1)
theorem tablesGo_20 : ∀ (l : List Named) (p : Option ByteArray), tablesGo p l = 0 → ∀ x ∈ l, x.tab.cols.length ≤ 20 := by
  intro l
  induction l with
  | nil => intro p _ x hx; cases hx
  | cons y r ih =>
    intro p h x hx
    unfold tablesGo at h
    split at h
    · omega
    split at h
    · omega
    split at h
    · omega
    rename_i h3
    rcases List.mem_cons.1 hx with rfl | hx
    · exact tabF_20 (by simpa using h3)
    · exact ih _ h x hx
theorem tables_ok {t : List Named} (ht : smL smNamed t) (h : tablesF t = 0) : ∀ x ∈ t, ok20 x.tab.cols := by
  intro x hx
  unfold tablesF at h
  split at h
  · omega
  · exact ⟨tablesGo_20 _ _ h x hx, (ht.2 x hx).2.1.2⟩
theorem projGo_ok (c : List Col) : ∀ (l : List (List Node × ByteArray)) (out : List Col), (∀ x ∈ out, smCol x) → (∀ p ∈ l, smS p.2) → (projGo c out l).2 = 0 → (projGo c out l).1.length = out.length + l.length ∧ ∀ x ∈ (projGo c out l).1, smCol x := by
  intro l
  induction l with
  | nil => intro out h _ _; exact ⟨rfl, h⟩
  | cons q r ih =>
    obtain ⟨e, n⟩ := q
    intro out h1 h2 h3
    have hn : smS n := h2 (e, n) (List.mem_cons_self ..)
    simp only [projGo] at h3 ⊢
    split at h3
    · rename_i h; exact absurd h3 h
    split at h3
    · simp at h3
    split at h3
    · simp at h3
    split at h3
    · simp at h3
    rename_i q1 q2 q3 q4
    rw [if_neg q1, if_neg q2, if_neg q3, if_neg q4]
    obtain ⟨a, b⟩ := ih (out ++ [⟨n, (exprF c e).1⟩]) (by
      intro x hx
      rcases List.mem_append.1 hx with hx | hx
      · exact h1 x hx
      · obtain rfl := List.mem_singleton.1 hx; exact hn) (fun p hp => h2 p (List.mem_cons_of_mem _ hp)) h3
    refine ⟨?_, b⟩
    rw [a]
    simp
    omega
theorem gaGo_ok (c : List Col) : ∀ (l : List Agg) (out : List Col), (∀ x ∈ out, smCol x) → (∀ p ∈ l, smAgg p) → (gaGo c out l).2 = 0 → (gaGo c out l).1.length = out.length + l.length ∧ ∀ x ∈ (gaGo c out l).1, smCol x := by
  intro l
  induction l with
  | nil => intro out h _ _; exact ⟨rfl, h⟩
  | cons a r ih =>
    intro out h1 h2 h3
    have hn : smAgg a := h2 a (List.mem_cons_self ..)
    simp only [gaGo] at h3 ⊢
    split at h3
    · rename_i h; exact absurd h3 h
    split at h3
    · simp at h3
    split at h3
    · simp at h3
    rename_i q1 q2 q3
    rw [if_neg q1, if_neg q2, if_neg q3]
    obtain ⟨a', b⟩ := ih (out ++ [⟨a.name, aggK c a⟩]) (by
      intro x hx
      rcases List.mem_append.1 hx with hx | hx
      · exact h1 x hx
      · obtain rfl := List.mem_singleton.1 hx; exact hn) (fun p hp => h2 p (List.mem_cons_of_mem _ hp)) h3
    refine ⟨?_, b⟩
    rw [a']
    simp
    omega
theorem colAt_sm {c : List Col} (h : ∀ x ∈ c, smCol x) (k : Int) : smCol (colAt c k) := by
  unfold colAt
  cases hx : c[k.toNat]? with
  | none => simp [smCol, smS]; decide
  | some x => exact h x (List.mem_of_getElem? hx)
theorem leaveF_ok {t : List Named} {s : PStep} {l : List (List Col)} (ht : ∀ x ∈ t, ok20 x.tab.cols) (hs : smStep s) (hl : ∀ c ∈ l, ok20 c) (h0 : (leaveF t s l).2 = 0) : ok20 (leaveF t s l).1 := by
  have hnil : ok20 [] := ⟨by simp, by simp⟩
  have hi : ∀ n : Nat, ok20 ((l[n]?).getD []) := by
    intro n
    cases hx : l[n]? with
    | none => exact hnil
    | some x => exact hl x (List.mem_of_getElem? hx)
  unfold leaveF at h0 ⊢
  split
  · split
    · cases hx : t[findAt t s.name]? with
      | none => exact hnil
      | some x => exact ht x (List.mem_of_getElem? hx)
    · exact hnil
  rename_i k1
  rw [if_neg k1] at h0
  split
  · exact hi 0
  rename_i k2
  rw [if_neg k2] at h0
  split
  · rename_i k3
    rw [if_pos k3] at h0
    unfold projF at h0 ⊢
    split
    · exact hnil
    split
    · exact hnil
    split
    · exact hnil
    rename_i q1 q2 q3
    rw [if_neg q1, if_neg q2, if_neg q3] at h0
    have hle : (s.exprs.zip s.names).length ≤ 20 := by simp; omega
    obtain ⟨a, b⟩ := projGo_ok _ _ [] (by simp) (fun p hp => hs.names.2 _ (List.of_mem_zip hp).2) h0
    exact ⟨by rw [a]; simpa using hle, b⟩
  rename_i k3
  rw [if_neg k3] at h0
  split
  · rename_i k4
    rw [if_pos k4] at h0
    unfold joinF at h0 ⊢
    split
    · exact hnil
    split
    · exact hnil
    split
    · exact hnil
    split
    · exact hnil
    rename_i q2 _ _
    split
    · exact hi 0
    · refine ⟨by simp; omega, fun x hx => ?_⟩
      rcases List.mem_append.1 hx with hx | hx
      · exact (hi 0).2 x hx
      · exact (hi 1).2 x hx
  rename_i k4
  rw [if_neg k4] at h0
  split
  · rename_i k5
    rw [if_pos k5] at h0
    unfold groupF at h0 ⊢
    split
    · exact hnil
    split
    · exact hnil
    split
    · exact hnil
    rename_i q1 q2 q3
    rw [if_neg q1, if_neg q2, if_neg q3] at h0
    obtain ⟨a, b⟩ := gaGo_ok _ _ _ (by
      intro x hx
      obtain ⟨k, _, rfl⟩ := List.mem_map.1 hx
      exact colAt_sm (hi 0).2 k) (fun p hp => hs.aggs.2 p hp) h0
    exact ⟨by rw [a]; simp; omega, b⟩
  rename_i k5
  rw [if_neg k5] at h0
  split
  · split
    · exact hnil
    · exact hi 0
  split
  · exact hi 0
  split
  · split
    · exact hi 0
    · exact hnil
  · exact hi 0
theorem stepP_ok {t : List Named} {s : PStep} {left : List (List Col)} (ht : ∀ x ∈ t, ok20 x.tab.cols) (hs : smStep s) (hl : ∀ c ∈ left, ok20 c) (h0 : (stepP t s left).2 = 0) :
    inR s.kind 1 9 = true ∧ takes s.kind ≤ left.length ∧ (leaveF t s (left.drop (left.length - takes s.kind))).2 = 0 ∧ (stepP t s left).1 = left.take (left.length - takes s.kind) ++ [(leaveF t s (left.drop (left.length - takes s.kind))).1] ∧ ∀ c ∈ (stepP t s left).1, ok20 c := by
  unfold stepP at h0 ⊢
  split at h0
  · simp at h0
  split at h0
  · simp at h0
  split at h0
  · simp at h0
  split at h0
  · rename_i h; exact absurd h0 h
  rename_i q1 q2 q3 q4
  rw [if_neg q1, if_neg q2, if_neg q3, if_neg q4]
  have q4' : (leaveF t s (left.drop (left.length - takes s.kind))).2 = 0 := by simpa using q4
  refine ⟨by simpa using q1, by omega, q4', rfl, fun c hc => ?_⟩
  rcases List.mem_append.1 hc with hc | hc
  · exact hl c (List.mem_of_mem_take hc)
  · obtain rfl := List.mem_singleton.1 hc
    exact leaveF_ok ht hs (fun c hc => hl c (List.mem_of_mem_drop hc)) q4'
theorem good_Schemas (t : List Named) (p : List PStep) (ht : smL smNamed t) (hp : smL smStep p) : Good Try.prog 14 [aNamed t, aPlan p] (.tp (resS (schF t p))) := by
  have ht1 := ht.1
  have hp1 := hp.1
  refine goodF ttOK Try.func14 (vs := [.tmp 4, .tmp 5]) (nt := 52) rfl rfl rfl (by kernel_rfl) (by simp) (dataA_resS _) ?_
  repeat first | (refine aops.cons fun K hK => ?_; simp [and_assoc]; (try simp (disch := omega) only [wrap64]); (repeat refine ⟨by omega, ?_⟩); refine hK _ ?_; clear hK K) | refine aops.nil ?_ | refine AW.seqR ttOK etOK ?_ | refine AW.lastR ttOK etOK ?_ | refine AW.seqSkip ?_ | refine AW.seq ?_ | refine AW.block ?_ | (refine AW.skip ?_; simp only [andThen, inBlk, ↓reduceIte]) | (refine AW.exit ?_; simp (disch := omega) only [andThen, inBlk, ↓reduceIte, Nat.reduceEqDiff]) | (guard_target =~ andThen _ _ _ _; simp only [andThen, inBlk, ↓reduceIte])
  refine aops.cons fun K hK => ?_
  simp [and_assoc]
  refine callA (good_CheckTables t ht) (by repeat' constructor) (hK _ ?_)
  clear hK K
  repeat first | (refine aops.cons fun K hK => ?_; simp [and_assoc]; (try simp (disch := omega) only [wrap64]); (repeat refine ⟨by omega, ?_⟩); refine hK _ ?_; clear hK K) | refine aops.nil ?_ | refine AW.seqR ttOK etOK ?_ | refine AW.lastR ttOK etOK ?_ | refine AW.seqSkip ?_ | refine AW.seq ?_ | refine AW.block ?_ | (refine AW.skip ?_; simp only [andThen, inBlk, ↓reduceIte]) | (refine AW.exit ?_; simp (disch := omega) only [andThen, inBlk, ↓reduceIte, Nat.reduceEqDiff]) | (guard_target =~ andThen _ _ _ _; simp only [andThen, inBlk, ↓reduceIte])
  by_cases f0 : tablesF t = 0
  rotate_left
  · have hq : schF t p = ([], tablesF t) := by simp [schF, f0]
    refine AW.cond _ (by rfl) (fun _ => ?_) (fun hx => absurd hx (by simp [f0]))
    repeat first | (refine aops.cons fun K hK => ?_; simp [and_assoc]; (try simp (disch := omega) only [wrap64]); (repeat refine ⟨by omega, ?_⟩); refine hK _ ?_; clear hK K) | refine aops.nil ?_ | refine AW.seqR ttOK etOK ?_ | refine AW.lastR ttOK etOK ?_ | refine AW.seqSkip ?_ | refine AW.seq ?_ | refine AW.block ?_ | (refine AW.skip ?_; simp only [andThen, inBlk, ↓reduceIte]) | (refine AW.exit ?_; simp (disch := omega) only [andThen, inBlk, ↓reduceIte, Nat.reduceEqDiff]) | (guard_target =~ andThen _ _ _ _; simp only [andThen, inBlk, ↓reduceIte])
    exact AW.ret (by simp [resL, resA, resV, resVs, andThen, inBlk, hq, resS, f0])
  refine AW.cond _ (by rfl) (fun hx => absurd hx (by simp [f0])) (fun _ => ?_)
  repeat first | (refine aops.cons fun K hK => ?_; simp [and_assoc]; (try simp (disch := omega) only [wrap64]); (repeat refine ⟨by omega, ?_⟩); refine hK _ ?_; clear hK K) | refine aops.nil ?_ | refine AW.seqR ttOK etOK ?_ | refine AW.lastR ttOK etOK ?_ | refine AW.seqSkip ?_ | refine AW.seq ?_ | refine AW.block ?_ | (refine AW.skip ?_; simp only [andThen, inBlk, ↓reduceIte]) | (refine AW.exit ?_; simp (disch := omega) only [andThen, inBlk, ↓reduceIte, Nat.reduceEqDiff]) | (guard_target =~ andThen _ _ _ _; simp only [andThen, inBlk, ↓reduceIte])
  by_cases l0 : (50 : Int) < p.length
  · have l0' : 50 < p.length := by omega
    have hq : schF t p = ([], 2) := by simp [schF, f0, l0']
    refine AW.cond _ (by rfl) (fun _ => ?_) (fun hx => absurd hx (by simp [l0]))
    repeat first | (refine aops.cons fun K hK => ?_; simp [and_assoc]; (try simp (disch := omega) only [wrap64]); (repeat refine ⟨by omega, ?_⟩); refine hK _ ?_; clear hK K) | refine aops.nil ?_ | refine AW.seqR ttOK etOK ?_ | refine AW.lastR ttOK etOK ?_ | refine AW.seqSkip ?_ | refine AW.seq ?_ | refine AW.block ?_ | (refine AW.skip ?_; simp only [andThen, inBlk, ↓reduceIte]) | (refine AW.exit ?_; simp (disch := omega) only [andThen, inBlk, ↓reduceIte, Nat.reduceEqDiff]) | (guard_target =~ andThen _ _ _ _; simp only [andThen, inBlk, ↓reduceIte])
    exact AW.ret (by simp [resL, resA, resV, resVs, andThen, inBlk, hq, resS])
  have l0' : ¬ 50 < p.length := by omega
  have hq : schF t p = schGo t [] [] p := by simp [schF, f0, l0']
  have htok := tables_ok ht f0
  rw [hq]
  refine AW.cond _ (by rfl) (fun hx => absurd hx (by simp [l0])) (fun _ => ?_)
  repeat first | (refine aops.cons fun K hK => ?_; simp [and_assoc]; (try simp (disch := omega) only [wrap64]); (repeat refine ⟨by omega, ?_⟩); refine hK _ ?_; clear hK K) | refine aops.nil ?_ | refine AW.seqR ttOK etOK ?_ | refine AW.lastR ttOK etOK ?_ | refine AW.seqSkip ?_ | refine AW.seq ?_ | refine AW.block ?_ | (refine AW.skip ?_; simp only [andThen, inBlk, ↓reduceIte]) | (refine AW.exit ?_; simp (disch := omega) only [andThen, inBlk, ↓reduceIte, Nat.reduceEqDiff]) | (guard_target =~ andThen _ _ _ _; simp only [andThen, inBlk, ↓reduceIte])
  refine AW.iterI (fun k s' => ∃ left out, s' = ⟨52, [(0, aNamed t), (7, .d (.sl 1 (eCs left))), (8, .ms 46 1 0 out.length), (22, .d (.sl 9 (p.map stepC))), (23, aI p.length), (24, aI k)], [(46, .arr 1 (eCs out))]⟩ ∧ left.length ≤ k ∧ out.length = k ∧ (∀ c ∈ left, ok20 c) ∧ schGo t left out (p.drop k) = schGo t [] [] p) p.length (s₀ := ⟨52, [(0, aNamed t), (7, .d (.sl 1 (eCs []))), (8, .ms 46 1 0 0), (22, .d (.sl 9 (p.map stepC))), (23, aI p.length), (24, aI 0)], [(46, .arr 1 (eCs []))]⟩) ?_ ?_ ?_
  · refine Weak.thenE (Weak.own _ 8 46 1 (by rfl) (by rfl)) (by simp; rfl) ?_
    refine Weak.thenE (Weak.killE _ 3) (by simp; rfl) ?_
    exact Weak.to2 (by simp [eCs]) (by simp [eCs, Le.nild])
  · exact ⟨[], [], rfl, by simp, rfl, by simp, rfl⟩
  rintro k s' hk ⟨left, out, rfl, h1, h2, h3, h4⟩
  have hk50 : k ≤ 50 := by omega
  cases hd : p.drop k with
  | nil =>
    have : p.length ≤ k := by simpa using hd
    rw [hd] at h4
    repeat first | (refine aops.cons fun K hK => ?_; simp [and_assoc]; (try simp (disch := omega) only [wrap64]); (repeat refine ⟨by omega, ?_⟩); refine hK _ ?_; clear hK K) | refine aops.nil ?_ | refine AW.seqR ttOK etOK ?_ | refine AW.lastR ttOK etOK ?_ | refine AW.seqSkip ?_ | refine AW.seq ?_ | refine AW.block ?_ | (refine AW.skip ?_; simp only [andThen, inBlk, ↓reduceIte]) | (refine AW.exit ?_; simp (disch := omega) only [andThen, inBlk, ↓reduceIte, Nat.reduceEqDiff]) | (guard_target =~ andThen _ _ _ _; simp only [andThen, inBlk, ↓reduceIte])
    refine AW.cond _ (by rfl) (fun hx => absurd hx (by simp [this])) (fun _ => ?_)
    repeat first | (refine aops.cons fun K hK => ?_; simp [and_assoc]; (try simp (disch := omega) only [wrap64]); (repeat refine ⟨by omega, ?_⟩); refine hK _ ?_; clear hK K) | refine aops.nil ?_ | refine AW.seqR ttOK etOK ?_ | refine AW.lastR ttOK etOK ?_ | refine AW.seqSkip ?_ | refine AW.seq ?_ | refine AW.block ?_ | (refine AW.skip ?_; simp only [andThen, inBlk, ↓reduceIte]) | (refine AW.exit ?_; simp (disch := omega) only [andThen, inBlk, ↓reduceIte, Nat.reduceEqDiff]) | (guard_target =~ andThen _ _ _ _; simp only [andThen, inBlk, ↓reduceIte])
    by_cases l1 : left.length = 1
    · have hr : schGo t [] [] p = (out, 0) := by rw [← h4]; simp [schGo, l1]
      refine AW.cond _ (by rfl) (fun hx => absurd hx (by simp [l1])) (fun _ => ?_)
      repeat first | (refine aops.cons fun K hK => ?_; simp [and_assoc]; (try simp (disch := omega) only [wrap64]); (repeat refine ⟨by omega, ?_⟩); refine hK _ ?_; clear hK K) | refine aops.nil ?_ | refine AW.seqR ttOK etOK ?_ | refine AW.lastR ttOK etOK ?_ | refine AW.seqSkip ?_ | refine AW.seq ?_ | refine AW.block ?_ | (refine AW.skip ?_; simp only [andThen, inBlk, ↓reduceIte]) | (refine AW.exit ?_; simp (disch := omega) only [andThen, inBlk, ↓reduceIte, Nat.reduceEqDiff]) | (guard_target =~ andThen _ _ _ _; simp only [andThen, inBlk, ↓reduceIte])
      refine AW.weakE (Weak.freeze _ 46 (by rfl)) (by simp; rfl) ?_
      exact AW.ret (by simp [resL, resA, resV, resVs, andThen, inBlk, hr, resS, eCs_take])
    · have l1' : ¬ (left.length : Int) = 1 := by omega
      have hr : schGo t [] [] p = ([], 13) := by rw [← h4]; simp [schGo, l1]
      refine AW.cond _ (by rfl) (fun _ => ?_) (fun hx => absurd hx (by simp [l1']))
      repeat first | (refine aops.cons fun K hK => ?_; simp [and_assoc]; (try simp (disch := omega) only [wrap64]); (repeat refine ⟨by omega, ?_⟩); refine hK _ ?_; clear hK K) | refine aops.nil ?_ | refine AW.seqR ttOK etOK ?_ | refine AW.lastR ttOK etOK ?_ | refine AW.seqSkip ?_ | refine AW.seq ?_ | refine AW.block ?_ | (refine AW.skip ?_; simp only [andThen, inBlk, ↓reduceIte]) | (refine AW.exit ?_; simp (disch := omega) only [andThen, inBlk, ↓reduceIte, Nat.reduceEqDiff]) | (guard_target =~ andThen _ _ _ _; simp only [andThen, inBlk, ↓reduceIte])
      exact AW.ret (by simp [resL, resA, resV, resVs, andThen, inBlk, hr, resS])
  | cons x r =>
    obtain ⟨hx, hr, hlt⟩ := get_of_drop hd
    rw [hd] at h4
    have hxs : smStep x := hp.get hx
    repeat first | (refine aops.cons fun K hK => ?_; simp [and_assoc]; (try simp (disch := omega) only [wrap64]); (repeat refine ⟨by omega, ?_⟩); refine hK _ ?_; clear hK K) | refine aops.nil ?_ | refine AW.seqR ttOK etOK ?_ | refine AW.lastR ttOK etOK ?_ | refine AW.seqSkip ?_ | refine AW.seq ?_ | refine AW.block ?_ | (refine AW.skip ?_; simp only [andThen, inBlk, ↓reduceIte]) | (refine AW.exit ?_; simp (disch := omega) only [andThen, inBlk, ↓reduceIte, Nat.reduceEqDiff]) | (guard_target =~ andThen _ _ _ _; simp only [andThen, inBlk, ↓reduceIte])
    refine AW.cond _ (by rfl) (fun _ => ?_) (fun hx => absurd hx (by simp [hlt]))
    repeat first | (refine aops.cons fun K hK => ?_; simp [and_assoc, hx]; (try simp (disch := omega) only [wrap64]); (repeat refine ⟨by omega, ?_⟩); refine hK _ ?_; clear hK K) | refine aops.nil ?_ | refine AW.seqR ttOK etOK ?_ | refine AW.lastR ttOK etOK ?_ | refine AW.seqSkip ?_ | refine AW.seq ?_ | refine AW.block ?_ | (refine AW.skip ?_; simp only [andThen, inBlk, ↓reduceIte]) | (refine AW.exit ?_; simp (disch := omega) only [andThen, inBlk, ↓reduceIte, Nat.reduceEqDiff]) | (guard_target =~ andThen _ _ _ _; simp only [andThen, inBlk, ↓reduceIte])
    refine aops.cons fun K hK => ?_
    simp [and_assoc, hx]
    refine callA (good_checkStep t x left ht1 hxs (fun c hc => (h3 c hc).sm) (by omega)) (by repeat' constructor) (hK _ ?_)
    clear hK K
    by_cases f1 : (stepP t x left).2 = 0
    rotate_left
    · have hq2 : schGo t [] [] p = ([], (stepP t x left).2) := by rw [← h4]; simp [schGo, f1]
      repeat first | (refine aops.cons fun K hK => ?_; simp [and_assoc, resS, f1]; (try simp (disch := omega) only [wrap64]); (repeat refine ⟨by omega, ?_⟩); refine hK _ ?_; clear hK K) | refine aops.nil ?_ | refine AW.seqR ttOK etOK ?_ | refine AW.lastR ttOK etOK ?_ | refine AW.seqSkip ?_ | refine AW.seq ?_ | refine AW.block ?_ | (refine AW.skip ?_; simp only [andThen, inBlk, ↓reduceIte]) | (refine AW.exit ?_; simp (disch := omega) only [andThen, inBlk, ↓reduceIte, Nat.reduceEqDiff]) | (guard_target =~ andThen _ _ _ _; simp only [andThen, inBlk, ↓reduceIte])
      refine AW.cond _ (by rfl) (fun _ => ?_) (fun hx => absurd hx (by simp [f1]))
      repeat first | (refine aops.cons fun K hK => ?_; simp [and_assoc]; (try simp (disch := omega) only [wrap64]); (repeat refine ⟨by omega, ?_⟩); refine hK _ ?_; clear hK K) | refine aops.nil ?_ | refine AW.seqR ttOK etOK ?_ | refine AW.lastR ttOK etOK ?_ | refine AW.seqSkip ?_ | refine AW.seq ?_ | refine AW.block ?_ | (refine AW.skip ?_; simp only [andThen, inBlk, ↓reduceIte]) | (refine AW.exit ?_; simp (disch := omega) only [andThen, inBlk, ↓reduceIte, Nat.reduceEqDiff]) | (guard_target =~ andThen _ _ _ _; simp only [andThen, inBlk, ↓reduceIte])
      exact AW.ret (by simp [resL, resA, resV, resVs, andThen, inBlk, hq2, resS, f1])
    obtain ⟨g1, g2, g3, g4, g5⟩ := stepP_ok htok hxs h3 f1
    generalize hL : (stepP t x left).1 = L at g4 g5
    have hLl : L.length = left.length - takes x.kind + 1 := by rw [g4]; simp
    have hLpos : (L.length : Int) - 1 = ((L.length - 1 : Nat) : Int) := by omega
    obtain ⟨c, hc⟩ : ∃ c, L[L.length - 1]? = some c := ⟨L[L.length - 1]'(by omega), List.getElem?_eq_getElem (by omega)⟩
    repeat first | (refine aops.cons fun K hK => ?_; simp [and_assoc, resS, f1, hL]; (try simp (disch := omega) only [wrap64]); (repeat refine ⟨by omega, ?_⟩); refine hK _ ?_; clear hK K) | refine aops.nil ?_ | refine AW.seqR ttOK etOK ?_ | refine AW.lastR ttOK etOK ?_ | refine AW.seqSkip ?_ | refine AW.seq ?_ | refine AW.block ?_ | (refine AW.skip ?_; simp only [andThen, inBlk, ↓reduceIte]) | (refine AW.exit ?_; simp (disch := omega) only [andThen, inBlk, ↓reduceIte, Nat.reduceEqDiff]) | (guard_target =~ andThen _ _ _ _; simp only [andThen, inBlk, ↓reduceIte])
    refine AW.cond _ (by rfl) (fun hx => absurd hx (by simp [f1])) (fun _ => ?_)
    repeat first | (refine aops.cons fun K hK => ?_; simp [and_assoc, hLpos, eCs_get, hc, eCs_take, eCs_append, eCs_one]; (try simp (disch := omega) only [wrap64]); (repeat refine ⟨by omega, ?_⟩); refine hK _ ?_; clear hK K) | refine aops.nil ?_ | refine AW.seqR ttOK etOK ?_ | refine AW.lastR ttOK etOK ?_ | refine AW.seqSkip ?_ | refine AW.seq ?_ | refine AW.block ?_ | (refine AW.skip ?_; simp only [andThen, inBlk, ↓reduceIte]) | (refine AW.exit ?_; simp (disch := omega) only [andThen, inBlk, ↓reduceIte, Nat.reduceEqDiff]) | (guard_target =~ andThen _ _ _ _; simp only [andThen, inBlk, ↓reduceIte])
    refine ⟨hlt, ⟨52, [(0, aNamed t), (7, .d (.sl 1 (eCs L))), (8, .ms 46 1 0 (out.length + 1)), (22, .d (.sl 9 (p.map stepC))), (23, aI p.length), (24, aI (k + 1))], [(46, .arr 1 (eCs (out ++ [c])))]⟩, ?_, L, out ++ [c], by simp, by omega, by simp [h2], g5, ?_⟩
    · refine Weak.thenE (Weak.killE _ 45) (by simp; rfl) ?_
      refine Weak.thenE (Weak.killE _ 10) (by simp; rfl) ?_
      exact Weak.to2 (by simp) (by simp)
    · rw [hr, ← h4]
      simp [schGo, f1, hL, hc]
end Go.Proofs.Ab.Try
