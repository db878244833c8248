/- A part of the proof of the law: it holds for all states of the abstract kind told in the first of these texts; no condition besides those its statements name. -/
import Derived.Test.YtapnljdpijhcnaaAbG24
namespace Go.Proofs.Ab.Try
open Go Go.Proofs Go.Proofs.Ab
set_option linter.unusedSimpArgs false
set_option linter.unusedVariables false
set_option maxHeartbeats 8000000
/-! ### A plan that is one: each step fits the columns of its inputs -/
theorem sch_wf (t : List Named) (ht : ∀ x ∈ t, ok20 x.tab.cols) : ∀ (p : List PStep) (left out : List (List Col)), (∀ s ∈ p, smStep s) → (∀ c ∈ left, ok20 c) → (schGo t left out p).2 = 0 → wfGo left.length p = true := by
  intro p
  induction p with
  | nil => intro _ _ _ _ _; rfl
  | cons s r ih =>
    intro left out hs hl h
    unfold schGo at h
    split at h
    · rename_i h1; exact absurd h h1
    · rename_i h1
      obtain ⟨g1, g2, g3, g4, g5⟩ := stepP_ok ht (hs s (List.mem_cons_self ..)) hl (by simpa using h1)
      have := ih _ _ (fun s hs' => hs s (List.mem_cons_of_mem _ hs')) g5 h
      simp only [wfGo, g1, Bool.true_and, Bool.and_eq_true, decide_eq_true_eq]
      refine ⟨g2, ?_⟩
      rw [g4] at this
      simp only [List.length_append, List.length_take, List.length_singleton] at this
      rwa [show min (left.length - takes s.kind) left.length + 1 = left.length + 1 - takes s.kind by omega] at this
/-- The columns of a step's inputs. -/
def insOf (p : List PStep) (fr : List Int) (cols : List (List Col)) (i : Nat) : List (List Col) := (inputsOf p fr i).map fun j => (cols[j.toNat]?).getD []
structure Fits (t : List Named) (p : List PStep) (fr : List Int) (cols : List (List Col)) : Prop where
  len : cols.length = p.length
  at' : ∀ (i : Nat) (s : PStep), p[i]? = some s → inR s.kind 1 9 = true ∧ (leaveF t s (insOf p fr cols i)).2 = 0 ∧ cols[i]? = some (leaveF t s (insOf p fr cols i)).1 ∧ (insOf p fr cols i).length = takes s.kind ∧ (∀ j ∈ inputsOf p fr i, 0 ≤ j ∧ j < i) ∧ ∀ c ∈ insOf p fr cols i, ok20 c
  cok : ∀ c ∈ cols, ok20 c
/-- Where an entry of the stack was left. -/
def endAt (st : List Int) (i k : Nat) : Int := if k + 1 < st.length then (st[k + 1]?).getD 0 - 1 else (i : Int) - 1
theorem sch_fits (t : List Named) (ht : ∀ x ∈ t, ok20 x.tab.cols) (P : List PStep) (FR : List Int) (COLS : List (List Col)) :
    ∀ (r : List PStep) (i : Nat) (left out : List (List Col)) (st : List Int), P.drop i = r → i ≤ P.length → FR.drop i = startsGo i st r → FR.length = P.length → (∀ s ∈ r, smStep s) → (∀ c ∈ left, ok20 c) → left.length = st.length → out.length = i → (∀ c ∈ out, ok20 c) →
      (∀ k : Nat, k < st.length → 0 ≤ endAt st i k ∧ endAt st i k < i ∧ out[(endAt st i k).toNat]? = left[k]?) → (∀ (k : Nat) (f : Int), st[k]? = some f → 0 ≤ f ∧ f ≤ i) → (0 < st.length → (st[st.length - 1]?) = FR[i - 1]?) →
      (schGo t left out r).2 = 0 → (schGo t left out r).1 = COLS →
      COLS.take i = out ∧ COLS.length = P.length ∧ (∀ c ∈ COLS, ok20 c) ∧ ∀ (j : Nat) (s : PStep), i ≤ j → P[j]? = some s → inR s.kind 1 9 = true ∧ (leaveF t s (insOf P FR COLS j)).2 = 0 ∧ COLS[j]? = some (leaveF t s (insOf P FR COLS j)).1 ∧ (insOf P FR COLS j).length = takes s.kind ∧ (∀ q ∈ inputsOf P FR j, 0 ≤ q ∧ q < j) ∧ ∀ c ∈ insOf P FR COLS j, ok20 c := by
  intro r
  induction r with
  | nil =>
    intro i left out st hP hi hFR hFl hs hl hls ho hok hend hst htop h0 h1
    have hPi : P.length ≤ i := by simpa using hP
    unfold schGo at h0 h1
    split at h0
    · rename_i hl1
      rw [if_pos hl1] at h1
      simp only at h1
      subst h1
      refine ⟨List.take_of_length_le (by omega), by omega, hok, fun j s hj hx => ?_⟩
      have := (List.getElem?_eq_some_iff.1 hx).1
      omega
    · simp at h0
  | cons s r ih =>
    intro i left out st hP hi hFR hFl hs hl hls ho hok hend hst htop h0 h1
    obtain ⟨hx, hr, hlt⟩ := get_of_drop hP
    have hss := hs s (List.mem_cons_self ..)
    unfold schGo at h0 h1
    split at h0
    · rename_i h2; exact absurd h0 h2
    rename_i h2
    rw [if_neg h2] at h1
    obtain ⟨g1, g2, g3, g4, g5⟩ := stepP_ok ht hss hl (by simpa using h2)
    have htk := takes_le s.kind
    obtain ⟨m, hm⟩ : ∃ m, left.length - takes s.kind = m := ⟨_, rfl⟩
    have hm' : st.length - takes s.kind = m := by omega
    rw [hm] at g3 g4
    have hmle : m ≤ left.length := by omega
    -- the columns of this step
    obtain ⟨c, hc⟩ : ∃ c, (leaveF t s (left.drop m)).1 = c := ⟨_, rfl⟩
    have hck : ok20 c := hc ▸ leaveF_ok ht hss (fun c hc => hl c (List.mem_of_mem_drop hc)) g3
    rw [hc] at g4
    have hlast : (((stepP t s left).1[(stepP t s left).1.length - 1]?).getD []) = c := by
      rw [g4]
      have : (left.take m).length = m := by simp; omega
      simp [this]
    rw [hlast] at h0 h1
    -- the stack of starts
    have hfr : FR[i]? = some (fromAt i st s) ∧ FR.drop (i + 1) = startsGo (i + 1) (stNext i st s) r := by
      have h3 : FR.drop i = fromAt i st s :: startsGo (i + 1) (stNext i st s) r := hFR
      have := get_of_drop h3
      exact ⟨this.1, this.2.1⟩
    have hf : fromAt i st s = if m < st.length then (st[m]?).getD 0 else i := by
      unfold fromAt
      rw [hm']
      split
      · rename_i h
        rw [List.getElem?_eq_getElem h]; rfl
      · rename_i h
        rw [List.getElem?_eq_none (by omega)]; rfl
    have hfb : 0 ≤ fromAt i st s ∧ fromAt i st s ≤ i := by
      rw [hf]
      split
      · rename_i h
        rw [List.getElem?_eq_getElem h]
        exact hst m _ (List.getElem?_eq_getElem h)
      · omega
    have hsn : stNext i st s = st.take m ++ [fromAt i st s] := by unfold stNext; rw [hm']
    have hsl : (st.take m).length = m := by simp; omega
    have hnl : (stNext i st s).length = m + 1 := by rw [hsn]; simp; omega
    have hgl : (left.take m).length = m := by simp; omega
    have hrec := ih (i + 1) (stepP t s left).1 (out ++ [c]) (stNext i st s) hr (by omega) hfr.2 hFl (fun s hs' => hs s (List.mem_cons_of_mem _ hs')) g5 (by rw [g4, hnl]; simp; omega) (by simp [ho])
      (by intro d hd; rcases List.mem_append.1 hd with hd | hd; exact hok d hd; obtain rfl := List.mem_singleton.1 hd; exact hck)
      (by
        intro k hk
        rw [hnl] at hk
        unfold endAt
        rw [hnl, g4, hsn]
        by_cases hkm : k = m
        · subst hkm
          rw [if_neg (by omega), List.getElem?_append_right (by omega)]
          refine ⟨by omega, by omega, ?_⟩
          rw [show ((((i + 1 : Nat)) : Int) - 1).toNat = i by omega, List.getElem?_append_right (by omega), ho, hgl, Nat.sub_self, Nat.sub_self]
        · rw [if_pos (by omega)]
          have hk1 : k < st.length := by omega
          obtain ⟨e1, e2, e3⟩ := hend k hk1
          have key : ((st.take m ++ [fromAt i st s])[k + 1]?).getD 0 - 1 = endAt st i k := by
            by_cases hk2 : k + 1 < m
            · rw [List.getElem?_append_left (by omega), List.getElem?_take, if_pos hk2]
              unfold endAt
              rw [if_pos (by omega)]
            · have hk3 : k + 1 = m := by omega
              rw [List.getElem?_append_right (by omega), hsl, hk3]
              simp only [Nat.sub_self, List.getElem?_cons_zero, Option.getD_some]
              rw [hf]
              unfold endAt
              rw [hk3]
              split <;> rfl
          rw [key]
          refine ⟨e1, by omega, ?_⟩
          rw [List.getElem?_append_left (by omega), e3, List.getElem?_append_left (by omega), List.getElem?_take, if_pos (by omega)])
      (by
        intro k f hkf
        rw [hsn] at hkf
        by_cases hkm : k < m
        · rw [List.getElem?_append_left (by omega), List.getElem?_take, if_pos hkm] at hkf
          have := hst k f hkf
          omega
        · rw [List.getElem?_append_right (by omega)] at hkf
          cases hq : k - (st.take m).length with
          | zero =>
            rw [hq] at hkf
            simp at hkf
            subst hkf
            omega
          | succ n => rw [hq] at hkf; simp at hkf)
      (by
        intro _
        rw [hnl, hsn, Nat.add_sub_cancel, Nat.add_sub_cancel, List.getElem?_append_right (by omega), hsl, hfr.1]
        simp)
      h0 h1
    obtain ⟨r1, r2, r3, r4⟩ := hrec
    have r1' : COLS.take i = out := by
      have := congrArg (List.take i) r1
      rw [List.take_take, Nat.min_eq_left (by omega), List.take_append_of_le_length (show i ≤ out.length by omega), List.take_of_length_le (show out.length ≤ i by omega)] at this
      exact this
    refine ⟨r1', r2, r3, fun j s' hj hx' => ?_⟩
    by_cases hji : j = i
    · subst hji
      rw [hx] at hx'
      injection hx' with hx'
      subst hx'
      have hcj : COLS[j]? = some c := by
        have : (COLS.take (j + 1))[j]? = (out ++ [c])[j]? := by rw [r1]
        rw [List.getElem?_take, if_pos (by omega), List.getElem?_append_right (by omega), ho] at this
        simpa using this
      have hcq : ∀ q, q < j → COLS[q]? = out[q]? := by
        intro q hq
        rw [← r1', List.getElem?_take, if_pos hq]
      -- the inputs
      have hins : insOf P FR COLS j = left.drop m ∧ ∀ q ∈ inputsOf P FR j, 0 ≤ q ∧ q < j := by
        unfold insOf inputsOf
        rw [hx]
        simp only
        by_cases t0 : takes s.kind = 0
        · rw [if_pos t0]
          refine ⟨?_, by simp⟩
          rw [show m = left.length by omega]
          simp
        · rw [if_neg t0]
          have hlp : 0 < st.length := by omega
          obtain ⟨e1, e2, e3⟩ := hend (st.length - 1) (by omega)
          have ee : endAt st j (st.length - 1) = (j : Int) - 1 := by unfold endAt; rw [if_neg (by omega)]
          rw [ee] at e1 e2 e3
          have hj1 : ((j : Int) - 1).toNat = j - 1 := by omega
          rw [hj1] at e3
          have htopc : COLS[j - 1]? = left[left.length - 1]? := by rw [hcq _ (by omega), e3, hls]
          obtain ⟨a, ha⟩ : ∃ a, left[left.length - 1]? = some a := ⟨left[left.length - 1]'(by omega), List.getElem?_eq_getElem (by omega)⟩
          by_cases t1 : takes s.kind = 1
          · rw [if_pos t1]
            refine ⟨?_, by simp; omega⟩
            simp only [List.map_cons, List.map_nil, hj1, htopc, ha, Option.getD_some]
            have hm1 : m = left.length - 1 := by omega
            rw [hm1, List.drop_eq_getElem_cons (by omega), show left.length - 1 + 1 = left.length by omega, List.drop_length]
            rw [List.getElem?_eq_getElem (by omega)] at ha
            injection ha with ha
            rw [ha]
          · rw [if_neg t1]
            have t2 : takes s.kind = 2 := by omega
            have htf := htop hlp
            obtain ⟨f, hf'⟩ : ∃ f, st[st.length - 1]? = some f := ⟨st[st.length - 1]'(by omega), List.getElem?_eq_getElem (by omega)⟩
            rw [hf'] at htf
            have hfj : (FR[j - 1]?).getD 0 = f := by rw [← htf]; rfl
            obtain ⟨d1, d2, d3⟩ := hend (st.length - 2) (by omega)
            have de : endAt st j (st.length - 2) = f - 1 := by
              unfold endAt
              rw [if_pos (by omega), show st.length - 2 + 1 = st.length - 1 by omega, hf']
              rfl
            rw [de] at d1 d2 d3
            obtain ⟨b, hb⟩ : ∃ b, left[left.length - 2]? = some b := ⟨left[left.length - 2]'(by omega), List.getElem?_eq_getElem (by omega)⟩
            have hsec : COLS[(f - 1).toNat]? = left[left.length - 2]? := by rw [hcq _ (by omega), d3, hls]
            refine ⟨?_, ?_⟩
            · simp only [List.map_cons, List.map_nil, hfj, hsec, hb, Option.getD_some, hj1, htopc, ha]
              have hm1 : m = left.length - 2 := by omega
              rw [hm1, List.drop_eq_getElem_cons (by omega), show left.length - 2 + 1 = left.length - 1 by omega, List.drop_eq_getElem_cons (by omega), show left.length - 1 + 1 = left.length by omega, List.drop_length]
              rw [List.getElem?_eq_getElem (by omega)] at ha hb
              injection ha with ha
              injection hb with hb
              rw [ha, hb]
            · intro q hq
              rw [hfj] at hq
              simp only [List.mem_cons, List.not_mem_nil, or_false] at hq
              rcases hq with rfl | rfl <;> omega
      rw [hins.1]
      refine ⟨g1, g3, by rw [hc]; exact hcj, by simp; omega, hins.2, fun c hc => hl c (List.mem_of_mem_drop hc)⟩
    · exact r4 j s' (by omega) hx'
theorem fits {t : List Named} {p : List PStep} (ht : smL smNamed t) (hp : smL smStep p) (h : (schF t p).2 = 0) : wfGo 0 p = true ∧ p ≠ [] ∧ p.length ≤ 50 ∧ Fits t p (startsGo 0 [] p) (schF t p).1 := by
  unfold schF at h
  split at h
  · rename_i h1; exact absurd h h1
  split at h
  · simp at h
  rename_i h1 h2
  have h1' : tablesF t = 0 := by simpa using h1
  have htok := tables_ok ht h1'
  have e : schF t p = schGo t [] [] p := by unfold schF; rw [if_neg h1, if_neg h2]
  have hw := sch_wf t htok p [] [] hp.2 (by simp) h
  have hne : p ≠ [] := by rintro rfl; simp [schGo] at h
  refine ⟨hw, hne, by omega, ?_⟩
  obtain ⟨_, r2, r3, r4⟩ := sch_fits t htok p (startsGo 0 [] p) (schF t p).1 p 0 [] [] [] rfl (by simp) rfl (startsGo_length _ _ _) hp.2 (by simp) rfl rfl (by simp) (by simp) (by simp) (by simp) h (by rw [e])
  exact ⟨r2, fun i s hi => r4 i s (Nat.zero_le _) hi, r3⟩
end Go.Proofs.Ab.Try
