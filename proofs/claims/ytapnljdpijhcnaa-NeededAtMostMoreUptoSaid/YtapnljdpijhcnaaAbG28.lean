/- A part of the proof of the law: it holds for all states of the abstract kind told in the first of these texts; no condition besides those its statements name. -/
import Derived.Test.YtapnljdpijhcnaaAbG27
namespace Go.Proofs.Ab.Try
open Go Go.Proofs Go.Proofs.Ab
set_option linter.unusedSimpArgs false
set_option linter.unusedVariables false
set_option maxHeartbeats 8000000
/-! ### What a step without fault keeps to -/
def Inn (n : Nat) (l : List Int) : Prop := ∀ x ∈ l, 0 ≤ x ∧ x < (n : Int)
theorem inR_iff {n lo hi : Int} : inR n lo hi = true ↔ lo ≤ n ∧ n ≤ hi := by simp [inR]
theorem exprGo_in (c : List Col) : ∀ (e : List Node) (kinds : List Int), (exprGo c kinds e).2 = 0 → Inn c.length (colsIn e) := by
  intro e
  induction e with
  | nil => intro _ _ x hx; cases hx
  | cons n r ih =>
    intro kinds h x hx
    unfold exprGo at h
    split at h
    · rename_i h1; exact absurd h h1
    split at h
    · simp at h
    split at h
    · simp at h
    rename_i h1 _ _
    have h1' : nodeF c n = 0 := by simpa using h1
    have := (node_ok h1').1
    simp only [colsIn] at hx
    split at hx
    · rename_i k1
      rcases List.mem_cons.1 hx with rfl | hx
      · have := inR_iff.1 (this k1); omega
      · exact ih _ h x hx
    · exact ih _ h x hx
theorem exprF_ok {c : List Col} {e : List Node} (h : (exprF c e).2 = 0) : e.length ≤ 200 ∧ Inn c.length (usedE e) := by
  unfold exprF at h
  split at h
  · rename_i h1; exact absurd h h1
  split at h
  · simp at h
  · exact ⟨by omega, usedE_in (exprGo_in c e [] h)⟩
theorem boolF_ok {c : List Col} {e : List Node} (h : boolF c e = 0) : e.length ≤ 200 ∧ Inn c.length (usedE e) := by
  unfold boolF at h
  split at h
  · omega
  · exact exprF_ok h
theorem condF_ok {c : List Col} {s : PStep} (h : condF c s = 0) : ∃ e, s.exprs = [e] ∧ e.length ≤ 200 ∧ Inn c.length (usedE e) := by
  unfold condF at h
  split at h
  · rename_i e he; exact ⟨e, he, boolF_ok h⟩
  · omega
theorem projGo_in (c : List Col) : ∀ (l : List (List Node × ByteArray)) (out : List Col), (projGo c out l).2 = 0 → ∀ p ∈ l, p.1.length ≤ 200 ∧ Inn c.length (usedE p.1) := by
  intro l
  induction l with
  | nil => intro _ _ p hp; cases hp
  | cons q r ih =>
    obtain ⟨e, n⟩ := q
    intro out h p hp
    simp only [projGo] at h
    split at h
    · rename_i h1; exact absurd h h1
    split at h
    · simp at h
    split at h
    · simp at h
    split at h
    · simp at h
    rename_i h1 _ _ _
    rcases List.mem_cons.1 hp with rfl | hp
    · exact exprF_ok (by simpa using h1)
    · exact ih _ h p hp
theorem projF_ok {c : List Col} {s : PStep} (h : (projF c s).2 = 0) (hn : ∀ n ∈ s.names, smS n) : s.exprs.length ≤ 20 ∧ (projF c s).1.length = s.exprs.length ∧ ∀ e ∈ s.exprs, e.length ≤ 200 ∧ Inn c.length (usedE e) := by
  unfold projF at h ⊢
  split at h
  · simp at h
  split at h
  · simp at h
  split at h
  · simp at h
  rename_i q1 q2 q3
  rw [if_neg q1, if_neg q2, if_neg q3]
  have q1' : s.names.length = s.exprs.length := by simpa using q1
  obtain ⟨a, b⟩ := projGo_ok c _ [] (by simp) (fun p hp => hn _ (List.of_mem_zip hp).2) h
  refine ⟨by omega, by rw [a]; simp [q1'], fun e he => ?_⟩
  obtain ⟨i, hi, rfl⟩ := List.mem_iff_getElem.1 he
  have := projGo_in c _ [] h (s.exprs[i], s.names[i]'(by omega)) (by
    refine List.mem_iff_getElem.2 ⟨i, by simp; omega, ?_⟩
    simp)
  exact this
theorem joinF_ok {a b : List Col} {s : PStep} (h : (joinF a b s).2 = 0) : a.length + b.length ≤ 20 ∧ ((joinF a b s).1 = a ∨ (joinF a b s).1 = a ++ b) ∧ ∃ e, s.exprs = [e] ∧ e.length ≤ 200 ∧ Inn (a.length + b.length) (usedE e) := by
  unfold joinF at h ⊢
  split at h
  · simp at h
  split at h
  · simp at h
  split at h
  · simp at h
  split at h
  · rename_i h1; exact absurd h h1
  rename_i q1 q2 q3 q4
  rw [if_neg q1, if_neg q2, if_neg q3, if_neg q4]
  refine ⟨by omega, ?_, ?_⟩
  · split
    · exact .inl rfl
    · exact .inr rfl
  · have := condF_ok (c := a ++ b) (s := s) (by simpa using q4)
    simpa using this
theorem gcGo_in (c : List Col) : ∀ (l seen : List Int), gcGo c seen l = 0 → Inn c.length l := by
  intro l
  induction l with
  | nil => intro _ _ x hx; cases hx
  | cons k r ih =>
    intro seen h x hx
    unfold gcGo at h
    split at h
    · omega
    split at h
    · omega
    rename_i h1 _
    rcases List.mem_cons.1 hx with rfl | hx
    · have h1' : inR x 0 ((c.length : Int) - 1) = true := by simpa using h1
      have := inR_iff.1 h1'; omega
    · exact ih _ h x hx
theorem gaGo_in (c : List Col) : ∀ (l : List Agg) (out : List Col), (gaGo c out l).2 = 0 → ∀ a ∈ l, a.kind ≠ 1 → 0 ≤ a.col ∧ a.col < (c.length : Int) := by
  intro l
  induction l with
  | nil => intro _ _ a ha; cases ha
  | cons q r ih =>
    intro out h a ha k1
    unfold gaGo at h
    split at h
    · rename_i h1; exact absurd h h1
    split at h
    · simp at h
    split at h
    · simp at h
    rename_i h1 _ _
    rcases List.mem_cons.1 ha with rfl | ha
    · have h1' : aggF c a = 0 := by simpa using h1
      unfold aggF at h1'
      split at h1'
      · omega
      split at h1'
      · omega
      split at h1'
      · omega
      rename_i h3
      cases hq : inR a.col 0 ((c.length : Int) - 1) with
      | true => have := inR_iff.1 hq; omega
      | false => exact absurd ⟨k1, hq⟩ h3
    · exact ih _ h a ha k1
theorem groupF_ok {c : List Col} {s : PStep} (h : (groupF c s.cols s.aggs).2 = 0) (hc : ∀ x ∈ c, smCol x) (hs : smStep s) : s.cols.length + s.aggs.length ≤ 20 ∧ (groupF c s.cols s.aggs).1.length = s.cols.length + s.aggs.length ∧ Inn c.length s.cols ∧ ∀ a ∈ s.aggs, a.kind ≠ 1 → 0 ≤ a.col ∧ a.col < (c.length : Int) := by
  unfold groupF at h ⊢
  split at h
  · simp at h
  split at h
  · simp at h
  split at h
  · rename_i h1; exact absurd h h1
  rename_i q1 q2 q3
  rw [if_neg q1, if_neg q2, if_neg q3]
  have q3' : gcGo c [] s.cols = 0 := by simpa using q3
  obtain ⟨a, b⟩ := gaGo_ok c s.aggs (s.cols.map (colAt c)) (by
    intro x hx
    obtain ⟨k, _, rfl⟩ := List.mem_map.1 hx
    exact colAt_sm hc k) (fun p hp => hs.aggs.2 p hp) h
  exact ⟨by omega, by rw [a]; simp, gcGo_in c _ _ q3', gaGo_in c _ _ h⟩
theorem keysGo_in (c : List Col) : ∀ (l seen : List Key), keysGo c seen l = 0 → ∀ k ∈ l, 0 ≤ k.col ∧ k.col < (c.length : Int) := by
  intro l
  induction l with
  | nil => intro _ _ x hx; cases hx
  | cons k r ih =>
    intro seen h x hx
    unfold keysGo at h
    split at h
    · omega
    split at h
    · omega
    rename_i h1 _
    rcases List.mem_cons.1 hx with rfl | hx
    · have h1' : inR x.col 0 ((c.length : Int) - 1) = true := by simpa using h1
      have := inR_iff.1 h1'; omega
    · exact ih _ h x hx
theorem eqCols_len {a b : List Col} (h : eqCols a b = true) : a.length = b.length := by
  unfold eqCols at h
  split at h
  · assumption
  · cases h
/-! ### What a step asks of its inputs -/
def grpGo (s : PStep) : List Int → List Int → List Int
  | out, [] => out
  | out, k :: r => match (if 0 ≤ k - s.cols.length then s.aggs[(k - s.cols.length).toNat]? else none) with
    | some a => if a.kind ≠ 1 then grpGo s (unionI out [a.col]) r else grpGo s out r
    | none => grpGo s out r
def keyGo : List Int → List Key → List Int
  | need, [] => need
  | need, k :: r => keyGo (unionI need [k.col]) r
def widthIn (p : List PStep) (fr : List Int) (cols : List (List Col)) (i : Nat) : Nat := (((insOf p fr cols i)[0]?).getD []).length
def expr0 (s : PStep) : List Node := (s.exprs[0]?).getD []
def askF (p : List PStep) (fr : List Int) (cols : List (List Col)) (i : Nat) (s : PStep) (need : List Int) : List (List Int) :=
  if s.kind = 1 then []
  else if s.kind = 2 then [unionI need (usedE (expr0 s))]
  else if s.kind = 3 then [usedL s.exprs [] need]
  else if s.kind = 4 then [sideA (widthIn p fr cols i) (unionI need (usedE (expr0 s))), sideB (widthIn p fr cols i) (unionI need (usedE (expr0 s)))]
  else if s.kind = 5 then [grpGo s (unionI s.cols []) need]
  else if s.kind = 6 then [keyGo need s.keys]
  else if s.kind = 9 then [upToI 0 ((cols[i]?).getD []).length]
  else if s.kind = 8 then [need, need]
  else [need]
theorem grpGo_srt {s : PStep} {n : Nat} (ha : ∀ a ∈ s.aggs, a.kind ≠ 1 → 0 ≤ a.col ∧ a.col < (n : Int)) : ∀ (l out : List Int), Srt n out → Srt n (grpGo s out l) := by
  intro l
  induction l with
  | nil => intro out h; exact h
  | cons k r ih =>
    intro out h
    unfold grpGo
    split
    · rename_i a hx
      split
      · rename_i k1
        refine ih _ (unionI_srt h.2 ?_)
        intro x hx'
        obtain rfl := List.mem_singleton.1 hx'
        split at hx
        · exact ha a (List.mem_of_getElem? hx) k1
        · cases hx
      · exact ih _ h
    · exact ih _ h
theorem keyGo_srt {n : Nat} : ∀ (l : List Key) (need : List Int), (∀ k ∈ l, 0 ≤ k.col ∧ k.col < (n : Int)) → Srt n need → Srt n (keyGo need l) := by
  intro l
  induction l with
  | nil => intro need _ h; exact h
  | cons k r ih =>
    intro need hk h
    refine ih _ (fun q hq => hk q (List.mem_cons_of_mem _ hq)) (unionI_srt h.2 ?_)
    intro x hx
    obtain rfl := List.mem_singleton.1 hx
    exact hk k (List.mem_cons_self ..)
/-- What is asked of an input are columns that it has. -/
theorem ask_srt {t : List Named} {p : List PStep} {fr : List Int} {cols : List (List Col)} (hp : smL smStep p) (hf : Fits t p fr cols) {i : Nat} {s : PStep} (hs : p[i]? = some s) {need : List Int} (hn : Srt ((cols[i]?).getD []).length need) :
    (askF p fr cols i s need).length = takes s.kind ∧ ∀ (n : Nat) (l : List Int), (askF p fr cols i s need)[n]? = some l → Srt ((((insOf p fr cols i)[n]?).getD []).length) l := by
  obtain ⟨h1, h2, h3, h4, h5, h6⟩ := hf.at' i s hs
  have hss := hp.get hs
  rw [h3, Option.getD_some] at hn
  have hci : ((cols[i]?).getD []) = (leaveF t s (insOf p fr cols i)).1 := by rw [h3]; rfl
  unfold askF widthIn
  revert h2 hn h4 h6 hci
  generalize insOf p fr cols i = L
  intro hn h2 h4 h6 hci
  unfold leaveF at h2 hn hci
  have one : ∀ (l : List Int) (n : Nat) (q : List Int), [l][n]? = some q → n = 0 ∧ q = l := by
    intro l n q h
    cases n with
    | zero => simp at h; exact ⟨rfl, h.symm⟩
    | succ n => simp at h
  by_cases k1 : s.kind = 1
  · simp [k1, takes]
  simp only [k1, if_false] at h2 hn hci ⊢
  by_cases k2 : s.kind = 2
  · simp only [k2, if_true] at h2 hn hci ⊢
    obtain ⟨e, he, _, hu⟩ := condF_ok h2
    refine ⟨by simp [takes, k2], fun n l hl => ?_⟩
    obtain ⟨rfl, rfl⟩ := one _ _ _ hl
    have : expr0 s = e := by simp [expr0, he]
    rw [this]
    exact unionI_srt hn.2 hu
  simp only [k2, if_false] at h2 hn hci ⊢
  by_cases k3 : s.kind = 3
  · simp only [k3, if_true] at h2 hn hci ⊢
    obtain ⟨_, q2, q3⟩ := projF_ok h2 hss.names.2
    refine ⟨by simp [takes, k3], fun n l hl => ?_⟩
    obtain ⟨rfl, rfl⟩ := one _ _ _ hl
    refine usedL_srt fun k hk x hx => ?_
    have := hn.2 k hk
    rw [q2] at this
    have hkl : k.toNat < s.exprs.length := by omega
    rw [List.getElem?_eq_getElem hkl] at hx
    exact (q3 _ (List.getElem_mem hkl)).2 x hx
  simp only [k3, if_false] at h2 hn hci ⊢
  by_cases k4 : s.kind = 4
  · simp only [k4, if_true] at h2 hn hci ⊢
    obtain ⟨q1, q2, e, he, _, hu⟩ := joinF_ok h2
    have hex : expr0 s = e := by simp [expr0, he]
    have hnn : Inn ((((L[0]?).getD []).length) + ((L[1]?).getD []).length) need := by
      intro x hx
      have := hn.2 x hx
      rcases q2 with q | q <;> rw [q] at this
      · omega
      · simp at this; omega
    have hU : Srt ((((L[0]?).getD []).length) + ((L[1]?).getD []).length) (unionI need (usedE e)) := unionI_srt hnn hu
    rw [hex]
    refine ⟨by simp [takes, k4], fun n l hl => ?_⟩
    match n with
    | 0 => simp at hl; subst hl; exact sideA_srt hU
    | 1 => simp at hl; subst hl; exact sideB_srt hU
    | n + 2 => simp at hl
  simp only [k4, if_false] at h2 hn hci ⊢
  by_cases k5 : s.kind = 5
  · simp only [k5, if_true] at h2 hn hci ⊢
    have hsm : ∀ x ∈ (L[0]?).getD [], smCol x := by
      cases hx : L[0]? with
      | none => simp
      | some c => exact (h6 c (List.mem_of_getElem? hx)).2
    obtain ⟨q1, q2, q3, q4⟩ := groupF_ok h2 hsm hss
    refine ⟨by simp [takes, k5], fun n l hl => ?_⟩
    obtain ⟨rfl, rfl⟩ := one _ _ _ hl
    exact grpGo_srt q4 _ _ (unionI_srt q3 (by simp))
  simp only [k5, if_false] at h2 hn hci ⊢
  by_cases k6 : s.kind = 6
  · simp only [k6, if_true] at h2 hn hci ⊢
    refine ⟨by simp [takes, k6], fun n l hl => ?_⟩
    obtain ⟨rfl, rfl⟩ := one _ _ _ hl
    split at h2
    · simp at h2
    · rename_i hk0
      rw [if_neg hk0] at hn
      exact keyGo_srt _ _ (keysGo_in _ _ _ h2) hn
  simp only [k6, if_false] at h2 hn hci ⊢
  by_cases k7 : s.kind = 7
  · simp only [k7, if_true] at h2 hn hci ⊢
    simp
    refine ⟨by simp [takes, k7], fun n l hl => ?_⟩
    obtain ⟨rfl, rfl⟩ := one _ _ _ hl
    exact hn
  simp only [k7, if_false] at h2 hn hci ⊢
  by_cases k8 : s.kind = 8
  · simp only [k8, if_true] at h2 hn hci ⊢
    simp
    split at h2
    · rename_i he
      rw [if_pos he] at hn
      have hl := eqCols_len he
      refine ⟨by simp [takes, k8], fun n l hl' => ?_⟩
      match n with
      | 0 => simp at hl'; subst hl'; exact hn
      | 1 => simp at hl'; subst hl'; rw [← hl]; exact hn
      | n + 2 => simp at hl'
    · simp at h2
  simp only [k8, if_false] at h2 hn hci ⊢
  by_cases k9 : s.kind = 9
  · simp only [k9, if_true] at hci ⊢
    refine ⟨by simp [takes, k9], fun n l hl => ?_⟩
    obtain ⟨rfl, rfl⟩ := one _ _ _ hl
    rw [hci]
    exact upToI_srt _
  · simp only [k9, if_false]
    refine ⟨by simp [takes, k1, k4, k8], fun n l hl => ?_⟩
    obtain ⟨rfl, rfl⟩ := one _ _ _ hl
    exact hn
end Go.Proofs.Ab.Try
