/- A part of the proof of the law: it holds for all states of the abstract kind told in the first of these texts; no condition besides those its statements name. -/
import Derived.Test.YtapnljdpijhcnaaAbG19
namespace Go.Proofs.Ab.Try
open Go Go.Proofs Go.Proofs.Ab
set_option linter.unusedSimpArgs false
set_option linter.unusedVariables false
set_option maxHeartbeats 8000000
/-! ### Sets of columns -/
theorem keeps_iff (d : Array Int) (j : Nat) : Lib.keeps d j = true ↔ j = 0 ∨ d[j]! ≠ d[j - 1]! := by
  unfold Lib.keeps
  simp
theorem compact_mem (l : List Int) (x : Int) : x ∈ Lib.compact l ↔ x ∈ l := by
  unfold Lib.compact Lib.compactUpTo
  simp only [List.mem_map, List.mem_filter, List.mem_range]
  constructor
  · rintro ⟨j, ⟨hj, _⟩, rfl⟩
    rw [getElem!_pos _ j (by simpa using hj)]
    simp
  · intro hx
    obtain ⟨j, hj, hjx⟩ := List.mem_iff_getElem.1 hx
    have key : ∀ (j : Nat) (hj : j < l.length), ∃ a, (a < l.length ∧ Lib.keeps l.toArray a = true) ∧ l.toArray[a]! = l[j] := by
      intro j
      induction j with
      | zero => intro hj; exact ⟨0, ⟨hj, (keeps_iff _ _).2 (.inl rfl)⟩, by rw [getElem!_pos _ 0 (by simpa using hj)]; simp⟩
      | succ j ih =>
        intro hj
        by_cases hk : Lib.keeps l.toArray (j + 1) = true
        · exact ⟨j + 1, ⟨hj, hk⟩, by rw [getElem!_pos _ (j + 1) (by simpa using hj)]; simp⟩
        · rw [keeps_iff] at hk
          have he : l.toArray[j + 1]! = l.toArray[j]! := by
            by_cases h : l.toArray[j + 1]! = l.toArray[j]!
            · exact h
            · exact absurd (.inr (by simpa using h)) hk
          obtain ⟨a, h1, h2⟩ := ih (by omega)
          refine ⟨a, h1, h2.trans ?_⟩
          rw [getElem!_pos _ (j + 1) (by simpa using hj), getElem!_pos _ j (by simp; omega)] at he
          simpa using he.symm
    obtain ⟨a, h1, h2⟩ := key j hj
    exact ⟨a, h1, h2.trans hjx⟩
theorem mem_setOf (l : List Int) (x : Int) : x ∈ setOf l ↔ x ∈ l := by
  unfold setOf
  rw [compact_mem]
  exact (List.mergeSort_perm _ _).mem_iff
theorem setOf_pw (l : List Int) : (setOf l).Pairwise (· < ·) := by
  unfold setOf
  have hs : (l.mergeSort fun x y => decide (x ≤ y)).Pairwise (fun a b => decide (a ≤ b) = true) := List.pairwise_mergeSort (fun a b c h1 h2 => by simp at *; omega) (fun a b => by simp; omega) l
  generalize (l.mergeSort fun x y => decide (x ≤ y)) = m at hs
  have hs' : ∀ i j (hi : i < m.length) (hj : j < m.length), i < j → m[i] ≤ m[j] := by
    intro i j hi hj hij
    have := (List.pairwise_iff_getElem.1 hs) i j hi hj hij
    simpa using this
  unfold Lib.compact Lib.compactUpTo
  rw [List.pairwise_map]
  refine List.Pairwise.imp_of_mem ?_ (List.Pairwise.filter _ List.pairwise_lt_range)
  intro a b ha hb hab
  simp only [List.mem_filter, List.mem_range] at ha hb
  obtain ⟨ha1, _⟩ := ha
  obtain ⟨hb1, hb2⟩ := hb
  rw [keeps_iff] at hb2
  have hb3 : m.toArray[b]! ≠ m.toArray[b - 1]! := by
    rcases hb2 with h | h
    · omega
    · exact h
  rw [getElem!_pos _ b (by simpa using hb1), getElem!_pos _ (b - 1) (by simp; omega)] at hb3
  rw [getElem!_pos _ a (by simpa using ha1), getElem!_pos _ b (by simpa using hb1)]
  simp only [List.getElem_toArray] at hb3 ⊢
  have h1 : m[a] ≤ m[b - 1] := by
    by_cases h : a = b - 1
    · subst h; exact Int.le_refl _
    · exact hs' a (b - 1) ha1 (by omega) (by omega)
  have h2 : m[b - 1] ≤ m[b] := hs' (b - 1) b (by omega) hb1 (by omega)
  omega
/-- In order, each once, below a bound. -/
def Srt (n : Nat) (l : List Int) : Prop := l.Pairwise (· < ·) ∧ ∀ x ∈ l, 0 ≤ x ∧ x < n
theorem pw_len : ∀ (l : List Int) (lo hi : Int), lo ≤ hi → l.Pairwise (· < ·) → (∀ x ∈ l, lo ≤ x ∧ x < hi) → (l.length : Int) ≤ hi - lo := by
  intro l
  induction l with
  | nil => intro lo hi h _ _; simp; omega
  | cons x r ih =>
    intro lo hi h hp hb
    obtain ⟨h1, h2⟩ := hb x (List.mem_cons_self ..)
    obtain ⟨h3, h4⟩ := List.pairwise_cons.1 hp
    have := ih (x + 1) hi (by omega) h4 (fun y hy => by have := h3 y hy; have := (hb y (List.mem_cons_of_mem _ hy)).2; omega)
    simp only [List.length_cons, Int.natCast_add, Int.cast_ofNat_Int]
    omega
theorem Srt.len {n : Nat} {l : List Int} (h : Srt n l) : l.length ≤ n := by
  have := pw_len l 0 n (by omega) h.1 h.2
  omega
theorem setOf_srt {n : Nat} {l : List Int} (h : ∀ x ∈ l, 0 ≤ x ∧ x < n) : Srt n (setOf l) := ⟨setOf_pw l, fun x hx => h x ((mem_setOf l x).1 hx)⟩
theorem mem_unionI (a b : List Int) (x : Int) : x ∈ unionI a b ↔ x ∈ a ∨ x ∈ b := by unfold unionI; rw [mem_setOf]; simp
theorem unionI_srt {n : Nat} {a b : List Int} (ha : ∀ x ∈ a, 0 ≤ x ∧ x < n) (hb : ∀ x ∈ b, 0 ≤ x ∧ x < n) : Srt n (unionI a b) := setOf_srt (by
  intro x hx
  rcases List.mem_append.1 hx with h | h
  · exact ha x h
  · exact hb x h)
theorem mem_sideA (w : Int) : ∀ (l : List Int) (x : Int), x ∈ sideA w l ↔ x ∈ l ∧ x < w := by
  intro l
  induction l with
  | nil => simp [sideA]
  | cons k r ih =>
    intro x
    unfold sideA
    split
    · simp only [List.mem_cons, ih]
      constructor
      · rintro (rfl | ⟨h1, h2⟩)
        · exact ⟨.inl rfl, by assumption⟩
        · exact ⟨.inr h1, h2⟩
      · rintro ⟨rfl | h1, h2⟩
        · exact .inl rfl
        · exact .inr ⟨h1, h2⟩
    · rw [ih]
      constructor
      · rintro ⟨h1, h2⟩; exact ⟨List.mem_cons_of_mem _ h1, h2⟩
      · rintro ⟨h1, h2⟩
        rcases List.mem_cons.1 h1 with rfl | h1
        · contradiction
        · exact ⟨h1, h2⟩
theorem mem_sideB (w : Int) : ∀ (l : List Int) (x : Int), x ∈ sideB w l ↔ x + w ∈ l ∧ 0 ≤ x := by
  intro l
  induction l with
  | nil => simp [sideB]
  | cons k r ih =>
    intro x
    unfold sideB
    split
    · rename_i hk
      rw [ih]
      constructor
      · rintro ⟨h1, h2⟩; exact ⟨List.mem_cons_of_mem _ h1, h2⟩
      · rintro ⟨h1, h2⟩
        rcases List.mem_cons.1 h1 with h | h1
        · omega
        · exact ⟨h1, h2⟩
    · rename_i hk
      simp only [List.mem_cons, ih]
      constructor
      · rintro (rfl | ⟨h1, h2⟩)
        · exact ⟨.inl (by omega), by omega⟩
        · exact ⟨.inr h1, h2⟩
      · rintro ⟨h | h1, h2⟩
        · exact .inl (by omega)
        · exact .inr ⟨h1, h2⟩
theorem sideA_pw (w : Int) : ∀ (l : List Int), l.Pairwise (· < ·) → (sideA w l).Pairwise (· < ·) := by
  intro l
  induction l with
  | nil => intro _; exact List.Pairwise.nil
  | cons k r ih =>
    intro h
    obtain ⟨h1, h2⟩ := List.pairwise_cons.1 h
    unfold sideA
    split
    · exact List.pairwise_cons.2 ⟨fun y hy => h1 y ((mem_sideA w r y).1 hy).1, ih h2⟩
    · exact ih h2
theorem sideB_pw (w : Int) : ∀ (l : List Int), l.Pairwise (· < ·) → (sideB w l).Pairwise (· < ·) := by
  intro l
  induction l with
  | nil => intro _; exact List.Pairwise.nil
  | cons k r ih =>
    intro h
    obtain ⟨h1, h2⟩ := List.pairwise_cons.1 h
    unfold sideB
    split
    · exact ih h2
    · refine List.pairwise_cons.2 ⟨fun y hy => ?_, ih h2⟩
      have := h1 _ ((mem_sideB w r y).1 hy).1
      omega
theorem sideA_srt {n w : Nat} {l : List Int} (h : Srt n l) : Srt w (sideA w l) := ⟨sideA_pw _ _ h.1, fun x hx => by
  obtain ⟨h1, h2⟩ := (mem_sideA _ _ _).1 hx
  exact ⟨(h.2 x h1).1, h2⟩⟩
theorem sideB_srt {w m : Nat} {l : List Int} (h : Srt (w + m) l) : Srt m (sideB w l) := ⟨sideB_pw _ _ h.1, fun x hx => by
  obtain ⟨h1, h2⟩ := (mem_sideB _ _ _).1 hx
  have := (h.2 _ h1).2
  exact ⟨h2, by omega⟩⟩
theorem mem_upToI : ∀ (n i : Nat) (x : Int), x ∈ upToI i n ↔ (i : Int) ≤ x ∧ x < (i : Int) + n := by
  intro n
  induction n with
  | zero => intro i x; simp [upToI] <;> omega
  | succ n ih =>
    intro i x
    simp only [upToI, List.mem_cons, ih]
    omega
theorem upToI_pw : ∀ (n i : Nat), (upToI i n).Pairwise (· < ·) := by
  intro n
  induction n with
  | zero => intro i; exact List.Pairwise.nil
  | succ n ih =>
    intro i
    exact List.pairwise_cons.2 ⟨fun y hy => by have := (mem_upToI _ _ _).1 hy; omega, ih (i + 1)⟩
theorem upToI_srt (n : Nat) : Srt n (upToI 0 n) := ⟨upToI_pw n 0, fun x hx => by have := (mem_upToI _ _ _).1 hx; omega⟩
theorem mem_usedL (l : List (List Node)) : ∀ (s : List Int) (out : List Int) (x : Int), x ∈ usedL l out s ↔ x ∈ out ∨ ∃ k ∈ s, x ∈ usedE ((l[k.toNat]?).getD []) := by
  intro s
  induction s with
  | nil => intro out x; simp [usedL]
  | cons k r ih =>
    intro out x
    simp only [usedL, ih, mem_unionI, List.mem_cons]
    constructor
    · rintro ((h | h) | ⟨q, hq, h⟩)
      · exact .inl h
      · exact .inr ⟨k, .inl rfl, h⟩
      · exact .inr ⟨q, .inr hq, h⟩
    · rintro (h | ⟨q, rfl | hq, h⟩)
      · exact .inl (.inl h)
      · exact .inl (.inr h)
      · exact .inr ⟨q, hq, h⟩
theorem usedL_pw (l : List (List Node)) : ∀ (s : List Int) (out : List Int), out.Pairwise (· < ·) → (usedL l out s).Pairwise (· < ·) := by
  intro s
  induction s with
  | nil => intro out h; exact h
  | cons k r ih => intro out h; exact ih _ (setOf_pw _)
theorem usedL_srt {n : Nat} {l : List (List Node)} {s : List Int} (h : ∀ k ∈ s, ∀ x ∈ usedE ((l[k.toNat]?).getD []), 0 ≤ x ∧ x < n) : Srt n (usedL l [] s) := ⟨usedL_pw l s [] List.Pairwise.nil, fun x hx => by
  rcases (mem_usedL l s [] x).1 hx with h1 | ⟨k, hk, h1⟩
  · cases h1
  · exact h k hk x h1⟩
theorem usedE_in {n : Nat} {e : List Node} (h : ∀ x ∈ colsIn e, 0 ≤ x ∧ x < (n : Int)) : ∀ x ∈ usedE e, 0 ≤ x ∧ x < (n : Int) := fun x hx => h x ((mem_setOf _ _).1 hx)
end Go.Proofs.Ab.Try
