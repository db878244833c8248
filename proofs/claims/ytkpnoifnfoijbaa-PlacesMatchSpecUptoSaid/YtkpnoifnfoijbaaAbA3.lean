/- A part of the proof of the law: it holds for all states of the abstract kind told in the first of these texts; no condition besides those its statements name. -/
import Derived.Test.YtkpnoifnfoijbaaAbA2
namespace Go.Proofs.Ab
open Go Go.RowKit
set_option linter.unusedVariables false
set_option linter.unusedSimpArgs false

theorem cell_heap {w w' : World} {b : Nat} (h : w'.heap[b]? = w.heap[b]?) (o : Nat) : w'.cell? ⟨b, o, none⟩ = w.cell? ⟨b, o, none⟩ := by
  simp [World.cell?, h]
theorem cell_lt {w : World} {b o : Nat} {x : Value} (h : w.cell? ⟨b, o, none⟩ = some x) : b < w.heap.size := World.block_lt_of_cell? w ⟨b, o, none⟩ h
theorem cell_of {w : World} {b o : Nat} {c : Array Value} {T : TypeId} {fz : Nat × Nat} (h : w.heap[b]? = some (.cells c T fz)) : w.cell? ⟨b, o, none⟩ = c[o]? := by
  simp [World.cell?, h]
theorem room_lt {w : World} {b n : Nat} (h : Room w b n) : b < w.heap.size := by
  obtain ⟨c, T, h, _⟩ := h
  exact (Array.getElem?_eq_some_iff.1 h).1

section
variable {n base : Nat} {w0 : World} {F0 : Nat → Nat → Prop} {ι : Nat → Option Nat} {full : Nat → Option Ob} {ev : Nat → AV} {a : Act} {w w' : World}

/-- Blocks that were there stand as they were. -/
theorem Step.below (F : Nat → Nat → Prop) (hb : Below w.heap.size w w') : Step ι F base w ι F base w' where
  prot b o x h := ⟨(cell_heap (hb.block b (cell_lt h.1)) o).trans h.1, h.2⟩
  rdb b o x h := ⟨(cell_heap (hb.block b (cell_lt h.1)) o).trans h.1, h.2⟩
  ids _ _ h := h
  room i b n h1 h2 := by
    have := room_lt h2
    obtain ⟨c, T, h, h3⟩ := h2
    exact ⟨c, T, (hb.block b this).trans h, h3⟩
theorem ObOk.mono {ι' : Nat → Option Nat} {F F' : Nat → Nat → Prop} {base' : Nat} {b : Nat} {o : Ob} (s : Step ι F base w ι' F' base' w') (hh : w'.heap[b]? = w.heap[b]?) (h : ObOk ι F base w b o) : ObOk ι' F' base' w' b o := by
  cases o with
  | var cs => obtain ⟨c, T, e, h⟩ := h; exact ⟨c, T, hh.trans e, RepL.mono s _ _ h⟩
  | arr sz es => obtain ⟨c, T, e, h, h3⟩ := h; exact ⟨c, T, hh.trans e, RepEs.mono s.prot (fun _ _ h => h) _ _ _ h, h3⟩
theorem Core.later (h : Core n base w0 F0 ι full ev a w) (hb : Below w.heap.size w w') : Core n base w0 F0 ι full ev a w' where
  below := h.below.trans (hb.mono h.size)
  lowF := h.lowF
  size := Nat.le_trans h.size hb.size
  inj := h.inj
  low i b hi := ⟨(h.low i b hi).1, Nat.lt_of_lt_of_le (h.low i b hi).2 hb.size⟩
  obs i b hi := by
    obtain ⟨o, h1, h2⟩ := h.obs i b hi
    exact ⟨o, h1, h2.mono (Step.below _ hb) (hb.block b (h.low i b hi).2)⟩
  tms t := RepA.mono (Step.below _ hb) _ _ (h.tms t)
  dfs := h.dfs
  nt := h.nt

def ObNew (ι : Nat → Option Nat) (F : Nat → Nat → Prop) (base : Nat) (w : World) (c : Array Value) : Ob → Prop
  | .var cs => RepL ι F base w cs c.toList
  | .arr sz es => RepEs F w (fun o y => c[o]? = some y) sz es 0 ∧ es.length * sz ≤ c.size
def upd (ι : Nat → Option Nat) (d b : Nat) : Nat → Option Nat := fun j => if j = d then some b else ι j
/-- A new block, named d. -/
theorem Step.new (h : Core n base w0 F0 ι full ev a w) {d : Nat} (hd : ι d = none) (ob : Obj) : Step ι (FF F0 ι) base w (upd ι d w.heap.size) (FF F0 (upd ι d w.heap.size)) base (w.alloc ob) where
  prot b o x hp := by
    have hlt := cell_lt hp.1
    refine ⟨(cell_heap (Below.heap_alloc w ob b hlt) o).trans hp.1, ?_⟩
    rintro (hf | ⟨j, hj⟩)
    · exact hp.2 (.inl hf)
    · unfold upd at hj
      split at hj
      · injection hj with e; omega
      · exact hp.2 (.inr ⟨j, hj⟩)
  rdb b o x hp := by
    have hlt := cell_lt hp.1
    refine ⟨(cell_heap (Below.heap_alloc w ob b hlt) o).trans hp.1, ?_⟩
    rcases hp.2 with hn | hn
    · refine .inl ?_
      rintro (hf | ⟨j, hj⟩)
      · exact hn (.inl hf)
      · unfold upd at hj
        split at hj
        · injection hj with e; omega
        · exact hn (.inr ⟨j, hj⟩)
    · exact .inr hn
  ids j b hj := by
    unfold upd
    split
    · rename_i e; subst e; rw [hd] at hj; cases hj
    · exact hj
  room i b n h1 h2 := by
    have := room_lt h2
    obtain ⟨c, T, h, h3⟩ := h2
    exact ⟨c, T, (Below.heap_alloc w ob b this).trans h, h3⟩
theorem heap_alloc_new (w : World) (ob : Obj) : (w.alloc ob).heap[w.heap.size]? = some ob := by
  show (w.heap.push ob)[w.heap.size]? = _
  simp
/-- What the new block holds reads in the new world. -/
theorem Core.new (h : Core n base w0 F0 ι full ev a w) {d : Nat} (hd : ι d = none) (hdn : d < n) {c : Array Value} {T : TypeId} {o : Ob} {full' : Nat → Option Ob} {x : AV} {v : Value}
    (hf : ∀ j b, ι j = some b → full' j = full j) (hfd : full' d = some o)
    (ho : ObNew ι (FF F0 ι) base w c o)
    (hx : RepA (upd ι d w.heap.size) (FF F0 (upd ι d w.heap.size)) base (w.alloc (.cells c T)) x v) :
    Core n base w0 F0 (upd ι d w.heap.size) full' (fun t => if t = d then x else ev t) (a.put (some d) v) (w.alloc (.cells c T)) := by
  have s := Step.new h hd (.cells c T)
  have h1 : Core n base w0 F0 (upd ι d w.heap.size) full' ev a (w.alloc (.cells c T)) := {
    below := h.below.alloc h.size _
    lowF := h.lowF
    size := by have := h.size; simp; omega
    inj := by
      intro i j b hi hj
      unfold upd at hi hj
      split at hi <;> split at hj
      · rename_i e1 e2; rw [e1, e2]
      · injection hi with e; subst e; have := (h.low _ _ hj).2; omega
      · injection hj with e; subst e; have := (h.low _ _ hi).2; omega
      · exact h.inj i j b hi hj
    low := by
      intro i b hi
      unfold upd at hi
      split at hi
      · injection hi with e; subst e; have := h.size; simp; omega
      · have := h.low i b hi; simp; omega
    obs := by
      intro i b hi
      unfold upd at hi
      split at hi
      · rename_i e
        injection hi with e'
        subst e; subst e'
        refine ⟨o, hfd, ?_⟩
        cases o with
        | var cs => exact ⟨c, T, heap_alloc_new w _, RepL.mono s _ _ ho⟩
        | arr sz es => exact ⟨c, T, heap_alloc_new w _, RepEs.mono s.prot (fun _ _ h => h) _ _ _ ho.1, ho.2⟩
      · obtain ⟨o', h1, h2⟩ := h.obs i b hi
        exact ⟨o', (hf i b hi).trans h1, h2.mono s (Below.heap_alloc w _ b (h.low i b hi).2)⟩
    tms := fun t => RepA.mono s _ _ (h.tms t)
    dfs := h.dfs
    nt := h.nt }
  exact h1.put hdn hx
end

/-! ### Reading lists -/
section reads
variable {F : Nat → Nat → Prop} {w : World} {pr : Nat → Value → Prop}
theorem RepCs.at {l : List D} {o : Nat} (h : RepCs F w pr l o) : ∀ (j : Nat) (x : D), l[j]? = some x → ∃ y, pr (o + j) y ∧ RepD F w x y := by
  induction l generalizing o with
  | nil => intro j x hx; simp at hx
  | cons z r ih =>
    intro j x hx
    obtain ⟨h1, h2⟩ := h
    cases j with
    | zero => simp at hx; subst hx; simpa using h1.2
    | succ j =>
      obtain ⟨y, h3, h4⟩ := ih h2 j x (by simpa using hx)
      exact ⟨y, by rw [show o + (j + 1) = o + 1 + j by omega]; exact h3, h4⟩
theorem RepEs.at {sz : Nat} {es : List (List D)} {o : Nat} (h : RepEs F w pr sz es o) : ∀ (i : Nat) (e : List D), es[i]? = some e → e.length = sz ∧ RepCs F w pr e (o + i * sz) := by
  induction es generalizing o with
  | nil => intro i e he; simp at he
  | cons z r ih =>
    intro i e he
    obtain ⟨h1, h2, h3⟩ := h
    cases i with
    | zero => simp at he; subst he; exact ⟨h1, by simpa using h2⟩
    | succ i =>
      have := ih h3 i e (by simpa using he)
      refine ⟨this.1, ?_⟩
      have h4 := this.2
      rw [show o + sz + i * sz = o + (i + 1) * sz by rw [Nat.add_mul]; omega] at h4
      exact h4
theorem RepCs.drop {l : List D} {o : Nat} (h : RepCs F w pr l o) (k : Nat) : RepCs F w pr (l.drop k) (o + k) := by
  induction l generalizing o k with
  | nil => simp [RepCs]
  | cons z r ih =>
    cases k with
    | zero => simpa using h
    | succ k =>
      have := ih h.2 k
      rw [show o + 1 + k = o + (k + 1) by omega] at this
      simpa using this
theorem RepCs.take {l : List D} {o : Nat} (h : RepCs F w pr l o) (k : Nat) : RepCs F w pr (l.take k) o := by
  induction l generalizing o k with
  | nil => simp [RepCs]
  | cons z r ih =>
    cases k with
    | zero => simp [RepCs]
    | succ k => exact ⟨h.1, ih h.2 k⟩
theorem RepEs.drop {sz : Nat} {es : List (List D)} {o : Nat} (h : RepEs F w pr sz es o) (k : Nat) : RepEs F w pr sz (es.drop k) (o + k * sz) := by
  induction es generalizing o k with
  | nil => simp [RepEs]
  | cons z r ih =>
    cases k with
    | zero => simpa using h
    | succ k =>
      have := ih h.2.2 k
      rw [show o + sz + k * sz = o + (k + 1) * sz by rw [Nat.add_mul]; omega] at this
      simpa using this
theorem RepEs.take {sz : Nat} {es : List (List D)} {o : Nat} (h : RepEs F w pr sz es o) (k : Nat) : RepEs F w pr sz (es.take k) o := by
  induction es generalizing o k with
  | nil => simp [RepEs]
  | cons z r ih =>
    cases k with
    | zero => simp [RepEs]
    | succ k => exact ⟨h.1, h.2.1, ih h.2.2 k⟩
theorem RepEs.append {sz : Nat} {es fs : List (List D)} {o : Nat} (h : RepEs F w pr sz es o) (h' : RepEs F w pr sz fs (o + es.length * sz)) : RepEs F w pr sz (es ++ fs) o := by
  induction es generalizing o with
  | nil => simpa using h'
  | cons z r ih =>
    refine ⟨h.1, h.2.1, ih h.2.2 ?_⟩
    rw [show o + sz + r.length * sz = o + (z :: r).length * sz by rw [List.length_cons, Nat.add_mul]; omega]
    exact h'
/-- The cells' values, as a list. -/
theorem RepCs.vals {l : List D} {o : Nat} (h : RepCs F w pr l o) (ι : Nat → Option Nat) (base : Nat) : ∃ vs : List Value, vs.length = l.length ∧ (∀ j v, vs[j]? = some v → pr (o + j) v) ∧ RepL ι F base w (l.map .d) vs := by
  induction l generalizing o with
  | nil => exact ⟨[], rfl, by simp, rfl⟩
  | cons z r ih =>
    obtain ⟨⟨h0, y, h1, h2⟩, h3⟩ := h
    obtain ⟨vs, e1, e2, e3⟩ := ih h3
    refine ⟨y :: vs, by simp [e1], ?_, y, vs, rfl, h2, e3⟩
    intro j v hj
    cases j with
    | zero => simp at hj; subst hj; simpa using h1
    | succ j => rw [show o + (j + 1) = o + 1 + j by omega]; exact e2 j v (by simpa using hj)
end reads
theorem RepL.length {ι : Nat → Option Nat} {F : Nat → Nat → Prop} {base : Nat} {w : World} {l : List AV} {vs : List Value} (h : RepL ι F base w l vs) : vs.length = l.length := by
  induction l generalizing vs with
  | nil => rw [h]; simp
  | cons x r ih => obtain ⟨y, ys, rfl, _, h2⟩ := h; simp [ih h2]
theorem RepL.at {ι : Nat → Option Nat} {F : Nat → Nat → Prop} {base : Nat} {w : World} {l : List AV} {vs : List Value} (h : RepL ι F base w l vs) : ∀ (j : Nat) (x : AV), l[j]? = some x → ∃ y, vs[j]? = some y ∧ RepA ι F base w x y := by
  induction l generalizing vs with
  | nil => intro j x hx; simp at hx
  | cons z r ih =>
    obtain ⟨y, ys, rfl, h1, h2⟩ := h
    intro j x hx
    cases j with
    | zero => simp at hx; subst hx; exact ⟨y, rfl, h1⟩
    | succ j => simpa using ih h2 j x (by simpa using hx)
theorem RepL.drop {ι : Nat → Option Nat} {F : Nat → Nat → Prop} {base : Nat} {w : World} {l : List AV} {vs : List Value} (h : RepL ι F base w l vs) (k : Nat) : RepL ι F base w (l.drop k) (vs.drop k) := by
  induction l generalizing vs k with
  | nil => rw [h]; simp [RepL]
  | cons z r ih =>
    obtain ⟨y, ys, rfl, h1, h2⟩ := h
    cases k with
    | zero => exact ⟨y, ys, rfl, h1, h2⟩
    | succ k => simpa using ih h2 k
theorem RepL.take {ι : Nat → Option Nat} {F : Nat → Nat → Prop} {base : Nat} {w : World} {l : List AV} {vs : List Value} (h : RepL ι F base w l vs) (k : Nat) : RepL ι F base w (l.take k) (vs.take k) := by
  induction l generalizing vs k with
  | nil => rw [h]; simp [RepL]
  | cons z r ih =>
    obtain ⟨y, ys, rfl, h1, h2⟩ := h
    cases k with
    | zero => simp [RepL]
    | succ k => exact ⟨y, ys.take k, by simp, h1, ih h2 k⟩
theorem RepL.append {ι : Nat → Option Nat} {F : Nat → Nat → Prop} {base : Nat} {w : World} {l l' : List AV} {vs vs' : List Value} (h : RepL ι F base w l vs) (h' : RepL ι F base w l' vs') : RepL ι F base w (l ++ l') (vs ++ vs') := by
  induction l generalizing vs with
  | nil => rw [h]; simpa using h'
  | cons z r ih => obtain ⟨y, ys, rfl, h1, h2⟩ := h; exact ⟨y, ys ++ vs', rfl, h1, ih h2⟩
end Go.Proofs.Ab
