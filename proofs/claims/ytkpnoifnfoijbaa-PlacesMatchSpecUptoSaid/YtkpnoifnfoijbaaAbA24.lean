/- A part of the proof of the law: it holds for all states of the abstract kind told in the first of these texts; no condition besides those its statements name. -/
import Derived.Test.YtkpnoifnfoijbaaAbA23
namespace Go.Proofs.Ab
open Go Go.RowKit
set_option linter.unusedVariables false
set_option linter.unusedSimpArgs false
/-! ### A region in whatever order, all orders told -/
def left (L : List Bool) : Nat := L.count false
def AnyW (P : Program) (ops : Array Oper) (L : List Bool) (s : St) (Q : Exit → St → Prop) : Prop :=
  ∀ base w0 F0 a w fuel, RS base w0 F0 s a w → left L ≤ fuel → wpAny P .any ops (fun e a' w' => ∃ s', Q e s' ∧ RS base w0 F0 s' a' w') fuel L.toArray a w
section
variable {P : Program} {tt : TypeId → Option TI} {et : TypeId → Bool} {ops : Array Oper} {L : List Bool} {s : St} {Q : Exit → St → Prop}
theorem AnyW.weak {s' : St} (h : Weak s s') (k : AnyW P ops L s' Q) : AnyW P ops L s Q := fun base w0 F0 a w fuel hr => k base w0 F0 a w fuel (h _ _ _ _ _ hr)
theorem AnyW.done (hr : Region.ready .any ops L.toArray = []) (h : Q .normal s) : AnyW P ops L s Q := by
  intro base w0 F0 a w fuel hrs _
  cases fuel with
  | zero => exact ⟨hr, s, h, hrs⟩
  | succ f => exact ⟨fun _ => ⟨s, h, hrs⟩, fun i hi => by rw [hr] at hi; cases hi⟩
theorem left_set : ∀ (L : List Bool) (i : Nat), L[i]? = some false → left L = left (L.set i true) + 1 := by
  intro L
  induction L with
  | nil => intro i h; simp at h
  | cons b r ih =>
    intro i h
    cases i with
    | zero => simp at h; subst h; simp [left]
    | succ i =>
      have := ih i (by simpa using h)
      unfold left at this ⊢
      simp only [List.set_cons_succ, List.count_cons, this]
      omega
theorem AnyW.step (htt : TOK P tt) (hett : ETOK P tt et) (rs : List Nat) (hr : Region.ready .any ops L.toArray = rs) (hne : rs.isEmpty = false) (hls : L.length = ops.size)
    (h : ∀ i ∈ rs, ∃ o, ops[i]? = some o ∧ stepG P tt et ops o s (fun s' => AnyW P ops (L.set i true) s' Q)) : AnyW P ops L s Q := by
  intro base w0 F0 a w fuel hrs hf
  have key : ∀ i ∈ rs, L[i]? = some false := by
    intro i hi
    rw [← hr] at hi
    unfold Region.ready at hi
    simp only [List.mem_filter, List.mem_range, Bool.and_eq_true, Bool.not_eq_true'] at hi
    obtain ⟨h1, h2, _⟩ := hi
    have hlt : i < L.length := by omega
    rw [List.getElem?_eq_getElem hlt]
    rw [Array.getD_eq_getD_getElem?] at h2
    simp [hlt] at h2
    rw [h2]
  cases fuel with
  | zero =>
    cases rs with
    | nil => cases hne
    | cons i r =>
      have := left_set L i (key i (List.mem_cons_self ..))
      omega
  | succ f =>
    refine ⟨fun hn => ?_, fun i hi => ?_⟩
    · rw [hr] at hn; subst hn; cases hne
    · rw [hr] at hi
      obtain ⟨o, ho, hst⟩ := h i hi
      have hl := left_set L i (key i hi)
      refine stepG_sound htt hett hrs ho hst fun s' a' w' hK hr' => ?_
      have := hK base w0 F0 a' w' f hr' (by omega)
      rwa [← List.setIfInBounds_toArray] at this
theorem AW.any (hm : P.follows .mixedOrders = true) {id : Nat} (L : List Bool) (hL : List.replicate ops.size false = L) (h : AnyW P ops L s Q) : AW P (.region id ops true) s Q := by
  subst hL
  intro base w0 F0 a w hr
  refine wp_region_any hm ?_
  have hr2 : RS base w0 F0 s a { w with drawn := w.drawn + 1 } := by
    obtain ⟨ι, hc, hf⟩ := hr
    exact ⟨ι, hc.drew, hf⟩
  have := h base w0 F0 a _ ops.size hr2 (by unfold left; rw [List.count_replicate]; simp)
  simpa using this
theorem AnyW.all1 {p : Nat → Prop} {i : Nat} {r : List Nat} (h1 : p i) (h2 : ∀ j ∈ r, p j) : ∀ j ∈ i :: r, p j := List.forall_mem_cons.2 ⟨h1, h2⟩
theorem AnyW.all0 {p : Nat → Prop} : ∀ j ∈ ([] : List Nat), p j := fun _ h => by cases h
/-- One of the operations that may come next. -/
theorem AnyW.one {i : Nat} {o : Oper} {L' : List Bool} (ho : ops[i]? = some o) (hL : L.set i true = L') (h : ∀ K' : St → Prop, (∀ s', AnyW P ops L' s' Q → K' s') → stepG P tt et ops o s K') : ∃ o, ops[i]? = some o ∧ stepG P tt et ops o s (fun s' => AnyW P ops (L.set i true) s' Q) :=
  ⟨o, ho, by rw [hL]; exact h _ fun _ h => h⟩
end
end Go.Proofs.Ab
