/- A part of the proof of the law: it holds for all states of the abstract kind told in the first of these texts; no condition besides those its statements name. -/
import Derived.Test.YtkpnoifnfoijbaaAbA25
import Derived.Deep.Slices
import Derived.ChangeArms
namespace Go.Proofs.Ab
open Go Go.RowKit Go.Deep
set_option linter.unusedVariables false
set_option linter.unusedSimpArgs false
def F00 : Nat → Nat → Prop := fun _ _ => False
def RepVs (w : World) : List D → List Value → Prop
  | [], vs => vs = []
  | x :: r, vs => ∃ y ys, vs = y :: ys ∧ x.one = true ∧ RepD F00 w x y ∧ RepVs w r ys
theorem RepVs.length {w : World} : ∀ {ds : List D} {vs : List Value}, RepVs w ds vs → vs.length = ds.length := by
  intro ds
  induction ds with
  | nil => intro vs h; obtain rfl := h; rfl
  | cons x r ih => intro vs h; obtain ⟨y, ys, rfl, _, _, h⟩ := h; simp [ih h]
theorem RepVs.append {w : World} : ∀ {a b : List D} {u v : List Value}, RepVs w a u → RepVs w b v → RepVs w (a ++ b) (u ++ v) := by
  intro a
  induction a with
  | nil => intro b u v h k; obtain rfl := h; exact k
  | cons x r ih => intro b u v h k; obtain ⟨y, ys, rfl, h1, h2, h3⟩ := h; exact ⟨y, ys ++ v, rfl, h1, h2, ih h3 k⟩
theorem RepVs.toL {w : World} {ι : Nat → Option Nat} {base : Nat} : ∀ {ds : List D} {vs : List Value}, RepVs w ds vs → RepL ι F00 base w (ds.map .d) vs := by
  intro ds
  induction ds with
  | nil => intro vs h; exact h
  | cons x r ih => intro vs h; obtain ⟨y, ys, rfl, h1, h2, h3⟩ := h; exact ⟨y, ys, rfl, h2, ih h3⟩
theorem RepVs.cells {w : World} {b : Nat} : ∀ {ds : List D} {cs : List Value} {o : Nat}, RepVs w ds cs → (∀ i, i < cs.length → w.cell? ⟨b, o + i, none⟩ = cs[i]?) → RepCs F00 w (Prot F00 w b) ds o := by
  intro ds
  induction ds with
  | nil => intro cs o _ _; trivial
  | cons x r ih =>
    intro cs o h hc
    obtain ⟨y, ys, rfl, h1, h2, h3⟩ := h
    refine ⟨⟨h1, y, ⟨by simpa using hc 0 (by simp), id⟩, h2⟩, ih h3 fun i hi => ?_⟩
    have := hc (i + 1) (by simp; omega)
    simpa [Nat.add_assoc, Nat.add_comm 1 i] using this
theorem RepEs.of {w : World} {pr : Nat → Value → Prop} {sz : Nat} : ∀ (es : List (List D)) (o : Nat), (∀ i e, es[i]? = some e → e.length = sz ∧ RepCs F00 w pr e (o + i * sz)) → RepEs F00 w pr sz es o := by
  intro es
  induction es with
  | nil => intro o _; trivial
  | cons e r ih =>
    intro o h
    have h0 := h 0 e rfl
    refine ⟨h0.1, by simpa using h0.2, ih _ fun i e' he => ?_⟩
    have := h (i + 1) e' (by simpa using he)
    rw [Nat.add_mul, Nat.one_mul] at this
    exact ⟨this.1, by rw [Nat.add_assoc, Nat.add_comm sz]; exact this.2⟩
theorem list_of {β : Type} {p : Nat → β → Prop} : ∀ (n : Nat), (∀ i, i < n → ∃ b, p i b) → ∃ l : List β, l.length = n ∧ ∀ i b, l[i]? = some b → p i b := by
  intro n
  induction n generalizing p with
  | zero => intro _; exact ⟨[], rfl, by simp⟩
  | succ n ih =>
    intro h
    obtain ⟨b, hb⟩ := h 0 (by omega)
    obtain ⟨l, h1, h2⟩ := ih (p := fun i b => p (i + 1) b) (fun i hi => h (i + 1) (by omega))
    refine ⟨b :: l, by simp [h1], fun i c hc => ?_⟩
    cases i with
    | zero => simp at hc; subst hc; exact hb
    | succ i => exact h2 i c (by simpa using hc)
theorem sum_le {β : Type} {sz : β → Nat} : ∀ (l : List β) (f : Nat → Nat), (∀ i b, l[i]? = some b → sz b ≤ f i) → (l.map sz).sum ≤ ((List.range l.length).map f).sum := by
  intro l
  induction l with
  | nil => intro f _; simp
  | cons b r ih =>
    intro f h
    have h0 := h 0 b rfl
    have := ih (fun i => f (i + 1)) (fun i c hc => h (i + 1) c (by simpa using hc))
    rw [List.length_cons, List.range_succ_eq_map]
    simp only [List.map_cons, List.sum_cons, List.map_map]
    have e : (List.map (f ∘ Nat.succ) (List.range r.length)) = List.map (fun i => f (i + 1)) (List.range r.length) := rfl
    rw [e]
    omega
section
variable {H : Type} (enc : TypeId × Value → H) (P : Program) (w : World) (M : DataW H → Nat)
structure IsBulk : Prop where
  lit : ∀ l, 1 ≤ M (.lit l)
  str : ∀ bs, bs.length + 1 ≤ M (.lit (.string bs))
  nil : 1 ≤ M .nil
  slice : ∀ el sp, (el.map M).sum + 1 ≤ M (.slice el sp)
  agg : ∀ ps, (ps.map M).sum + 1 ≤ M (.agg ps)
def Opens (t : TypeId) {β : Type} (ok : β → Prop) (sz : β → Nat) (g : β → List D) : Prop :=
  ∀ fuel cs x, DataW.trod enc P w 0 (fun _ => true) true fuel t cs = some x → ∃ b, ok b ∧ RepVs w (g b) cs ∧ sz b ≤ M x.1
def OpensF (N : Nat) (fs : List Field) (off : Nat) {β : Type} (ok : β → Prop) (sz : β → Nat) (g : β → List D) : Prop :=
  ∀ (fuel : Nat) (cs : List Value) (xs : List (DataW H × List MemPlace)), cs.length = N → xs.length = fs.length → (∀ (i : Nat) (f : Field), fs[i]? = some f → DataW.trod enc P w 0 (fun _ => true) true fuel f.type ((cs.drop f.offset).take (P.cellsOf f.type)) = xs[i]?) →
    ∃ b, ok b ∧ RepVs w (g b) (cs.drop off) ∧ sz b ≤ (xs.map fun x => M x.1).sum
variable {enc P w M} {t e : TypeId}
theorem opens_map {β γ : Type} {ok : β → Prop} {sz : β → Nat} {g : β → List D} {ok' : γ → Prop} {sz' : γ → Nat} {g' : γ → List D} (h : Opens enc P w M t ok sz g) (f : β → γ) (h1 : ∀ b, ok b → ok' (f b)) (h2 : ∀ b, sz' (f b) ≤ sz b) (h3 : ∀ b, g' (f b) = g b) :
    Opens enc P w M t ok' sz' g' := fun fuel cs x hx => by
  obtain ⟨b, k1, k2, k3⟩ := h fuel cs x hx
  exact ⟨f b, h1 b k1, by rw [h3]; exact k2, Nat.le_trans (h2 b) k3⟩
theorem opens_int (hM : IsBulk M) {k : IntKind} (ht : P.underlying t = some (.int k)) : Opens enc P w M t (fun n : Int => (Lit.int k n).wf = true) (fun _ => 1) (fun n => [.v (.int k n)]) := fun fuel cs x hx => by
  obtain ⟨n, rfl, rfl, hw⟩ := DataW.trod_int ht hx
  exact ⟨n, hw, ⟨_, _, rfl, rfl, rfl, rfl⟩, hM.lit _⟩
theorem opens_bool (hM : IsBulk M) (ht : P.underlying t = some .bool) : Opens enc P w M t (fun _ : Bool => True) (fun _ => 1) (fun b => [.v (.bool b)]) := fun fuel cs x hx => by
  obtain ⟨b, rfl, rfl⟩ := DataW.trod_bool ht hx
  exact ⟨b, trivial, ⟨_, _, rfl, rfl, rfl, rfl⟩, hM.lit _⟩
theorem opens_str (hM : IsBulk M) (ht : P.underlying t = some .string) : Opens enc P w M t (fun _ : ByteArray => True) (fun s => s.size + 1) (fun s => [.v (.string s)]) := fun fuel cs x hx => by
  obtain ⟨s, rfl, rfl, _⟩ := DataW.trod_string ht hx
  refine ⟨s, trivial, ⟨_, _, rfl, rfl, rfl, rfl⟩, ?_⟩
  have := hM.str s.data.toList
  rw [Array.length_toList] at this
  exact this
theorem add_none {a : Addr} (h : a.spot = none) (k : Nat) : a.add k = ⟨a.block, a.off + k, none⟩ := by
  unfold Addr.add
  obtain ⟨b, o, s⟩ := a
  obtain rfl : s = none := h
  split
  · rename_i h; subst h; rfl
  · rfl
theorem opens_slice (hM : IsBulk M) (ht : P.underlying t = some (.slice e)) {n : Nat} (hn : P.cellsOf e = n) (hn0 : 0 < n) {β : Type} {ok : β → Prop} {sz : β → Nat} {g : β → List D} (h : Opens enc P w M e ok sz g) (hg : ∀ b, (g b).length = n) :
    Opens enc P w M t (fun l : List β => ∀ b ∈ l, ok b) (fun l => (l.map sz).sum + 1) (fun l => [.sl n (l.map g)]) := fun fuel cs x hx => by
  rcases open_slice ht hx with ⟨rfl, rfl⟩ | ⟨a, len, cap, m, n', Dx, Pl, rfl, hb, hl, hm, hmm, rfl, hx2⟩
  · exact ⟨[], by simp, ⟨_, _, rfl, rfl, ⟨none, 0, 0, 0, rfl, Nat.le_refl _, fun h => absurd rfl h, trivial⟩, rfl⟩, by simpa using hM.nil⟩
  · have hlm : len ≤ m := by rw [hmm]; simpa using hl
    obtain ⟨l, hl1, hl2⟩ := list_of (p := fun i b => ok b ∧ (∃ cs', w.cells? 0 (a.add (i * n)) n = some cs' ∧ RepVs w (g b) cs') ∧ sz b ≤ M (Dx i)) len (fun i hi => by
      obtain ⟨cs', h1, h2⟩ := hx2 i (by omega)
      obtain ⟨b, k1, k2, k3⟩ := h _ _ _ h2
      rw [hn] at h1
      exact ⟨b, k1, ⟨cs', h1, k2⟩, k3⟩)
    refine ⟨l, fun b hb => ?_, ⟨_, _, rfl, rfl, ?_, rfl⟩, ?_⟩
    · obtain ⟨i, hi⟩ := List.getElem?_of_mem hb
      exact (hl2 i b hi).1
    · have hspot : l ≠ [] → a.spot = none := by
        intro hne
        obtain ⟨b, r, rfl⟩ : ∃ b r, l = b :: r := by cases l with | nil => exact absurd rfl hne | cons b r => exact ⟨b, r, rfl⟩
        obtain ⟨_, ⟨cs', h1, h2⟩, _⟩ := hl2 0 b rfl
        obtain ⟨_, q2, q3⟩ := World.cells?_some h1
        have := q3 0 hn0
        rw [Nat.zero_mul] at this
        have e0 : a.add 0 = a := rfl
        rw [e0, e0, List.getElem?_eq_getElem (by omega)] at this
        unfold World.cell? at this
        split at this
        · split at this
          · cases this
          · rename_i hs; cases hq : a.spot with
            | none => rfl
            | some _ => rw [hq] at hs; simp at hs
        · cases this
      refine ⟨some a, cap, a.block, a.off, by simp [hl1], by simp [hl1, hl], fun hne => ?_, RepEs.of _ _ fun i e' he => ?_⟩
      · have := hspot (by rintro rfl; exact hne rfl)
        obtain ⟨b, o, s⟩ := a
        obtain rfl : s = none := this
        rfl
      · simp only [List.getElem?_map, Option.map_eq_some_iff] at he
        obtain ⟨b, hb, rfl⟩ := he
        obtain ⟨_, ⟨cs', h1, h2⟩, _⟩ := hl2 i b hb
        have hs := hspot (by rintro rfl; simp at hb)
        obtain ⟨_, q2, q3⟩ := World.cells?_some h1
        refine ⟨hg b, h2.cells fun j hj => ?_⟩
        rw [q2] at hj
        have := q3 j hj
        rw [add_add, add_none hs] at this
        rw [← this, Nat.add_assoc]
    · refine Nat.le_trans ?_ (hM.slice _ _)
      have := sum_le (sz := sz) l (fun i => M (Dx i)) (fun i b hb => (hl2 i b hb).2.2)
      rw [hl1] at this
      have e2 : List.map M (List.map Dx (List.range len)) = List.map (fun i => M (Dx i)) (List.range len) := by simp
      rw [e2]
      exact Nat.succ_le_succ this
theorem opensF_nil {N : Nat} : OpensF enc P w M N [] N (fun _ : Unit => True) (fun _ => 0) (fun _ => []) := fun fuel cs xs hc _ _ => ⟨(), trivial, by rw [← hc, List.drop_length]; rfl, Nat.zero_le _⟩
theorem opensF_cons {N off : Nat} {f : Field} {fs : List Field} {β γ : Type} {ok : β → Prop} {sz : β → Nat} {g : β → List D} {ok' : γ → Prop} {sz' : γ → Nat} {g' : γ → List D}
    (h1 : Opens enc P w M f.type ok sz g) (ho : f.offset = off) (h2 : OpensF enc P w M N fs (off + P.cellsOf f.type) ok' sz' g') :
    OpensF enc P w M N (f :: fs) off (fun b : β × γ => ok b.1 ∧ ok' b.2) (fun b => sz b.1 + sz' b.2) (fun b => g b.1 ++ g' b.2) := fun fuel cs xs hc hx hf => by
  cases xs with
  | nil => simp at hx
  | cons x r =>
    have hx0 := hf 0 f rfl
    obtain ⟨b, k1, k2, k3⟩ := h1 fuel _ x hx0
    obtain ⟨c, j1, j2, j3⟩ := h2 fuel cs r hc (by simpa using hx) (fun i f' hi => by simpa using hf (i + 1) f' (by simpa using hi))
    refine ⟨(b, c), ⟨k1, j1⟩, ?_, by simp only [List.map_cons, List.sum_cons]; omega⟩
    have := k2.append j2
    rw [ho, ← List.drop_drop, List.take_append_drop] at this
    exact this
theorem opens_struct (hM : IsBulk M) {fa : Array Field} (ht : P.underlying t = some (.struct fa)) {N : Nat} (hN : P.cellsOf t = N) {β : Type} {ok : β → Prop} {sz : β → Nat} {g : β → List D} (h : OpensF enc P w M N fa.toList 0 ok sz g) :
    Opens enc P w M t ok (fun b => sz b + 1) g := fun fuel cs x hx => by
  obtain ⟨xs, n, rfl, rfl, hc, hl, hf⟩ := DataW.trod_struct ht hx
  obtain ⟨b, k1, k2, k3⟩ := h n cs xs (by rw [hc, hN]) (by simpa using hl) (fun i f hi => hf i f (by simpa using hi))
  refine ⟨b, k1, k2, Nat.le_trans ?_ (hM.agg _)⟩
  have e2 : List.map M (List.map (fun x => x.1) xs) = List.map (fun x => M x.1) xs := by simp
  rw [e2]
  exact Nat.succ_le_succ k3
end
end Go.Proofs.Ab
namespace Go.Proofs.Ab
open Go
theorem opensF_nil' {H : Type} {enc : TypeId × Value → H} {P : Program} {w : World} {M : DataW H → Nat} {N off : Nat} (h : off = N) : OpensF enc P w M N [] off (fun _ : Unit => True) (fun _ => 0) (fun _ => []) := by
  subst h; exact opensF_nil
end Go.Proofs.Ab
