/- A part of the proof of the law: it holds for all states of the abstract kind told in the first of these texts; no condition besides those its statements name. -/
import Derived.Test.YtkpnoifnfoijbaaAbA13
namespace Go.Proofs.Ab
open Go Go.RowKit
set_option linter.unusedVariables false
set_option linter.unusedSimpArgs false

/-! ### append -/
section
variable {P : Program} {w : World}
theorem run_firstCells_gen {size m : Nat} {A : Option Addr} {len cap : Nat} {cs : List Value} (hl : cs.length = m * size)
    (h : m ≠ 0 → ∃ b o, A = some ⟨b, o, none⟩ ∧ ∀ j v, cs[j]? = some v → w.cell? ⟨b, o + j, none⟩ = some v) :
    (Builtin.firstCells size m (.slice A len cap)).run P w = .ok cs.toArray w := by
  by_cases hm : m = 0
  · subst hm
    have : cs = [] := List.eq_nil_of_length_eq_zero (by simpa using hl)
    subst this
    cases A with
    | none => simp [Builtin.firstCells]
    | some a => simp [Builtin.firstCells, loadCells, loadCellsFrom]
  · obtain ⟨b, o, rfl, hc⟩ := h hm
    exact run_firstCells_some w size m _ len cap cs hl (fun j v hj => by rw [add_plain]; exact hc j v hj)
theorem run_append_fit {t tx ty e e' : TypeId} {ei : TI} (hu : P.underlying t = some (.slice e)) (htx : P.underlying tx = some (.slice e')) (he : Tok P e ei)
    {b n cap : Nat} {X : Option Addr} {m c : Nat} {news : List Value} (hn : news.length = m * ei.size)
    (hX : m ≠ 0 → ∃ b o, X = some ⟨b, o, none⟩ ∧ ∀ j v, news[j]? = some v → w.cell? ⟨b, o + j, none⟩ = some v) (hfit : n + m ≤ cap) (h1 : ∀ u ∈ news, u.oneCell' = true)
    {cc : Array Value} {T : TypeId} (hb : w.heap[b]? = some (.cells cc T (0, 0))) (hcc : cap * ei.size ≤ cc.size) :
    (Builtin.append_ #[t, tx] ty #[.slice (some ⟨b, 0, none⟩) n cap, .slice X m c]).run P w = .ok (.slice (some ⟨b, 0, none⟩) (n + m) cap) (w.setCells b (n * ei.size) news) := by
  have hf := run_firstCells_gen (P := P) (len := m) (cap := c) hn hX
  have hsz : n * ei.size + news.length ≤ cc.size := by
    rw [hn, ← Nat.add_mul]
    exact Nat.le_trans (Nat.mul_le_mul_right _ hfit) hcc
  have hst := run_storeCells_cells (P := P) b (n * ei.size) news 0 w (by
    intro j hj
    rw [cell_of hb, Array.getElem?_eq_getElem (by omega)]
    rfl) (by intro j hj; simp [World.frozen?, hb]) h1
  simp only [Nat.add_zero] at hst
  simp [Builtin.append_, run_underlying hu, run_underlying htx, run_sizeOf_tok he, Builtin.lenOf, hfit, hf, add_plain, hst]
theorem run_append_none {t tx ty e e' : TypeId} {ei : TI} (hu : P.underlying t = some (.slice e)) (htx : P.underlying tx = some (.slice e')) (he : Tok P e ei)
    {A : Option Addr} {n cap : Nat} {X : Option Addr} {c : Nat} (hfit : n ≤ cap) :
    (Builtin.append_ #[t, tx] ty #[.slice A n cap, .slice X 0 c]).run P w = .ok (.slice A n cap) w := by
  have hf := run_firstCells_gen (P := P) (w := w) (size := ei.size) (m := 0) (A := X) (len := 0) (cap := c) (cs := []) (by simp) (fun h => absurd rfl h)
  cases A with
  | none => simp [Builtin.append_, run_underlying hu, run_underlying htx, run_sizeOf_tok he, Builtin.lenOf, hfit, hf]
  | some a => simp [Builtin.append_, run_underlying hu, run_underlying htx, run_sizeOf_tok he, Builtin.lenOf, hfit, hf, storeCells]
theorem run_append_more {t tx ty e e' : TypeId} {ei : TI} (hu : P.underlying t = some (.slice e)) (htx : P.underlying tx = some (.slice e')) (he : Tok P e ei)
    {A : Option Addr} {n cap : Nat} {olds : List Value} (ho : olds.length = n * ei.size) (hA : n ≠ 0 → ∃ b o, A = some ⟨b, o, none⟩ ∧ ∀ j v, olds[j]? = some v → w.cell? ⟨b, o + j, none⟩ = some v)
    {X : Option Addr} {m c : Nat} {news : List Value} (hn : news.length = m * ei.size)
    (hX : m ≠ 0 → ∃ b o, X = some ⟨b, o, none⟩ ∧ ∀ j v, news[j]? = some v → w.cell? ⟨b, o + j, none⟩ = some v) (hg : cap < n + m) (h63 : n + m ≤ 9223372036854775807) (hb : (n + m) * ei.bytes ≤ 140737488355328) :
    ∃ ncap rest, n + m ≤ ncap ∧ rest.length = (ncap - (n + m)) * ei.zero.cells.size ∧ (Builtin.append_ #[t, tx] ty #[.slice A n cap, .slice X m c]).run P w =
      .ok (.slice (some ⟨w.heap.size, 0, none⟩) (n + m) ncap) (w.drew.alloc (.cells (olds ++ news ++ rest).toArray e)) := by
  obtain ⟨ti, t1, t2, t3, t4⟩ := he.info
  have hnn : ¬ (n + m ≤ cap) := by omega
  have h63' : ¬ (9223372036854775807 < ((n : Int) + (m : Int))) := by omega
  have hfit := growslice_fits hg hb
  have h48' : ¬ (281474976710656 < Builtin.nextslicecap (n + m) cap * ti.bytes) := by rw [t4]; omega
  have hf := run_firstCells_gen (P := P) (w := w.drew) (len := m) (cap := c) hn (fun h => by obtain ⟨b, o, e1, e2⟩ := hX h; exact ⟨b, o, e1, by simpa using e2⟩)
  have hfo := run_firstCells_gen (P := P) (w := w.drew) (len := n) (cap := cap) ho (fun h => by obtain ⟨b, o, e1, e2⟩ := hA h; exact ⟨b, o, e1, by simpa using e2⟩)
  refine ⟨grownCap w (n + m) cap e, (Builtin.zeroCells ei.zero.cells (grownCap w (n + m) cap e - (n + m))).toList, grownCap_ge w (n + m) cap e, by simp [Builtin.zeroCells], ?_⟩
  rw [← t3] at hf hfo
  simp [Builtin.append_, run_underlying hu, run_underlying htx, sizeOf, typeInfo, zeroValue, t1, t2, Builtin.lenOf, hnn, h63', h48', Question.forced, hf, hfo, newRow, grownCap]
  congr 2
  apply Array.ext'
  simp [List.append_assoc]
end

def elemsOf (full : Nat → Option Ob) (sz : Nat) (x : AV) (K : List (List D) → Prop) : Prop :=
  match x with
  | .ms id sz' off len => sz' = sz ∧ ∃ es, full id = some (.arr sz es) ∧ off + len ≤ es.length ∧ K ((es.drop off).take len)
  | .bs sz' es => sz' = sz ∧ K es
  | .cp sz' es => sz' = sz ∧ K es
  | .d y => match y with
    | .sl sz' es => sz' = sz ∧ K es
    | .v (.slice none 0 0) => K []
    | _ => False
  | _ => False
/-- What is appended to, and which names are given up. -/
def baseOf (full : Nat → Option Ob) (sz dst : Nat) (x : AV) (ys : List (List D)) (K : List (List D) → (Nat → Bool) → Prop) : Prop :=
  match x with
  | .ms id sz' off len => sz' = sz ∧ off = 0 ∧ ∃ es, full id = some (.arr sz es) ∧ len ≤ es.length ∧ K (es.take len) (fun i => i == dst || i == id)
  | .cp sz' es => sz' = sz ∧ (es = [] ∨ ys ≠ []) ∧ K es (fun i => i == dst)
  | .d y => match y with
    | .v (.slice none 0 0) => K [] (fun i => i == dst)
    | _ => False
  | _ => False
def St.new (s : St) (p : Nat → Bool) (dst : Nat) (x : AV) (o : Ob) : St := ⟨s.nt, ins dst x (s.kill p).tm, (dst, o) :: (s.kill p).ob⟩
def appA (tt : TypeId → Option TI) (s : St) (ts tx : TypeId) (dst : Nat) (x y : AV) (K : St → Prop) : Prop :=
  ∃ e ei e', tt ts = some (.sl e) ∧ tt e = some ei ∧ tt tx = some (.sl e') ∧ dst < s.nt ∧ elemsOf (lk s.ob) ei.size y fun ys => baseOf (lk s.ob) ei.size dst x ys fun xs p =>
    xs.length + ys.length ≤ 9223372036854775807 ∧ (xs.length + ys.length) * ei.bytes ≤ 140737488355328 ∧
    K (s.new p dst (.ms dst ei.size 0 (xs.length + ys.length)) (.arr ei.size (xs ++ ys)))

section
variable {P : Program} {n base : Nat} {w0 : World} {F0 : Nat → Nat → Prop} {ι : Nat → Option Nat} {full : Nat → Option Ob} {ev : Nat → AV} {a : Act} {w : World}
/-- Elements as a list of values. -/
theorem RepEs.vals {F : Nat → Nat → Prop} {pr : Nat → Value → Prop} {sz : Nat} {es : List (List D)} {o : Nat} (h : RepEs F w pr sz es o) :
    ∃ vs : List Value, vs.length = es.length * sz ∧ (∀ j v, vs[j]? = some v → pr (o + j) v) ∧ (∀ u ∈ vs, u.oneCell' = true) ∧ RepEs F w (fun o y => vs[o]? = some y) sz es 0 := by
  have hcs : ∀ (l : List D) (o : Nat), RepCs F w pr l o → ∃ vs : List Value, vs.length = l.length ∧ (∀ j v, vs[j]? = some v → pr (o + j) v) ∧ (∀ u ∈ vs, u.oneCell' = true) ∧
      ∀ (pre suf : List Value), RepCs F w (fun o y => (pre ++ (vs ++ suf))[o]? = some y) l pre.length := by
    intro l
    induction l with
    | nil => intro o _; exact ⟨[], rfl, by simp, by simp, fun _ _ => trivial⟩
    | cons x r ih =>
      intro o h
      obtain ⟨⟨h0, y, h1, h2⟩, h3⟩ := h
      obtain ⟨vs, e1, e2, e3, e4⟩ := ih (o + 1) h3
      have hy : y.oneCell' = true := by
        cases x with
        | v z => obtain rfl := h2; exact h0
        | sl sz es => obtain ⟨A, cap, b, o, rfl, _⟩ := h2; rfl
        | rp cs => obtain ⟨b, o, rfl, _⟩ := h2; rfl
      refine ⟨y :: vs, by simp [e1], ?_, ?_, ?_⟩
      · intro j v hj
        cases j with
        | zero => simp at hj; subst hj; simpa using h1
        | succ j => rw [show o + (j + 1) = o + 1 + j by omega]; exact e2 j v (by simpa using hj)
      · intro u hu
        rcases List.mem_cons.1 hu with rfl | hu
        · exact hy
        · exact e3 u hu
      · intro pre suf
        refine ⟨⟨h0, y, by simp, h2⟩, ?_⟩
        have := e4 (pre ++ [y]) suf
        simpa using this
  suffices H : ∀ (es : List (List D)) (o : Nat), RepEs F w pr sz es o → ∃ vs : List Value, vs.length = es.length * sz ∧ (∀ j v, vs[j]? = some v → pr (o + j) v) ∧ (∀ u ∈ vs, u.oneCell' = true) ∧
      ∀ (pre suf : List Value), RepEs F w (fun o y => (pre ++ (vs ++ suf))[o]? = some y) sz es pre.length by
    obtain ⟨vs, e1, e2, e3, e4⟩ := H es o h
    exact ⟨vs, e1, e2, e3, by simpa using e4 [] []⟩
  intro es
  induction es with
  | nil => intro o _; exact ⟨[], by simp, by simp, by simp, fun _ _ => trivial⟩
  | cons e r ih =>
    intro o h
    obtain ⟨h1, h2, h3⟩ := h
    obtain ⟨us, f1, f2, f3, f4⟩ := hcs e o h2
    obtain ⟨vs, e1, e2, e3, e4⟩ := ih (o + sz) h3
    refine ⟨us ++ vs, by simp [f1, e1, h1, Nat.add_mul, Nat.add_comm], ?_, ?_, ?_⟩
    · intro j v hj
      by_cases hlt : j < us.length
      · rw [List.getElem?_append_left hlt] at hj; exact f2 j v hj
      · rw [List.getElem?_append_right (by omega)] at hj
        have := e2 _ v hj
        rw [show o + sz + (j - us.length) = o + j by omega] at this
        exact this
    · intro u hu
      rcases List.mem_append.1 hu with hu | hu
      · exact f3 u hu
      · exact e3 u hu
    · intro pre suf
      refine ⟨h1, ?_, ?_⟩
      · have := f4 pre (vs ++ suf)
        simpa [List.append_assoc] using this
      · have := e4 (pre ++ us) suf
        have hl : (pre ++ us).length = pre.length + sz := by simp [f1, h1]
        rw [hl] at this
        simpa [List.append_assoc] using this
theorem elemsOf_sound (hc : Core n base w0 F0 ι full ev a w) {sz : Nat} {x : AV} {y : Value} {K : List (List D) → Prop} (hx : RepA ι (FF F0 ι) base w x y) (h : elemsOf full sz x K) :
    ∃ (es : List (List D)) (A : Option Addr) (c : Nat) (vs : List Value), K es ∧ y = .slice A es.length c ∧ vs.length = es.length * sz ∧ (∀ u ∈ vs, u.oneCell' = true) ∧ RepEs (FF F0 ι) w (fun o y => vs[o]? = some y) sz es 0 ∧
      (es.length ≠ 0 → ∃ b o, A = some ⟨b, o, none⟩ ∧ ∀ j v, vs[j]? = some v → w.cell? ⟨b, o + j, none⟩ = some v) := by
  have lists : ∀ (pr : Nat → Nat → Value → Prop) (es : List (List D)) (A : Option Addr) (c b o : Nat), (∀ b o v, pr b o v → w.cell? ⟨b, o, none⟩ = some v) → K es → y = .slice A es.length c → (es ≠ [] → A = some ⟨b, o, none⟩) → RepEs (FF F0 ι) w (pr b) sz es o →
      ∃ (es : List (List D)) (A : Option Addr) (c : Nat) (vs : List Value), K es ∧ y = .slice A es.length c ∧ vs.length = es.length * sz ∧ (∀ u ∈ vs, u.oneCell' = true) ∧ RepEs (FF F0 ι) w (fun o y => vs[o]? = some y) sz es 0 ∧
        (es.length ≠ 0 → ∃ b o, A = some ⟨b, o, none⟩ ∧ ∀ j v, vs[j]? = some v → w.cell? ⟨b, o + j, none⟩ = some v) := by
    intro pr es A c b o hpr hK hy hA hr
    obtain ⟨vs, e1, e2, e3, e4⟩ := hr.vals
    exact ⟨es, A, c, vs, hK, hy, e1, e3, e4, fun hne => ⟨b, o, hA (by rintro rfl; exact hne rfl), fun j v hj => hpr _ _ _ (e2 j v hj)⟩⟩
  cases x with
  | ms id sz' off len =>
    obtain ⟨rfl, es, h1, h2, hK⟩ := h
    rcases hx with ⟨b, cap, hb, rfl, h3, h4⟩ | ⟨rfl, A, rfl⟩
    · obtain ⟨o, ho, hob⟩ := hc.obs _ b hb
      rw [h1] at ho
      injection ho with ho
      subst ho
      obtain ⟨c, T, e, hl, hsz⟩ := hob
      have h5 := (hl.drop off).take len
      rw [Nat.zero_add] at h5
      have h6 : ((es.drop off).take len).length = len := by simp; omega
      refine lists (fun b o v => w.cell? ⟨b, o, none⟩ = some v) _ (some ⟨b, off * sz', none⟩) cap b (off * sz') (fun _ _ _ h => h) hK (by rw [h6]) (fun _ => rfl) (RepEs.mono (fun _ _ _ h => h) (fun o u hu => ?_) _ _ _ h5)
      rw [cell_of e]; exact hu
    · exact ⟨_, A, 0, [], hK, by simp, by simp, by simp, by simp [RepEs], by simp⟩
  | bs sz' es =>
    obtain ⟨rfl, hK⟩ := h
    obtain ⟨A, cap, b, o, hy, h1, h2, h3⟩ := hx
    exact lists (Rdb (FF F0 ι) base w) es A cap b o (fun _ _ _ h => h.1) hK hy h2 h3
  | cp sz' es =>
    obtain ⟨rfl, hK⟩ := h
    obtain ⟨A, b, o, hy, h2, h3⟩ := hx
    exact lists (Rdb (FF F0 ι) base w) es A _ b o (fun _ _ _ h => h.1) hK hy h2 h3
  | d z =>
    simp only [elemsOf] at h
    split at h
    · obtain ⟨rfl, hK⟩ := h
      obtain ⟨A, cap, b, o, hy, h1, h2, h3⟩ := hx
      exact lists (Prot (FF F0 ι) w) _ A cap b o (fun _ _ _ h => h.1) hK hy h2 h3
    · obtain rfl := hx
      exact ⟨[], none, 0, [], h, rfl, by simp, by simp, trivial, by simp⟩
    · exact h.elim
  | _ => exact h.elim
/-- A block gets another name. -/
theorem StepX.rename (h : Core n base w0 F0 ι full ev a w) {p : Nat → Bool} {id dst b : Nat} (hb : ι id = some b) (hpd : p dst = true) : StepX p ι (FF F0 ι) base w (upd (Ab.wipe ι p) dst b) (FF F0 (upd (Ab.wipe ι p) dst b)) base w := by
  have hF : ∀ b' o, ¬ FF F0 ι b' o → ¬ FF F0 (upd (Ab.wipe ι p) dst b) b' o := by
    rintro b' o h0 (h1 | ⟨i, h1⟩)
    · exact h0 (.inl h1)
    · unfold upd Ab.wipe at h1
      split at h1
      · injection h1 with h1; subst h1; exact h0 (.inr ⟨id, hb⟩)
      · split at h1
        · cases h1
        · exact h0 (.inr ⟨i, h1⟩)
  exact {
    prot := fun b o x h => ⟨h.1, hF _ _ h.2⟩
    rdb := fun b o x h => ⟨h.1, h.2.imp (hF _ _) _root_.id⟩
    ids := fun j b' hj h1 => by
      unfold upd Ab.wipe
      rw [if_neg (by rintro rfl; rw [hpd] at hj; cases hj), if_neg (by rw [hj]; simp)]
      exact h1
    room := fun j b n _ _ h => h }
theorem Core.rename (h : Core n base w0 F0 ι full ev a w) {p : Nat → Bool} {id dst b : Nat} (hb : ι id = some b) (hpi : p id = true) (hpd : p dst = true) {full' : Nat → Option Ob} {ev' : Nat → AV} {o : Ob}
    (hf : ∀ j, p j = false → full' j = (full j).map (Ob.sub p fun _ => .un)) (hfd : full' dst = some o) (ho : ObOk (upd (Ab.wipe ι p) dst b) (FF F0 (upd (Ab.wipe ι p) dst b)) base w b o) (he : ∀ t, ev' t = (ev t).sub p fun _ => .un) :
    Core n base w0 F0 (upd (Ab.wipe ι p) dst b) full' ev' a w where
  below := h.below
  lowF := h.lowF
  size := h.size
  inj := by
    have key : ∀ i, i ≠ dst → Ab.wipe ι p i = some b → False := by
      intro i hi hw
      unfold Ab.wipe at hw
      split at hw
      · cases hw
      · rename_i hp
        exact hp (by rw [h.inj _ _ _ hw hb]; exact hpi)
    intro i j b' hi hj
    unfold upd at hi hj
    split at hi <;> split at hj
    · rename_i e1 e2; rw [e1, e2]
    · rename_i e1 e2; injection hi with hi; subst hi; exact (key _ e2 hj).elim
    · rename_i e1 e2; injection hj with hj; subst hj; exact (key _ e1 hi).elim
    · unfold Ab.wipe at hi hj
      split at hi
      · cases hi
      · split at hj
        · cases hj
        · exact h.inj i j b' hi hj
  low := by
    intro i b' hi
    unfold upd Ab.wipe at hi
    split at hi
    · injection hi with hi; subst hi; exact h.low _ _ hb
    · split at hi
      · cases hi
      · exact h.low i b' hi
  obs := by
    intro i b' hi
    unfold upd at hi
    split at hi
    · rename_i e
      injection hi with hi
      subst hi
      subst e
      exact ⟨o, hfd, ho⟩
    · unfold Ab.wipe at hi
      split at hi
      · cases hi
      · rename_i hp
        replace hp := Bool.eq_false_iff.2 hp
        obtain ⟨o', h1, h2⟩ := h.obs i b' hi
        refine ⟨o'.sub p fun _ => .un, by rw [hf i hp, h1]; rfl, ?_⟩
        have s := StepX.rename h hb hpd
        cases o' with
        | var cs => obtain ⟨c, T, e, hl⟩ := h2; exact ⟨c, T, e, RepL.sub (g := fun _ => .un) s (fun _ _ _ _ => trivial) _ _ hl⟩
        | arr sz es => obtain ⟨c, T, e, hl, h3⟩ := h2; exact ⟨c, T, e, RepEs.mono s.prot (fun _ _ h => h) _ _ _ hl, h3⟩
  tms t := by rw [he]; exact RepA.sub (g := fun _ => .un) (StepX.rename h hb hpd) (fun _ _ _ _ => trivial) _ _ (h.tms t)
  dfs := h.dfs
  nt := h.nt
theorem wipe_new {p : Nat → Bool} {dst : Nat} (hp : p dst = true) : wipe ι p dst = none := by unfold wipe; rw [hp]; rfl
theorem St.get_new (s : St) (p : Nat → Bool) (dst : Nat) (x : AV) (o : Ob) (t : Nat) : (s.new p dst x o).get t = if t = dst then x else (s.get t).sub p fun _ => .un := by
  show ((lk (ins dst x (s.kill p).tm) t).getD .un) = _
  rw [lk_ins]
  by_cases e : t = dst
  · subst e; simp
  · rw [if_neg (fun h => e h.symm), if_neg e]
    exact St.get_sub s p _ t
theorem full_new {s : St} {p : Nat → Bool} {dst : Nat} (hp : p dst = true) {x : AV} {o : Ob} (hfull : ∀ i o, lk s.ob i = some o → (ι i).isSome = true ∨ ∃ sz, o = .arr sz []) {ι' : Nat → Option Nat} (hι : ∀ j, p j = false → ι' j = ι j)
    (hd : (ι' dst).isSome = true ∨ ∃ sz, o = .arr sz []) : ∀ i o', lk (s.new p dst x o).ob i = some o' → (ι' i).isSome = true ∨ ∃ sz, o' = .arr sz [] := by
  intro i o' ho
  replace ho : lk ((dst, o) :: (s.kill p).ob) i = some o' := ho
  simp only [lk] at ho
  split at ho
  · rename_i e; subst e; injection ho with ho; subst ho; exact hd
  · unfold St.kill at ho
    rw [St.lk_sub] at ho
    split at ho
    · cases ho
    · rename_i hpi
      replace hpi := Bool.eq_false_iff.2 hpi
      simp only [Option.map_eq_some_iff] at ho
      obtain ⟨o2, h1, h2⟩ := ho
      rcases hfull i o2 h1 with h3 | ⟨sz, rfl⟩
      · left; rw [hι i hpi]; exact h3
      · right; exact ⟨sz, h2.symm⟩
theorem appA_sound {tt : TypeId → Option TI} (htt : TOK P tt) {s : St} (hr : RS base w0 F0 s a w) {ts tx ty : TypeId} {dst : Nat} {x y : Operand} {K : St → Prop} (h : appA tt s ts tx dst (evO s.get x) (evO s.get y) K) :
    ∃ s' v w', K s' ∧ (Builtin.append_ #[ts, tx] ty #[a.eval x, a.eval y]).run P w = .ok v w' ∧ RS base w0 F0 s' (a.put (some dst) v) w' := by
  obtain ⟨ι, hc, hfull⟩ := hr
  obtain ⟨e, ei, e', h1, h2, h3, hdst, h4⟩ := h
  have hu : P.underlying ts = some (.slice e) := (htt _ _ h1).2
  have hux : P.underlying tx = some (.slice e') := (htt _ _ h3).2
  have het := htt _ _ h2
  obtain ⟨ys, X, cx, vs, hB, hy, hvl, hone, hvr, hX⟩ := elemsOf_sound hc (hc.evO y) h4
  -- a new block
  have grow : ∀ (xs : List (List D)) (p : Nat → Bool) (A : Option Addr) (cap : Nat) (us : List Value), p dst = true → a.eval x = .slice A xs.length cap → us.length = xs.length * ei.size → RepEs (FF F0 ι) w (fun o y => us[o]? = some y) ei.size xs 0 →
      (xs.length ≠ 0 → ∃ b o, A = some ⟨b, o, none⟩ ∧ ∀ j v, us[j]? = some v → w.cell? ⟨b, o + j, none⟩ = some v) → cap < xs.length + ys.length →
      xs.length + ys.length ≤ 9223372036854775807 → (xs.length + ys.length) * ei.bytes ≤ 140737488355328 → K (s.new p dst (.ms dst ei.size 0 (xs.length + ys.length)) (.arr ei.size (xs ++ ys))) →
      ∃ s' v w', K s' ∧ (Builtin.append_ #[ts, tx] ty #[a.eval x, a.eval y]).run P w = .ok v w' ∧ RS base w0 F0 s' (a.put (some dst) v) w' := by
    intro xs p A cap us hp hx hul hur hA hg h63 hb hK
    obtain ⟨ncap, rest, n1, n2, n3⟩ := run_append_more (ty := ty) hu hux het hul hA hvl hX hg h63 hb
    refine ⟨_, _, _, hK, by rw [hx, hy]; exact n3, ?_⟩
    have hc1 := (hc.wipe p (g := fun _ => .un) (full' := lk (s.kill p).ob) (ev' := (s.kill p).get) (fun _ _ _ _ => trivial) (fun j hj => by unfold St.kill; rw [St.lk_sub, hj]; rfl) (fun t => St.get_sub s p _ t)).drew
    have hrep : RepEs (FF F0 (wipe ι p)) w.drew (fun o y => (us ++ vs ++ rest).toArray[o]? = some y) ei.size (xs ++ ys) 0 := by
      have st := StepX.wipe (F0 := F0) (ι := ι) (base := base) (w := w) p
      refine RepEs.mono (F := FF F0 (wipe ι p)) (F' := FF F0 (wipe ι p)) (w := w) (w' := w.drew) (pr := fun o y => (us ++ vs ++ rest).toArray[o]? = some y) (fun _ _ _ h => h) (fun _ _ h => h) _ _ _ ?_
      refine RepEs.append ?_ ?_
      · refine RepEs.mono st.prot (fun o u hu => ?_) _ _ _ hur
        have hlt := (List.getElem?_eq_some_iff.1 hu).1
        simp only [List.getElem?_toArray]
        rw [List.append_assoc, List.getElem?_append_left hlt, hu]
      · -- moved behind
        have shift : ∀ (l : List (List D)) (o : Nat), RepEs (FF F0 ι) w (fun o y => vs[o]? = some y) ei.size l o → RepEs (FF F0 (wipe ι p)) w (fun o y => (us ++ vs ++ rest).toArray[o]? = some y) ei.size l (us.length + o) := by
          have shiftC : ∀ (l : List D) (o : Nat), RepCs (FF F0 ι) w (fun o y => vs[o]? = some y) l o → RepCs (FF F0 (wipe ι p)) w (fun o y => (us ++ vs ++ rest).toArray[o]? = some y) l (us.length + o) := by
            intro l
            induction l with
            | nil => intro o _; trivial
            | cons z r ih =>
              intro o h
              obtain ⟨⟨g0, u, g1, g2⟩, g3⟩ := h
              refine ⟨⟨g0, u, ?_, RepD.mono st.prot _ _ g2⟩, by rw [Nat.add_assoc]; exact ih (o + 1) g3⟩
              have hlt := (List.getElem?_eq_some_iff.1 g1).1
              simp only [List.getElem?_toArray]
              rw [List.append_assoc, List.getElem?_append_right (by omega), Nat.add_sub_cancel_left, List.getElem?_append_left hlt, g1]
          intro l
          induction l with
          | nil => intro o _; trivial
          | cons z r ih =>
            intro o h
            exact ⟨h.1, shiftC z o h.2.1, by rw [Nat.add_assoc]; exact ih (o + ei.size) h.2.2⟩
        have := shift ys 0 hvr
        rw [hul] at this
        simpa using this
    have hcsz : (us ++ vs ++ rest).toArray.size = (ncap) * ei.size := by
      have hz : ei.zero.cells.size = ei.size := by
        cases ei with
        | st n b fs z => have := het.2.1; simpa [TI.zero, TI.size, Value.cells] using this
        | sc b z => have := het.2.1; cases z <;> first | rfl | cases this
        | _ => rfl
      simp only [List.size_toArray, List.length_append, hul, hvl, n2, hz]
      rw [← Nat.add_mul, ← Nat.add_mul]
      congr 1
      omega
    have heq : (s.new p dst (.ms dst ei.size 0 (xs.length + ys.length)) (.arr ei.size (xs ++ ys))).get = fun t => if t = dst then .ms dst ei.size 0 (xs.length + ys.length) else (s.kill p).get t := by
      funext t
      rw [St.get_new]
      unfold St.kill
      rw [St.get_sub]
    refine ⟨upd (wipe ι p) dst w.heap.size, ?_, full_new hp hfull (fun j hj => ?_) (.inl ?_)⟩
    · rw [heq]
      refine hc1.new (wipe_new hp) hdst (o := .arr ei.size (xs ++ ys)) (fun j b hj => ?_) ?_ ⟨hrep, ?_⟩ (.inl ⟨w.heap.size, ncap, by simp [upd], by simp, n1, _, e, heap_alloc_new w.drew _, ?_⟩)
      · show lk ((dst, _) :: (s.kill p).ob) j = _
        simp only [lk]
        rw [if_neg]
        rintro rfl
        rw [wipe_new hp] at hj
        cases hj
      · show lk ((dst, _) :: (s.kill p).ob) dst = _
        simp [lk]
      · rw [hcsz, List.length_append]
        exact Nat.mul_le_mul_right _ n1
      · rw [hcsz, Nat.zero_add]
        exact Nat.le_refl _
    · unfold upd wipe
      rw [if_neg (by rintro rfl; rw [hp] at hj; cases hj), if_neg (by rw [hj]; simp)]
    · simp [upd]
  -- nothing to append to nothing
  have idle : ∀ (p : Nat → Bool) (A : Option Addr), p dst = true → a.eval x = .slice A 0 0 → ys = [] → K (s.new p dst (.ms dst ei.size 0 0) (.arr ei.size [])) →
      ∃ s' v w', K s' ∧ (Builtin.append_ #[ts, tx] ty #[a.eval x, a.eval y]).run P w = .ok v w' ∧ RS base w0 F0 s' (a.put (some dst) v) w' := by
    rintro p A hp hx rfl hK
    refine ⟨_, _, _, hK, by rw [hx, hy]; exact run_append_none hu hux het (Nat.le_refl _), ?_⟩
    have hc1 := hc.wipe p (g := fun _ => .un) (full' := lk (s.new p dst (.ms dst ei.size 0 0) (.arr ei.size [])).ob) (ev' := (s.kill p).get) (fun _ _ _ _ => trivial) (fun j hj => by
      show lk ((dst, _) :: (s.kill p).ob) j = _
      simp only [lk]
      rw [if_neg (by rintro rfl; rw [hp] at hj; cases hj)]
      unfold St.kill; rw [St.lk_sub, hj]; rfl) (fun t => St.get_sub s p _ t)
    have heq : (s.new p dst (.ms dst ei.size 0 0) (.arr ei.size [])).get = fun t => if t = dst then .ms dst ei.size 0 0 else (s.kill p).get t := by
      funext t
      rw [St.get_new]
      unfold St.kill
      rw [St.get_sub]
    refine ⟨wipe ι p, ?_, full_new hp hfull (fun j hj => ?_) (.inr ⟨_, rfl⟩)⟩
    · rw [heq]
      exact hc1.put hdst (.inr ⟨rfl, A, rfl⟩)
    · unfold wipe
      rw [if_neg (by rw [hj]; simp)]
  generalize hax : evO s.get x = ax at hB
  have hx := hc.evO x
  rw [hax] at hx
  cases ax with
  | d z =>
    simp only [baseOf] at hB
    split at hB
    · obtain hx : a.eval x = .slice none 0 0 := hx
      obtain ⟨h63, hb, hK⟩ := hB
      by_cases hys : ys = []
      · subst hys
        exact idle _ _ (by simp) hx rfl hK
      · refine grow [] _ none 0 [] (by simp) hx (by simp) trivial (fun h => absurd rfl h) ?_ h63 hb hK
        have := List.length_pos_iff.2 hys
        simpa using this
    · exact hB.elim
  | cp sz' es =>
    obtain ⟨rfl, hne, h63, hb, hK⟩ := hB
    obtain ⟨A, b, o, hxe, h6, h7⟩ := hx
    by_cases hys : ys = []
    · rcases hne with rfl | hne
      · subst hys
        exact idle _ _ (by simp) hxe rfl hK
      · exact absurd hys hne
    · obtain ⟨us, u1, u2, u3, u4⟩ := h7.vals
      refine grow es _ A es.length us (by simp) hxe u1 u4 (fun h => ⟨b, o, h6 (by rintro rfl; exact h rfl), fun j v hj => (u2 j v hj).1⟩) ?_ h63 hb hK
      have := List.length_pos_iff.2 hys
      omega
  | ms id sz' off len =>
    obtain ⟨rfl, rfl, es, h6, h7, h63, hb, hK⟩ := hB
    have hlt : (es.take len).length = len := by simp; omega
    rcases hx with ⟨b, cap, hib, hxe, h8, h9⟩ | ⟨rfl, A, hxe⟩
    · obtain ⟨o, ho, hob⟩ := hc.obs _ b hib
      rw [h6] at ho
      injection ho with ho
      subst ho
      obtain ⟨c, T, hcb, hl, hsz⟩ := hob
      obtain ⟨us, u1, u2, u3, u4⟩ := (hl.take len).vals
      rw [Nat.zero_mul] at hxe
      by_cases hfit : len + ys.length ≤ cap
      · -- in place
        have hroom : cap * ei.size ≤ c.size := by
          obtain ⟨c2, T2, e1, e2⟩ := h9
          rw [hcb] at e1
          injection e1 with e1
          injection e1 with e1 _
          subst e1
          simpa using e2
        have hrun := run_append_fit (ty := ty) (c := cx) hu hux het hvl hX hfit hone hcb hroom
        have hbnd : len * ei.size + vs.length ≤ c.size := by
          rw [hvl, ← Nat.add_mul]
          exact Nat.le_trans (Nat.mul_le_mul_right _ hfit) hroom
        obtain ⟨c', r1, r2, r3, r4, r5, r6, r7⟩ := setCells_heap vs w b (len * ei.size) c T (0, 0) hcb hbnd
        have hcs : c'.size = c.size := by
          have := congrArg List.length r2
          simp at this
          omega
        have hlow : ∀ j, j < len * ei.size → c'[j]? = c[j]? := by
          intro j hj
          rw [← Array.getElem?_toList, r2, ← Array.getElem?_toList (xs := c), List.getElem?_append_left (by simp; omega), List.getElem?_take, if_pos hj]
        have hin : ∀ j u, vs[j]? = some u → c'[len * ei.size + j]? = some u := by
          intro j u hj
          have hjl := (List.getElem?_eq_some_iff.1 hj).1
          have hl1 : (c.toList.take (len * ei.size)).length = len * ei.size := by simp; omega
          rw [← Array.getElem?_toList, r2, List.getElem?_append_right (by omega), hl1, Nat.add_sub_cancel_left, List.getElem?_append_left hjl, hj]
        have hst := Step.write hc hib hcb r1 hcs r3
        have hrep : RepEs (FF F0 ι) (w.setCells b (len * ei.size) vs) (fun o y => c'[o]? = some y) ei.size (es.take len ++ ys) 0 := by
          refine RepEs.append ?_ ?_
          · refine RepEs.mono hst.prot (fun o u hu => ?_) _ _ _ u4
            have hlt' := (List.getElem?_eq_some_iff.1 hu).1
            rw [hlow o (by rw [u1, hlt] at hlt'; exact hlt')]
            have := u2 o u hu
            simpa using this
          · have shift : ∀ (l : List (List D)) (o : Nat), RepEs (FF F0 ι) w (fun o y => vs[o]? = some y) ei.size l o → RepEs (FF F0 ι) (w.setCells b (len * ei.size) vs) (fun o y => c'[o]? = some y) ei.size l (len * ei.size + o) := by
              have shiftC : ∀ (l : List D) (o : Nat), RepCs (FF F0 ι) w (fun o y => vs[o]? = some y) l o → RepCs (FF F0 ι) (w.setCells b (len * ei.size) vs) (fun o y => c'[o]? = some y) l (len * ei.size + o) := by
                intro l
                induction l with
                | nil => intro o _; trivial
                | cons z r ih =>
                  intro o h
                  obtain ⟨⟨g0, u, g1, g2⟩, g3⟩ := h
                  exact ⟨⟨g0, u, hin o u g1, RepD.mono hst.prot _ _ g2⟩, by rw [Nat.add_assoc]; exact ih (o + 1) g3⟩
              intro l
              induction l with
              | nil => intro o _; trivial
              | cons z r ih =>
                intro o h
                exact ⟨h.1, shiftC z o h.2.1, by rw [Nat.add_assoc]; exact ih (o + ei.size) h.2.2⟩
            have := shift ys 0 hvr
            rw [hlt]
            simpa using this
        have hbnd2 : (es.take len ++ ys).length * ei.size ≤ c'.size := by
          rw [List.length_append, hlt, hcs]
          exact Nat.le_trans (Nat.mul_le_mul_right _ hfit) hroom
        have hcw := Core.write hc hib hcb r1 hcs r3 r4 r5 r6 r7 (full' := fun j => if j = id then some (.arr ei.size (es.take len ++ ys)) else lk s.ob j) (o := .arr ei.size (es.take len ++ ys)) (fun j hj => by simp [hj]) (by simp) ⟨c', T, r1, hrep, hbnd2⟩
        have hst2 := StepX.rename (p := fun i => i == dst || i == id) (dst := dst) hcw hib (by simp)
        have hcr := Core.rename (p := fun i => i == dst || i == id) (dst := dst) hcw hib (by simp) (by simp)
          (full' := lk (s.new (fun i => i == dst || i == id) dst (.ms dst ei.size 0 ((es.take len).length + ys.length)) (.arr ei.size (es.take len ++ ys))).ob) (ev' := (s.kill fun i => i == dst || i == id).get) (o := .arr ei.size (es.take len ++ ys))
          (fun j hj => by
            show lk ((dst, _) :: (s.kill _).ob) j = _
            simp only [Bool.or_eq_false_iff, beq_eq_false_iff_ne] at hj
            simp only [lk]
            rw [if_neg (fun e => hj.1 e.symm), if_neg hj.2]
            unfold St.kill; rw [St.lk_sub]
            rw [if_neg (by simp [hj.1, hj.2])])
          (by show lk ((dst, _) :: (s.kill _).ob) dst = _; simp [lk])
          ⟨c', T, r1, RepEs.mono hst2.prot (fun _ _ h => h) _ _ _ hrep, hbnd2⟩ (fun t => St.get_sub s _ _ t)
        have heq : (s.new (fun i => i == dst || i == id) dst (.ms dst ei.size 0 ((es.take len).length + ys.length)) (.arr ei.size (es.take len ++ ys))).get = fun t => if t = dst then .ms dst ei.size 0 ((es.take len).length + ys.length) else (s.kill fun i => i == dst || i == id).get t := by
          funext t
          rw [St.get_new]
          unfold St.kill
          rw [St.get_sub]
        refine ⟨_, _, _, hK, by rw [hxe, hy]; exact hrun, upd (wipe ι fun i => i == dst || i == id) dst b, ?_, full_new (by simp) hfull (fun j hj => ?_) (.inl (by simp [upd]))⟩
        · rw [heq]
          refine hcr.put hdst (.inl ⟨b, cap, by simp [upd], by rw [hlt]; simp, by rw [hlt]; exact hfit, c', T, r1, by rw [hcs]; simpa using hroom⟩)
        · simp only [Bool.or_eq_false_iff, beq_eq_false_iff_ne] at hj
          unfold upd wipe
          rw [if_neg hj.1, if_neg (by simp [hj.1, hj.2])]
      · refine grow (es.take len) _ (some ⟨b, 0, none⟩) cap us (by simp) (by rw [hlt]; exact hxe) u1 u4 (fun _ => ⟨b, 0, rfl, fun j v hj => ?_⟩) (by omega) h63 hb hK
        rw [cell_of hcb]
        exact u2 j v hj
    · simp only [List.take_zero] at hK h63 hb
      by_cases hys : ys = []
      · subst hys
        exact idle _ _ (by simp) hxe rfl hK
      · refine grow [] _ A 0 [] (by simp) hxe (by simp) trivial (fun h => absurd rfl h) ?_ h63 hb hK
        have := List.length_pos_iff.2 hys
        simpa using this
  | _ => exact hB.elim
end
end Go.Proofs.Ab
