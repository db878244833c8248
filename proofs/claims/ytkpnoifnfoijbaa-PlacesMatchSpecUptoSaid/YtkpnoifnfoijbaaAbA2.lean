/- A part of the proof of the law: it holds for all states of the abstract kind told in the first of these texts; no condition besides those its statements name. -/
import Derived.Test.YtkpnoifnfoijbaaAbA1
import Derived.Deep.MidRow
namespace Go.Proofs.Ab
open Go Go.RowKit
set_option linter.unusedVariables false
set_option linter.unusedSimpArgs false

/-! ### Types -/
inductive TI where
  | sl (elem : TypeId)
  | st (size bytes : Nat) (fs : List (Nat × TypeId)) (zero : List Value)
  | sc (bytes : Nat) (zero : Value)
  | ik (k : IntKind) (bytes : Nat)
  | bl
  | str
def TI.size : TI → Nat
  | .st n _ _ _ => n
  | _ => 1
def TI.row : TI → Bool
  | .st .. => true
  | _ => false
def TI.bytes : TI → Nat
  | .sl _ => 24
  | .st _ b _ _ => b
  | .sc b _ => b
  | .ik _ b => b
  | .bl => 1
  | .str => 16
def TI.zero : TI → Value
  | .sl _ => .slice none 0 0
  | .st _ _ _ z => .agg z.toArray
  | .sc _ z => z
  | .ik k _ => .int k 0
  | .bl => .bool false
  | .str => .string ⟨#[]⟩
def TI.zeros : TI → List Value
  | .st _ _ _ z => z
  | t => [t.zero]
def Tok (P : Program) (t : TypeId) (i : TI) : Prop :=
  (P.info? t).map (fun x => (x.zero, x.size, x.bytes)) = some (some i.zero, i.size, i.bytes) ∧
  match i with
  | .sl e => P.underlying t = some (.slice e)
  | .st n _ fs z => z.length = n ∧ z.all Value.oneCell' = true ∧ ∃ fa : Array Field, P.underlying t = some (.struct fa) ∧ fa.toList.map (fun f => (f.offset, f.type)) = fs
  | .sc _ z => z.oneCell' = true ∧ ∃ d, P.underlying t = some d ∧ d.isRow = false
  | .ik k _ => P.underlying t = some (.int k)
  | .bl => P.underlying t = some .bool
  | .str => P.underlying t = some .string
def TOK (P : Program) (tt : TypeId → Option TI) : Prop := ∀ t i, tt t = some i → Tok P t i

section types
variable {P : Program} {t : TypeId} {i : TI}
theorem Tok.size (h : Tok P t i) : (P.info? t).map (·.size) = some i.size := by
  have := h.1
  cases hq : P.info? t <;> simp_all
theorem Tok.info (h : Tok P t i) : ∃ x, P.info? t = some x ∧ x.zero = some i.zero ∧ x.size = i.size ∧ x.bytes = i.bytes := by
  have := h.1
  cases hq : P.info? t with
  | none => simp [hq] at this
  | some x => simp [hq] at this; exact ⟨x, rfl, this⟩
theorem Tok.under (h : Tok P t i) : ∃ d, P.underlying t = some d ∧ d.isRow = i.row := by
  have := h.2
  cases i with
  | sl e => exact ⟨_, this, rfl⟩
  | st n b fs z => obtain ⟨_, _, fa, h, _⟩ := this; exact ⟨_, h, rfl⟩
  | sc b z => exact this.2
  | ik k b => exact ⟨_, this, rfl⟩
  | bl => exact ⟨_, this, rfl⟩
  | str => exact ⟨_, this, rfl⟩
theorem run_typeInfo_tok (h : Tok P t i) (w : World) : ∃ x, (typeInfo t).run P w = .ok x w ∧ x.zero = some i.zero ∧ x.size = i.size ∧ x.bytes = i.bytes := by
  obtain ⟨x, h1, h2⟩ := h.info
  exact ⟨x, by simp [typeInfo, h1], h2⟩
theorem run_sizeOf_tok (h : Tok P t i) (w : World) : (sizeOf t).run P w = .ok i.size w := by
  obtain ⟨x, h1, h2, h3, h4⟩ := run_typeInfo_tok h w
  simp [sizeOf, h1, h3]
theorem run_zeroValue_tok (h : Tok P t i) (w : World) : (zeroValue t).run P w = .ok i.zero w := by
  obtain ⟨x, h1, h2, h3, h4⟩ := run_typeInfo_tok h w
  simp [zeroValue, h1, h2]
theorem run_isAgg_tok (h : Tok P t i) (w : World) : (isAgg t).run P w = .ok i.row w := by
  obtain ⟨d, h1, h2⟩ := h.under
  simp only [isAgg, Sem.run_bind, run_underlying h1 w, Result.andThen_ok]
  cases d <;> simp_all
theorem run_loadVar_row' (h : Tok P t i) (hr : i.row = true) (w : World) (b o : Nat) (cs : List Value) (hl : cs.length = i.size) (hc : w.rangeAt b o cs) :
    (loadVar t ⟨b, o, none⟩).run P w = .ok (.agg cs.toArray) w := by
  obtain ⟨d, h1, h2⟩ := h.under
  exact run_loadVar_mid w b o t cs d hc h1 (by rw [h2, hr]) (by rw [h.size, hl])
theorem run_loadVar_one (h : Tok P t i) (hr : i.row = false) (w : World) (b o : Nat) (v : Value) (hc : w.cell? ⟨b, o, none⟩ = some v) :
    (loadVar t ⟨b, o, none⟩).run P w = .ok v w := by
  simp [loadVar, run_isAgg_tok h w, hr, Sem.run, load, hc]
end types

/-! ### The state -/
def lk {α : Type} : List (Nat × α) → Nat → Option α
  | [], _ => none
  | (j, x) :: r, k => if j = k then some x else lk r k
def ins {α : Type} (t : Nat) (x : α) : List (Nat × α) → List (Nat × α)
  | [] => [(t, x)]
  | (j, y) :: r => if j = t then (t, x) :: r else (j, y) :: ins t x r
def del {α : Type} (p : Nat → Bool) : List (Nat × α) → List (Nat × α)
  | [] => []
  | (j, y) :: r => if p j then del p r else (j, y) :: del p r
theorem lk_ins {α : Type} (t k : Nat) (x : α) (l : List (Nat × α)) : lk (ins t x l) k = if t = k then some x else lk l k := by
  induction l with
  | nil => simp [ins, lk]
  | cons p r ih =>
    obtain ⟨j, y⟩ := p
    simp only [ins]
    split
    · rename_i h; subst h; simp only [lk]; split <;> rfl
    · rename_i h
      simp only [lk, ih]
      by_cases hj : j = k
      · subst hj; rw [if_pos rfl, if_neg (fun e => h e.symm), if_pos rfl]
      · rw [if_neg hj, if_neg hj]
theorem lk_del {α : Type} (p : Nat → Bool) (k : Nat) (l : List (Nat × α)) : lk (del p l) k = if p k then none else lk l k := by
  induction l with
  | nil => simp [del, lk]
  | cons q r ih =>
    obtain ⟨j, y⟩ := q
    simp only [del]
    split
    · rename_i h
      rw [ih]
      simp only [lk]
      by_cases e : j = k
      · subst e; simp [h]
      · simp [e]
    · rename_i h
      simp only [lk, ih]
      by_cases e : j = k
      · subst e; simp [h]
      · simp [e]
theorem lk_map {α β : Type} (f : α → β) (k : Nat) (l : List (Nat × α)) : lk (l.map fun p => (p.1, f p.2)) k = (lk l k).map f := by
  induction l with
  | nil => rfl
  | cons p r ih =>
    obtain ⟨j, y⟩ := p
    simp only [List.map_cons, lk, ih]
    split <;> rfl

mutual
/-- What refers to a name of p is written anew by g. -/
def AV.sub (p : Nat → Bool) (g : AV → AV) : AV → AV
  | .un => .un
  | .d x => .d x
  | .bs sz es => .bs sz es
  | .cp sz es => .cp sz es
  | .bp cs => .bp cs
  | .pt i o => if p i then g (.pt i o) else .pt i o
  | .pe i sz k o => if p i then g (.pe i sz k o) else .pe i sz k o
  | .ms i sz o n => if p i then g (.ms i sz o n) else .ms i sz o n
  | .cl f caps => .cl f (AV.subL p g caps)
  | .ag cs => .ag (AV.subL p g cs)
  | .tp cs => .tp (AV.subL p g cs)
def AV.subL (p : Nat → Bool) (g : AV → AV) : List AV → List AV
  | [] => []
  | x :: r => x.sub p g :: AV.subL p g r
end
def Ob.sub (p : Nat → Bool) (g : AV → AV) : Ob → Ob
  | .var cs => .var (AV.subL p g cs)
  | .arr sz es => .arr sz es
inductive AV.leafAt (p : Nat → Bool) : AV → Prop
  | pt (i o : Nat) : p i = true → AV.leafAt p (.pt i o)
  | pe (i sz k o : Nat) : p i = true → AV.leafAt p (.pe i sz k o)
  | ms (i sz o n : Nat) : p i = true → AV.leafAt p (.ms i sz o n)

structure StepX (p : Nat → Bool) (ι : Nat → Option Nat) (F : Nat → Nat → Prop) (base : Nat) (w : World) (ι' : Nat → Option Nat) (F' : Nat → Nat → Prop) (base' : Nat) (w' : World) : Prop where
  prot : ∀ b o x, Prot F w b o x → Prot F' w' b o x
  rdb : ∀ b o x, Rdb F base w b o x → Rdb F' base' w' b o x
  ids : ∀ j b, p j = false → ι j = some b → ι' j = some b
  room : ∀ j b n, p j = false → ι j = some b → Room w b n → Room w' b n
section sub
variable {F F' : Nat → Nat → Prop} {w w' : World} {ι ι' : Nat → Option Nat} {base base' : Nat} {p : Nat → Bool} {g : AV → AV}
mutual
theorem RepA.sub (s : StepX p ι F base w ι' F' base' w') (hg : ∀ x y, AV.leafAt p x → RepA ι F base w x y → RepA ι' F' base' w' (g x) y) :
    ∀ (x : AV) (y : Value), RepA ι F base w x y → RepA ι' F' base' w' (x.sub p g) y
  | .un, _, _ => trivial
  | .d x, y, h => RepD.mono s.prot x y h
  | .bs sz es, y, h => by
    obtain ⟨a, cap, b, o, e, h1, h2, h3⟩ := h
    exact ⟨a, cap, b, o, e, h1, h2, RepEs.mono s.prot (s.rdb b) sz es o h3⟩
  | .cp sz es, y, h => by
    obtain ⟨a, b, o, e, h2, h3⟩ := h
    exact ⟨a, b, o, e, h2, RepEs.mono s.prot (s.rdb b) sz es o h3⟩
  | .bp cs, y, h => by
    obtain ⟨b, o, e, h3⟩ := h
    exact ⟨b, o, e, RepCs.mono s.prot (s.rdb b) cs o h3⟩
  | .pt i off, y, h => by
    unfold AV.sub
    split
    · rename_i e; exact hg _ _ (.pt _ _ e) h
    · rename_i e; replace e := Bool.eq_false_iff.2 e; obtain ⟨b, h1, h2⟩ := h; exact ⟨b, s.ids _ _ e h1, h2⟩
  | .pe i sz k off, y, h => by
    unfold AV.sub
    split
    · rename_i e; exact hg _ _ (.pe _ _ _ _ e) h
    · rename_i e; replace e := Bool.eq_false_iff.2 e; obtain ⟨b, h1, h2⟩ := h; exact ⟨b, s.ids _ _ e h1, h2⟩
  | .ms i sz off len, y, h => by
    unfold AV.sub
    split
    · rename_i e; exact hg _ _ (.ms _ _ _ _ e) h
    · rename_i e
      replace e := Bool.eq_false_iff.2 e
      rcases h with ⟨b, cap, h0, h1, h2, h3⟩ | h
      · exact .inl ⟨b, cap, s.ids _ _ e h0, h1, h2, s.room _ _ _ e h0 h3⟩
      · exact .inr h
  | .cl f caps, y, h => by
    obtain ⟨vs, e, h⟩ := h
    exact ⟨vs, e, RepL.sub s hg caps vs h⟩
  | .ag cs, y, h => by
    obtain ⟨vs, e, h⟩ := h
    exact ⟨vs, e, RepL.sub s hg cs vs h⟩
  | .tp cs, y, h => by
    obtain ⟨vs, e, h⟩ := h
    exact ⟨vs, e, RepL.sub s hg cs vs h⟩
theorem RepL.sub (s : StepX p ι F base w ι' F' base' w') (hg : ∀ x y, AV.leafAt p x → RepA ι F base w x y → RepA ι' F' base' w' (g x) y) :
    ∀ (l : List AV) (ys : List Value), RepL ι F base w l ys → RepL ι' F' base' w' (AV.subL p g l) ys
  | [], _, h => h
  | x :: r, vs, h => by
    obtain ⟨y, ys, e, h1, h2⟩ := h
    exact ⟨y, ys, e, RepA.sub s hg x y h1, RepL.sub s hg r ys h2⟩
end
end sub

def ObOk (ι : Nat → Option Nat) (F : Nat → Nat → Prop) (base : Nat) (w : World) (b : Nat) : Ob → Prop
  | .var cs => ∃ c T, w.heap[b]? = some (.cells c T (0, 0)) ∧ RepL ι F base w cs c.toList
  | .arr sz es => ∃ c T, w.heap[b]? = some (.cells c T (0, 0)) ∧ RepEs F w (fun o y => c[o]? = some y) sz es 0 ∧ es.length * sz ≤ c.size
def FF (F0 : Nat → Nat → Prop) (ι : Nat → Option Nat) (b o : Nat) : Prop := F0 b o ∨ ∃ id, ι id = some b

structure Core (n base : Nat) (w0 : World) (F0 : Nat → Nat → Prop) (ι : Nat → Option Nat) (full : Nat → Option Ob) (ev : Nat → AV) (a : Act) (w : World) : Prop where
  below : Below base w0 w
  lowF : ∀ b o, F0 b o → b < base
  size : base ≤ w.heap.size
  inj : ∀ i j b, ι i = some b → ι j = some b → i = j
  low : ∀ i b, ι i = some b → base ≤ b ∧ b < w.heap.size
  obs : ∀ i b, ι i = some b → ∃ o, full i = some o ∧ ObOk ι (FF F0 ι) base w b o
  tms : ∀ t, RepA ι (FF F0 ι) base w (ev t) (a.tmps.getD t undef)
  dfs : a.defers = []
  nt : a.tmps.size = n

structure St where
  nt : Nat
  tm : List (Nat × AV)
  ob : List (Nat × Ob)
def St.get (s : St) (t : Nat) : AV := (lk s.tm t).getD .un
def St.put (s : St) (d : Option Nat) (x : AV) : St := match d with | some d => { s with tm := ins d x s.tm } | none => s
def evO (ev : Nat → AV) : Operand → AV
  | .tmp t => ev t
  | .const v => .d (.v v)
  | .func f => .cl f []
  | .global _ => .un

def RS (base : Nat) (w0 : World) (F0 : Nat → Nat → Prop) (s : St) (a : Act) (w : World) : Prop :=
  ∃ ι, Core s.nt base w0 F0 ι (lk s.ob) s.get a w ∧ ∀ i o, lk s.ob i = some o → (ι i).isSome = true ∨ ∃ sz, o = .arr sz []

section core
variable {n base : Nat} {w0 : World} {F0 : Nat → Nat → Prop} {ι : Nat → Option Nat} {full : Nat → Option Ob} {ev : Nat → AV} {a : Act} {w : World}
theorem Core.evO (h : Core n base w0 F0 ι full ev a w) (x : Operand) : RepA ι (FF F0 ι) base w (evO ev x) (a.eval x) := by
  cases x with
  | tmp t => exact h.tms t
  | const v => exact rfl
  | func f => exact ⟨[], rfl, rfl⟩
  | global g => trivial
theorem getD_set (l : Array Value) (d t : Nat) (v : Value) (hd : d < l.size) : (l.setIfInBounds d v).getD t undef = if t = d then v else l.getD t undef := by
  simp only [Array.getD_eq_getD_getElem?, Array.getElem?_setIfInBounds]
  by_cases h : d = t
  · subst h; simp [hd]
  · rw [if_neg h, if_neg (fun e => h e.symm)]
theorem Core.put (h : Core n base w0 F0 ι full ev a w) {d : Nat} (hd : d < n) {x : AV} {v : Value} (hx : RepA ι (FF F0 ι) base w x v) :
    Core n base w0 F0 ι full (fun t => if t = d then x else ev t) (a.put (some d) v) w where
  below := h.below
  lowF := h.lowF
  size := h.size
  inj := h.inj
  low := h.low
  obs := h.obs
  tms t := by
    show RepA ι (FF F0 ι) base w _ ((a.tmps.setIfInBounds d v).getD t undef)
    rw [getD_set _ _ _ _ (by rw [h.nt]; exact hd)]
    by_cases e : t = d
    · subst e; simpa using hx
    · simpa [e] using h.tms t
  dfs := h.dfs
  nt := by simpa [Act.put] using h.nt
theorem Core.drew (h : Core n base w0 F0 ι full ev a w) : Core n base w0 F0 ι full ev a { w with drawn := w.drawn + 1 } where
  below := ⟨h.below.os, h.below.tape, h.below.output, h.below.size, h.below.block⟩
  lowF := h.lowF
  size := h.size
  inj := h.inj
  low := h.low
  obs i b hi := by
    obtain ⟨o, h1, h2⟩ := h.obs i b hi
    have s : Step ι (FF F0 ι) base w ι (FF F0 ι) base { w with drawn := w.drawn + 1 } := ⟨fun _ _ _ h => h, fun _ _ _ h => h, fun _ _ h => h, fun _ _ _ _ h => h⟩
    refine ⟨o, h1, ?_⟩
    cases o with
    | var cs => obtain ⟨c, T, e, h3⟩ := h2; exact ⟨c, T, e, RepL.mono s _ _ h3⟩
    | arr sz es => obtain ⟨c, T, e, h3, h4⟩ := h2; exact ⟨c, T, e, RepEs.mono s.prot (fun _ _ h => h) _ _ _ h3, h4⟩
  tms t := by
    have s : Step ι (FF F0 ι) base w ι (FF F0 ι) base { w with drawn := w.drawn + 1 } := ⟨fun _ _ _ h => h, fun _ _ _ h => h, fun _ _ h => h, fun _ _ _ _ h => h⟩
    exact RepA.mono s _ _ (h.tms t)
  dfs := h.dfs
  nt := h.nt
end core
end Go.Proofs.Ab
