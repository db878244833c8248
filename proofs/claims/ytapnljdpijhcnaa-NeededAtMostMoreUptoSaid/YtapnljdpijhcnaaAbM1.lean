/- What a value of the program stands for, and that each operation and piece of code that is walked does to these abstract values what is told; definitions and proofs over any program; no condition besides those its statements name. -/
import Derived.Calls
import Derived.Orders
import Derived.Below
import Derived.Deep.MidRow
import Derived.Laws.Slices
import Derived.Laws.StructEq
import Derived.Laws.Cover3
import Derived.Laws.Small
import Derived.Lib.SliceRun
import Derived.Laws.MakeOwn
import Derived.IntWalk
import Derived.ArgAppend
import Derived.Laws.AppendOwn
import Derived.Deep.LoopGhost
import Derived.Tactics
namespace Go.Proofs.Ab
open Go Go.RowKit

/-- Data that nobody writes. -/
inductive D where
  | v (x : Value)
  | sl (sz : Nat) (es : List (List D))
  | rp (cs : List D)

/-- What a slot holds. -/
inductive AV where
  | un
  | d (x : D)
  | bs (sz : Nat) (es : List (List D))
  | cp (sz : Nat) (es : List (List D))
  | bp (cs : List D)
  | pt (id off : Nat)
  | pe (id sz i off : Nat)
  | ms (id sz off len : Nat)
  | cl (f : FuncId) (caps : List AV)
  | ag (cs : List AV)
  | tp (vs : List AV)

/-- A variable of the call's own: a struct's cells, or an array's elements. -/
inductive Ob where
  | var (cs : List AV)
  | arr (sz : Nat) (es : List (List D))

/-- One cell holds it. -/
def D.one : D → Bool
  | .v x => x.oneCell'
  | _ => true
def Prot (F : Nat → Nat → Prop) (w : World) (b o : Nat) (x : Value) : Prop := w.cell? ⟨b, o, none⟩ = some x ∧ ¬ F b o
def Rdb (F : Nat → Nat → Prop) (base : Nat) (w : World) (b o : Nat) (x : Value) : Prop := w.cell? ⟨b, o, none⟩ = some x ∧ (¬ F b o ∨ b < base)
def Room (w : World) (b n : Nat) : Prop := ∃ c T, w.heap[b]? = some (.cells c T (0, 0)) ∧ n ≤ c.size

mutual
def RepD (F : Nat → Nat → Prop) (w : World) : D → Value → Prop
  | .v x, y => y = x
  | .sl sz es, y => ∃ a cap b o, y = .slice a es.length cap ∧ es.length ≤ cap ∧ (es ≠ [] → a = some ⟨b, o, none⟩) ∧ RepEs F w (Prot F w b) sz es o
  | .rp cs, y => ∃ b o, y = .pointer (some ⟨b, o, none⟩) ∧ RepCs F w (Prot F w b) cs o
def RepCs (F : Nat → Nat → Prop) (w : World) (pr : Nat → Value → Prop) : List D → Nat → Prop
  | [], _ => True
  | x :: r, o => (x.one = true ∧ ∃ y, pr o y ∧ RepD F w x y) ∧ RepCs F w pr r (o + 1)
def RepEs (F : Nat → Nat → Prop) (w : World) (pr : Nat → Value → Prop) (sz : Nat) : List (List D) → Nat → Prop
  | [], _ => True
  | e :: r, o => e.length = sz ∧ RepCs F w pr e o ∧ RepEs F w pr sz r (o + sz)
end

mutual
def RepA (ι : Nat → Option Nat) (F : Nat → Nat → Prop) (base : Nat) (w : World) : AV → Value → Prop
  | .un, _ => True
  | .d x, y => RepD F w x y
  | .bs sz es, y => ∃ a cap b o, y = .slice a es.length cap ∧ es.length ≤ cap ∧ (es ≠ [] → a = some ⟨b, o, none⟩) ∧ RepEs F w (Rdb F base w b) sz es o
  | .cp sz es, y => ∃ a b o, y = .slice a es.length es.length ∧ (es ≠ [] → a = some ⟨b, o, none⟩) ∧ RepEs F w (Rdb F base w b) sz es o
  | .bp cs, y => ∃ b o, y = .pointer (some ⟨b, o, none⟩) ∧ RepCs F w (Rdb F base w b) cs o
  | .pt id off, y => ∃ b, ι id = some b ∧ y = .pointer (some ⟨b, off, none⟩)
  | .pe id sz i off, y => ∃ b, ι id = some b ∧ y = .pointer (some ⟨b, i * sz + off, none⟩)
  | .ms id sz off len, y => (∃ b cap, ι id = some b ∧ y = .slice (some ⟨b, off * sz, none⟩) len cap ∧ len ≤ cap ∧ Room w b ((off + cap) * sz)) ∨ (len = 0 ∧ ∃ a, y = .slice a 0 0)
  | .cl f caps, y => ∃ vs : List Value, y = .func (.func f) #[] vs.toArray ∧ RepL ι F base w caps vs
  | .ag cs, y => ∃ vs : List Value, y = .agg vs.toArray ∧ RepL ι F base w cs vs
  | .tp cs, y => ∃ vs : List Value, y = .tuple vs.toArray ∧ RepL ι F base w cs vs
def RepL (ι : Nat → Option Nat) (F : Nat → Nat → Prop) (base : Nat) (w : World) : List AV → List Value → Prop
  | [], vs => vs = []
  | x :: r, vs => ∃ y ys, vs = y :: ys ∧ RepA ι F base w x y ∧ RepL ι F base w r ys
end

section mono
variable {F F' : Nat → Nat → Prop} {w w' : World}
mutual
theorem RepD.mono (hk : ∀ b o x, Prot F w b o x → Prot F' w' b o x) : ∀ (x : D) (y : Value), RepD F w x y → RepD F' w' x y
  | .v _, _, h => h
  | .sl sz es, y, h => by
    obtain ⟨a, cap, b, o, e, h1, h2, h3⟩ := h
    exact ⟨a, cap, b, o, e, h1, h2, RepEs.mono hk (fun o y => hk b o y) sz es o h3⟩
  | .rp cs, y, h => by
    obtain ⟨b, o, e, h3⟩ := h
    exact ⟨b, o, e, RepCs.mono hk (fun o y => hk b o y) cs o h3⟩
theorem RepCs.mono {pr pr' : Nat → Value → Prop} (hk : ∀ b o x, Prot F w b o x → Prot F' w' b o x) (hp : ∀ o y, pr o y → pr' o y) : ∀ (l : List D) (o : Nat), RepCs F w pr l o → RepCs F' w' pr' l o
  | [], _, _ => trivial
  | x :: r, o, h => by
    obtain ⟨⟨h0, y, h1, h2⟩, h3⟩ := h
    exact ⟨⟨h0, y, hp _ _ h1, RepD.mono hk x y h2⟩, RepCs.mono hk hp r (o + 1) h3⟩
theorem RepEs.mono {pr pr' : Nat → Value → Prop} (hk : ∀ b o x, Prot F w b o x → Prot F' w' b o x) (hp : ∀ o y, pr o y → pr' o y) (sz : Nat) : ∀ (l : List (List D)) (o : Nat), RepEs F w pr sz l o → RepEs F' w' pr' sz l o
  | [], _, _ => trivial
  | e :: r, o, h => by
    obtain ⟨h1, h2, h3⟩ := h
    exact ⟨h1, RepCs.mono hk hp e o h2, RepEs.mono hk hp sz r (o + sz) h3⟩
end

structure Step (ι : Nat → Option Nat) (F : Nat → Nat → Prop) (base : Nat) (w : World) (ι' : Nat → Option Nat) (F' : Nat → Nat → Prop) (base' : Nat) (w' : World) : Prop where
  prot : ∀ b o x, Prot F w b o x → Prot F' w' b o x
  rdb : ∀ b o x, Rdb F base w b o x → Rdb F' base' w' b o x
  ids : ∀ id b, ι id = some b → ι' id = some b
  room : ∀ id b n, ι id = some b → Room w b n → Room w' b n

variable {ι ι' : Nat → Option Nat} {base base' : Nat}
mutual
theorem RepA.mono (s : Step ι F base w ι' F' base' w') : ∀ (x : AV) (y : Value), RepA ι F base w x y → RepA ι' F' base' w' x y
  | .un, _, _ => trivial
  | .d x, y, h => RepD.mono s.prot x y h
  | .bs sz es, y, h => by
    obtain ⟨a, cap, b, o, e, h1, h2, h3⟩ := h
    exact ⟨a, cap, b, o, e, h1, h2, RepEs.mono s.prot (s.rdb b) sz es o h3⟩
  | .cp sz es, y, h => by
    obtain ⟨a, b, o, e, h2, h3⟩ := h
    exact ⟨a, b, o, e, h2, RepEs.mono s.prot (s.rdb b) sz es o h3⟩
  | .bp cs, y, h => by
    obtain ⟨b, o, e, h3⟩ := h
    exact ⟨b, o, e, RepCs.mono s.prot (s.rdb b) cs o h3⟩
  | .pt id off, y, h => by
    obtain ⟨b, e, h⟩ := h
    exact ⟨b, s.ids _ _ e, h⟩
  | .pe id sz i off, y, h => by
    obtain ⟨b, e, h⟩ := h
    exact ⟨b, s.ids _ _ e, h⟩
  | .ms id sz off len, y, h => by
    rcases h with ⟨b, cap, e, h1, h2, h3⟩ | h
    · exact .inl ⟨b, cap, s.ids _ _ e, h1, h2, s.room _ _ _ e h3⟩
    · exact .inr h
  | .cl f caps, y, h => by
    obtain ⟨vs, e, h⟩ := h
    exact ⟨vs, e, RepL.mono s caps vs h⟩
  | .ag cs, y, h => by
    obtain ⟨vs, e, h⟩ := h
    exact ⟨vs, e, RepL.mono s cs vs h⟩
  | .tp cs, y, h => by
    obtain ⟨vs, e, h⟩ := h
    exact ⟨vs, e, RepL.mono s cs vs h⟩
theorem RepL.mono (s : Step ι F base w ι' F' base' w') : ∀ (l : List AV) (ys : List Value), RepL ι F base w l ys → RepL ι' F' base' w' l ys
  | [], _, h => h
  | x :: r, vs, h => by
    obtain ⟨y, ys, e, h1, h2⟩ := h
    exact ⟨y, ys, e, RepA.mono s x y h1, RepL.mono s r ys h2⟩
end
end mono
end Go.Proofs.Ab

namespace Go.Proofs.Ab
open Go Go.RowKit
set_option linter.unusedVariables false
set_option linter.unusedSimpArgs false

/-! ### Types -/
inductive TI where
  | sl (elem : TypeId)
  | st (size bytes : Nat) (fs : List (Nat × TypeId)) (zero : List Value)
  | sc (bytes : Nat) (zero : Value)
  | ik (k : IntKind) (bytes : Nat)
  | bl
  | str
def TI.size : TI → Nat
  | .st n _ _ _ => n
  | _ => 1
def TI.row : TI → Bool
  | .st .. => true
  | _ => false
def TI.bytes : TI → Nat
  | .sl _ => 24
  | .st _ b _ _ => b
  | .sc b _ => b
  | .ik _ b => b
  | .bl => 1
  | .str => 16
def TI.zero : TI → Value
  | .sl _ => .slice none 0 0
  | .st _ _ _ z => .agg z.toArray
  | .sc _ z => z
  | .ik k _ => .int k 0
  | .bl => .bool false
  | .str => .string ⟨#[]⟩
def TI.zeros : TI → List Value
  | .st _ _ _ z => z
  | t => [t.zero]
def Tok (P : Program) (t : TypeId) (i : TI) : Prop :=
  (P.info? t).map (fun x => (x.zero, x.size, x.bytes)) = some (some i.zero, i.size, i.bytes) ∧
  match i with
  | .sl e => P.underlying t = some (.slice e)
  | .st n _ fs z => z.length = n ∧ z.all Value.oneCell' = true ∧ ∃ fa : Array Field, P.underlying t = some (.struct fa) ∧ fa.toList.map (fun f => (f.offset, f.type)) = fs
  | .sc _ z => z.oneCell' = true ∧ ∃ d, P.underlying t = some d ∧ d.isRow = false
  | .ik k _ => P.underlying t = some (.int k)
  | .bl => P.underlying t = some .bool
  | .str => P.underlying t = some .string
def TOK (P : Program) (tt : TypeId → Option TI) : Prop := ∀ t i, tt t = some i → Tok P t i

section types
variable {P : Program} {t : TypeId} {i : TI}
theorem Tok.size (h : Tok P t i) : (P.info? t).map (·.size) = some i.size := by
  have := h.1
  cases hq : P.info? t <;> simp_all
theorem Tok.info (h : Tok P t i) : ∃ x, P.info? t = some x ∧ x.zero = some i.zero ∧ x.size = i.size ∧ x.bytes = i.bytes := by
  have := h.1
  cases hq : P.info? t with
  | none => simp [hq] at this
  | some x => simp [hq] at this; exact ⟨x, rfl, this⟩
theorem Tok.under (h : Tok P t i) : ∃ d, P.underlying t = some d ∧ d.isRow = i.row := by
  have := h.2
  cases i with
  | sl e => exact ⟨_, this, rfl⟩
  | st n b fs z => obtain ⟨_, _, fa, h, _⟩ := this; exact ⟨_, h, rfl⟩
  | sc b z => exact this.2
  | ik k b => exact ⟨_, this, rfl⟩
  | bl => exact ⟨_, this, rfl⟩
  | str => exact ⟨_, this, rfl⟩
theorem run_typeInfo_tok (h : Tok P t i) (w : World) : ∃ x, (typeInfo t).run P w = .ok x w ∧ x.zero = some i.zero ∧ x.size = i.size ∧ x.bytes = i.bytes := by
  obtain ⟨x, h1, h2⟩ := h.info
  exact ⟨x, by simp [typeInfo, h1], h2⟩
theorem run_sizeOf_tok (h : Tok P t i) (w : World) : (sizeOf t).run P w = .ok i.size w := by
  obtain ⟨x, h1, h2, h3, h4⟩ := run_typeInfo_tok h w
  simp [sizeOf, h1, h3]
theorem run_zeroValue_tok (h : Tok P t i) (w : World) : (zeroValue t).run P w = .ok i.zero w := by
  obtain ⟨x, h1, h2, h3, h4⟩ := run_typeInfo_tok h w
  simp [zeroValue, h1, h2]
theorem run_isAgg_tok (h : Tok P t i) (w : World) : (isAgg t).run P w = .ok i.row w := by
  obtain ⟨d, h1, h2⟩ := h.under
  simp only [isAgg, Sem.run_bind, run_underlying h1 w, Result.andThen_ok]
  cases d <;> simp_all
theorem run_loadVar_row' (h : Tok P t i) (hr : i.row = true) (w : World) (b o : Nat) (cs : List Value) (hl : cs.length = i.size) (hc : w.rangeAt b o cs) :
    (loadVar t ⟨b, o, none⟩).run P w = .ok (.agg cs.toArray) w := by
  obtain ⟨d, h1, h2⟩ := h.under
  exact run_loadVar_mid w b o t cs d hc h1 (by rw [h2, hr]) (by rw [h.size, hl])
theorem run_loadVar_one (h : Tok P t i) (hr : i.row = false) (w : World) (b o : Nat) (v : Value) (hc : w.cell? ⟨b, o, none⟩ = some v) :
    (loadVar t ⟨b, o, none⟩).run P w = .ok v w := by
  simp [loadVar, run_isAgg_tok h w, hr, Sem.run, load, hc]
end types

/-! ### The state -/
def lk {α : Type} : List (Nat × α) → Nat → Option α
  | [], _ => none
  | (j, x) :: r, k => if j = k then some x else lk r k
def ins {α : Type} (t : Nat) (x : α) : List (Nat × α) → List (Nat × α)
  | [] => [(t, x)]
  | (j, y) :: r => if j = t then (t, x) :: r else (j, y) :: ins t x r
def del {α : Type} (p : Nat → Bool) : List (Nat × α) → List (Nat × α)
  | [] => []
  | (j, y) :: r => if p j then del p r else (j, y) :: del p r
theorem lk_ins {α : Type} (t k : Nat) (x : α) (l : List (Nat × α)) : lk (ins t x l) k = if t = k then some x else lk l k := by
  induction l with
  | nil => simp [ins, lk]
  | cons p r ih =>
    obtain ⟨j, y⟩ := p
    simp only [ins]
    split
    · rename_i h; subst h; simp only [lk]; split <;> rfl
    · rename_i h
      simp only [lk, ih]
      by_cases hj : j = k
      · subst hj; rw [if_pos rfl, if_neg (fun e => h e.symm), if_pos rfl]
      · rw [if_neg hj, if_neg hj]
theorem lk_del {α : Type} (p : Nat → Bool) (k : Nat) (l : List (Nat × α)) : lk (del p l) k = if p k then none else lk l k := by
  induction l with
  | nil => simp [del, lk]
  | cons q r ih =>
    obtain ⟨j, y⟩ := q
    simp only [del]
    split
    · rename_i h
      rw [ih]
      simp only [lk]
      by_cases e : j = k
      · subst e; simp [h]
      · simp [e]
    · rename_i h
      simp only [lk, ih]
      by_cases e : j = k
      · subst e; simp [h]
      · simp [e]
theorem lk_map {α β : Type} (f : α → β) (k : Nat) (l : List (Nat × α)) : lk (l.map fun p => (p.1, f p.2)) k = (lk l k).map f := by
  induction l with
  | nil => rfl
  | cons p r ih =>
    obtain ⟨j, y⟩ := p
    simp only [List.map_cons, lk, ih]
    split <;> rfl

mutual
/-- What refers to a name of p is written anew by g. -/
def AV.sub (p : Nat → Bool) (g : AV → AV) : AV → AV
  | .un => .un
  | .d x => .d x
  | .bs sz es => .bs sz es
  | .cp sz es => .cp sz es
  | .bp cs => .bp cs
  | .pt i o => if p i then g (.pt i o) else .pt i o
  | .pe i sz k o => if p i then g (.pe i sz k o) else .pe i sz k o
  | .ms i sz o n => if p i then g (.ms i sz o n) else .ms i sz o n
  | .cl f caps => .cl f (AV.subL p g caps)
  | .ag cs => .ag (AV.subL p g cs)
  | .tp cs => .tp (AV.subL p g cs)
def AV.subL (p : Nat → Bool) (g : AV → AV) : List AV → List AV
  | [] => []
  | x :: r => x.sub p g :: AV.subL p g r
end
def Ob.sub (p : Nat → Bool) (g : AV → AV) : Ob → Ob
  | .var cs => .var (AV.subL p g cs)
  | .arr sz es => .arr sz es
inductive AV.leafAt (p : Nat → Bool) : AV → Prop
  | pt (i o : Nat) : p i = true → AV.leafAt p (.pt i o)
  | pe (i sz k o : Nat) : p i = true → AV.leafAt p (.pe i sz k o)
  | ms (i sz o n : Nat) : p i = true → AV.leafAt p (.ms i sz o n)

structure StepX (p : Nat → Bool) (ι : Nat → Option Nat) (F : Nat → Nat → Prop) (base : Nat) (w : World) (ι' : Nat → Option Nat) (F' : Nat → Nat → Prop) (base' : Nat) (w' : World) : Prop where
  prot : ∀ b o x, Prot F w b o x → Prot F' w' b o x
  rdb : ∀ b o x, Rdb F base w b o x → Rdb F' base' w' b o x
  ids : ∀ j b, p j = false → ι j = some b → ι' j = some b
  room : ∀ j b n, p j = false → ι j = some b → Room w b n → Room w' b n
section sub
variable {F F' : Nat → Nat → Prop} {w w' : World} {ι ι' : Nat → Option Nat} {base base' : Nat} {p : Nat → Bool} {g : AV → AV}
mutual
theorem RepA.sub (s : StepX p ι F base w ι' F' base' w') (hg : ∀ x y, AV.leafAt p x → RepA ι F base w x y → RepA ι' F' base' w' (g x) y) :
    ∀ (x : AV) (y : Value), RepA ι F base w x y → RepA ι' F' base' w' (x.sub p g) y
  | .un, _, _ => trivial
  | .d x, y, h => RepD.mono s.prot x y h
  | .bs sz es, y, h => by
    obtain ⟨a, cap, b, o, e, h1, h2, h3⟩ := h
    exact ⟨a, cap, b, o, e, h1, h2, RepEs.mono s.prot (s.rdb b) sz es o h3⟩
  | .cp sz es, y, h => by
    obtain ⟨a, b, o, e, h2, h3⟩ := h
    exact ⟨a, b, o, e, h2, RepEs.mono s.prot (s.rdb b) sz es o h3⟩
  | .bp cs, y, h => by
    obtain ⟨b, o, e, h3⟩ := h
    exact ⟨b, o, e, RepCs.mono s.prot (s.rdb b) cs o h3⟩
  | .pt i off, y, h => by
    unfold AV.sub
    split
    · rename_i e; exact hg _ _ (.pt _ _ e) h
    · rename_i e; replace e := Bool.eq_false_iff.2 e; obtain ⟨b, h1, h2⟩ := h; exact ⟨b, s.ids _ _ e h1, h2⟩
  | .pe i sz k off, y, h => by
    unfold AV.sub
    split
    · rename_i e; exact hg _ _ (.pe _ _ _ _ e) h
    · rename_i e; replace e := Bool.eq_false_iff.2 e; obtain ⟨b, h1, h2⟩ := h; exact ⟨b, s.ids _ _ e h1, h2⟩
  | .ms i sz off len, y, h => by
    unfold AV.sub
    split
    · rename_i e; exact hg _ _ (.ms _ _ _ _ e) h
    · rename_i e
      replace e := Bool.eq_false_iff.2 e
      rcases h with ⟨b, cap, h0, h1, h2, h3⟩ | h
      · exact .inl ⟨b, cap, s.ids _ _ e h0, h1, h2, s.room _ _ _ e h0 h3⟩
      · exact .inr h
  | .cl f caps, y, h => by
    obtain ⟨vs, e, h⟩ := h
    exact ⟨vs, e, RepL.sub s hg caps vs h⟩
  | .ag cs, y, h => by
    obtain ⟨vs, e, h⟩ := h
    exact ⟨vs, e, RepL.sub s hg cs vs h⟩
  | .tp cs, y, h => by
    obtain ⟨vs, e, h⟩ := h
    exact ⟨vs, e, RepL.sub s hg cs vs h⟩
theorem RepL.sub (s : StepX p ι F base w ι' F' base' w') (hg : ∀ x y, AV.leafAt p x → RepA ι F base w x y → RepA ι' F' base' w' (g x) y) :
    ∀ (l : List AV) (ys : List Value), RepL ι F base w l ys → RepL ι' F' base' w' (AV.subL p g l) ys
  | [], _, h => h
  | x :: r, vs, h => by
    obtain ⟨y, ys, e, h1, h2⟩ := h
    exact ⟨y, ys, e, RepA.sub s hg x y h1, RepL.sub s hg r ys h2⟩
end
end sub

def ObOk (ι : Nat → Option Nat) (F : Nat → Nat → Prop) (base : Nat) (w : World) (b : Nat) : Ob → Prop
  | .var cs => ∃ c T, w.heap[b]? = some (.cells c T (0, 0)) ∧ RepL ι F base w cs c.toList
  | .arr sz es => ∃ c T, w.heap[b]? = some (.cells c T (0, 0)) ∧ RepEs F w (fun o y => c[o]? = some y) sz es 0 ∧ es.length * sz ≤ c.size
def FF (F0 : Nat → Nat → Prop) (ι : Nat → Option Nat) (b o : Nat) : Prop := F0 b o ∨ ∃ id, ι id = some b

structure Core (n base : Nat) (w0 : World) (F0 : Nat → Nat → Prop) (ι : Nat → Option Nat) (full : Nat → Option Ob) (ev : Nat → AV) (a : Act) (w : World) : Prop where
  below : Below base w0 w
  lowF : ∀ b o, F0 b o → b < base
  size : base ≤ w.heap.size
  inj : ∀ i j b, ι i = some b → ι j = some b → i = j
  low : ∀ i b, ι i = some b → base ≤ b ∧ b < w.heap.size
  obs : ∀ i b, ι i = some b → ∃ o, full i = some o ∧ ObOk ι (FF F0 ι) base w b o
  tms : ∀ t, RepA ι (FF F0 ι) base w (ev t) (a.tmps.getD t undef)
  dfs : a.defers = []
  nt : a.tmps.size = n

structure St where
  nt : Nat
  tm : List (Nat × AV)
  ob : List (Nat × Ob)
def St.get (s : St) (t : Nat) : AV := (lk s.tm t).getD .un
def St.put (s : St) (d : Option Nat) (x : AV) : St := match d with | some d => { s with tm := ins d x s.tm } | none => s
def evO (ev : Nat → AV) : Operand → AV
  | .tmp t => ev t
  | .const v => .d (.v v)
  | .func f => .cl f []
  | .global _ => .un

def RS (base : Nat) (w0 : World) (F0 : Nat → Nat → Prop) (s : St) (a : Act) (w : World) : Prop :=
  ∃ ι, Core s.nt base w0 F0 ι (lk s.ob) s.get a w ∧ ∀ i o, lk s.ob i = some o → (ι i).isSome = true ∨ ∃ sz, o = .arr sz []

section core
variable {n base : Nat} {w0 : World} {F0 : Nat → Nat → Prop} {ι : Nat → Option Nat} {full : Nat → Option Ob} {ev : Nat → AV} {a : Act} {w : World}
theorem Core.evO (h : Core n base w0 F0 ι full ev a w) (x : Operand) : RepA ι (FF F0 ι) base w (evO ev x) (a.eval x) := by
  cases x with
  | tmp t => exact h.tms t
  | const v => exact rfl
  | func f => exact ⟨[], rfl, rfl⟩
  | global g => trivial
theorem getD_set (l : Array Value) (d t : Nat) (v : Value) (hd : d < l.size) : (l.setIfInBounds d v).getD t undef = if t = d then v else l.getD t undef := by
  simp only [Array.getD_eq_getD_getElem?, Array.getElem?_setIfInBounds]
  by_cases h : d = t
  · subst h; simp [hd]
  · rw [if_neg h, if_neg (fun e => h e.symm)]
theorem Core.put (h : Core n base w0 F0 ι full ev a w) {d : Nat} (hd : d < n) {x : AV} {v : Value} (hx : RepA ι (FF F0 ι) base w x v) :
    Core n base w0 F0 ι full (fun t => if t = d then x else ev t) (a.put (some d) v) w where
  below := h.below
  lowF := h.lowF
  size := h.size
  inj := h.inj
  low := h.low
  obs := h.obs
  tms t := by
    show RepA ι (FF F0 ι) base w _ ((a.tmps.setIfInBounds d v).getD t undef)
    rw [getD_set _ _ _ _ (by rw [h.nt]; exact hd)]
    by_cases e : t = d
    · subst e; simpa using hx
    · simpa [e] using h.tms t
  dfs := h.dfs
  nt := by simpa [Act.put] using h.nt
theorem Core.drew (h : Core n base w0 F0 ι full ev a w) : Core n base w0 F0 ι full ev a { w with drawn := w.drawn + 1 } where
  below := ⟨h.below.os, h.below.tape, h.below.output, h.below.size, h.below.block⟩
  lowF := h.lowF
  size := h.size
  inj := h.inj
  low := h.low
  obs i b hi := by
    obtain ⟨o, h1, h2⟩ := h.obs i b hi
    have s : Step ι (FF F0 ι) base w ι (FF F0 ι) base { w with drawn := w.drawn + 1 } := ⟨fun _ _ _ h => h, fun _ _ _ h => h, fun _ _ h => h, fun _ _ _ _ h => h⟩
    refine ⟨o, h1, ?_⟩
    cases o with
    | var cs => obtain ⟨c, T, e, h3⟩ := h2; exact ⟨c, T, e, RepL.mono s _ _ h3⟩
    | arr sz es => obtain ⟨c, T, e, h3, h4⟩ := h2; exact ⟨c, T, e, RepEs.mono s.prot (fun _ _ h => h) _ _ _ h3, h4⟩
  tms t := by
    have s : Step ι (FF F0 ι) base w ι (FF F0 ι) base { w with drawn := w.drawn + 1 } := ⟨fun _ _ _ h => h, fun _ _ _ h => h, fun _ _ h => h, fun _ _ _ _ h => h⟩
    exact RepA.mono s _ _ (h.tms t)
  dfs := h.dfs
  nt := h.nt
end core
end Go.Proofs.Ab

namespace Go.Proofs.Ab
open Go Go.RowKit
set_option linter.unusedVariables false
set_option linter.unusedSimpArgs false

theorem cell_heap {w w' : World} {b : Nat} (h : w'.heap[b]? = w.heap[b]?) (o : Nat) : w'.cell? ⟨b, o, none⟩ = w.cell? ⟨b, o, none⟩ := by
  simp [World.cell?, h]
theorem cell_lt {w : World} {b o : Nat} {x : Value} (h : w.cell? ⟨b, o, none⟩ = some x) : b < w.heap.size := World.block_lt_of_cell? w ⟨b, o, none⟩ h
theorem cell_of {w : World} {b o : Nat} {c : Array Value} {T : TypeId} {fz : Nat × Nat} (h : w.heap[b]? = some (.cells c T fz)) : w.cell? ⟨b, o, none⟩ = c[o]? := by
  simp [World.cell?, h]
theorem room_lt {w : World} {b n : Nat} (h : Room w b n) : b < w.heap.size := by
  obtain ⟨c, T, h, _⟩ := h
  exact (Array.getElem?_eq_some_iff.1 h).1

section
variable {n base : Nat} {w0 : World} {F0 : Nat → Nat → Prop} {ι : Nat → Option Nat} {full : Nat → Option Ob} {ev : Nat → AV} {a : Act} {w w' : World}

/-- Blocks that were there stand as they were. -/
theorem Step.below (F : Nat → Nat → Prop) (hb : Below w.heap.size w w') : Step ι F base w ι F base w' where
  prot b o x h := ⟨(cell_heap (hb.block b (cell_lt h.1)) o).trans h.1, h.2⟩
  rdb b o x h := ⟨(cell_heap (hb.block b (cell_lt h.1)) o).trans h.1, h.2⟩
  ids _ _ h := h
  room i b n h1 h2 := by
    have := room_lt h2
    obtain ⟨c, T, h, h3⟩ := h2
    exact ⟨c, T, (hb.block b this).trans h, h3⟩
theorem ObOk.mono {ι' : Nat → Option Nat} {F F' : Nat → Nat → Prop} {base' : Nat} {b : Nat} {o : Ob} (s : Step ι F base w ι' F' base' w') (hh : w'.heap[b]? = w.heap[b]?) (h : ObOk ι F base w b o) : ObOk ι' F' base' w' b o := by
  cases o with
  | var cs => obtain ⟨c, T, e, h⟩ := h; exact ⟨c, T, hh.trans e, RepL.mono s _ _ h⟩
  | arr sz es => obtain ⟨c, T, e, h, h3⟩ := h; exact ⟨c, T, hh.trans e, RepEs.mono s.prot (fun _ _ h => h) _ _ _ h, h3⟩
theorem Core.later (h : Core n base w0 F0 ι full ev a w) (hb : Below w.heap.size w w') : Core n base w0 F0 ι full ev a w' where
  below := h.below.trans (hb.mono h.size)
  lowF := h.lowF
  size := Nat.le_trans h.size hb.size
  inj := h.inj
  low i b hi := ⟨(h.low i b hi).1, Nat.lt_of_lt_of_le (h.low i b hi).2 hb.size⟩
  obs i b hi := by
    obtain ⟨o, h1, h2⟩ := h.obs i b hi
    exact ⟨o, h1, h2.mono (Step.below _ hb) (hb.block b (h.low i b hi).2)⟩
  tms t := RepA.mono (Step.below _ hb) _ _ (h.tms t)
  dfs := h.dfs
  nt := h.nt

def ObNew (ι : Nat → Option Nat) (F : Nat → Nat → Prop) (base : Nat) (w : World) (c : Array Value) : Ob → Prop
  | .var cs => RepL ι F base w cs c.toList
  | .arr sz es => RepEs F w (fun o y => c[o]? = some y) sz es 0 ∧ es.length * sz ≤ c.size
def upd (ι : Nat → Option Nat) (d b : Nat) : Nat → Option Nat := fun j => if j = d then some b else ι j
/-- A new block, named d. -/
theorem Step.new (h : Core n base w0 F0 ι full ev a w) {d : Nat} (hd : ι d = none) (ob : Obj) : Step ι (FF F0 ι) base w (upd ι d w.heap.size) (FF F0 (upd ι d w.heap.size)) base (w.alloc ob) where
  prot b o x hp := by
    have hlt := cell_lt hp.1
    refine ⟨(cell_heap (Below.heap_alloc w ob b hlt) o).trans hp.1, ?_⟩
    rintro (hf | ⟨j, hj⟩)
    · exact hp.2 (.inl hf)
    · unfold upd at hj
      split at hj
      · injection hj with e; omega
      · exact hp.2 (.inr ⟨j, hj⟩)
  rdb b o x hp := by
    have hlt := cell_lt hp.1
    refine ⟨(cell_heap (Below.heap_alloc w ob b hlt) o).trans hp.1, ?_⟩
    rcases hp.2 with hn | hn
    · refine .inl ?_
      rintro (hf | ⟨j, hj⟩)
      · exact hn (.inl hf)
      · unfold upd at hj
        split at hj
        · injection hj with e; omega
        · exact hn (.inr ⟨j, hj⟩)
    · exact .inr hn
  ids j b hj := by
    unfold upd
    split
    · rename_i e; subst e; rw [hd] at hj; cases hj
    · exact hj
  room i b n h1 h2 := by
    have := room_lt h2
    obtain ⟨c, T, h, h3⟩ := h2
    exact ⟨c, T, (Below.heap_alloc w ob b this).trans h, h3⟩
theorem heap_alloc_new (w : World) (ob : Obj) : (w.alloc ob).heap[w.heap.size]? = some ob := by
  show (w.heap.push ob)[w.heap.size]? = _
  simp
/-- What the new block holds reads in the new world. -/
theorem Core.new (h : Core n base w0 F0 ι full ev a w) {d : Nat} (hd : ι d = none) (hdn : d < n) {c : Array Value} {T : TypeId} {o : Ob} {full' : Nat → Option Ob} {x : AV} {v : Value}
    (hf : ∀ j b, ι j = some b → full' j = full j) (hfd : full' d = some o)
    (ho : ObNew ι (FF F0 ι) base w c o)
    (hx : RepA (upd ι d w.heap.size) (FF F0 (upd ι d w.heap.size)) base (w.alloc (.cells c T)) x v) :
    Core n base w0 F0 (upd ι d w.heap.size) full' (fun t => if t = d then x else ev t) (a.put (some d) v) (w.alloc (.cells c T)) := by
  have s := Step.new h hd (.cells c T)
  have h1 : Core n base w0 F0 (upd ι d w.heap.size) full' ev a (w.alloc (.cells c T)) := {
    below := h.below.alloc h.size _
    lowF := h.lowF
    size := by have := h.size; simp; omega
    inj := by
      intro i j b hi hj
      unfold upd at hi hj
      split at hi <;> split at hj
      · rename_i e1 e2; rw [e1, e2]
      · injection hi with e; subst e; have := (h.low _ _ hj).2; omega
      · injection hj with e; subst e; have := (h.low _ _ hi).2; omega
      · exact h.inj i j b hi hj
    low := by
      intro i b hi
      unfold upd at hi
      split at hi
      · injection hi with e; subst e; have := h.size; simp; omega
      · have := h.low i b hi; simp; omega
    obs := by
      intro i b hi
      unfold upd at hi
      split at hi
      · rename_i e
        injection hi with e'
        subst e; subst e'
        refine ⟨o, hfd, ?_⟩
        cases o with
        | var cs => exact ⟨c, T, heap_alloc_new w _, RepL.mono s _ _ ho⟩
        | arr sz es => exact ⟨c, T, heap_alloc_new w _, RepEs.mono s.prot (fun _ _ h => h) _ _ _ ho.1, ho.2⟩
      · obtain ⟨o', h1, h2⟩ := h.obs i b hi
        exact ⟨o', (hf i b hi).trans h1, h2.mono s (Below.heap_alloc w _ b (h.low i b hi).2)⟩
    tms := fun t => RepA.mono s _ _ (h.tms t)
    dfs := h.dfs
    nt := h.nt }
  exact h1.put hdn hx
end

/-! ### Reading lists -/
section reads
variable {F : Nat → Nat → Prop} {w : World} {pr : Nat → Value → Prop}
theorem RepCs.at {l : List D} {o : Nat} (h : RepCs F w pr l o) : ∀ (j : Nat) (x : D), l[j]? = some x → ∃ y, pr (o + j) y ∧ RepD F w x y := by
  induction l generalizing o with
  | nil => intro j x hx; simp at hx
  | cons z r ih =>
    intro j x hx
    obtain ⟨h1, h2⟩ := h
    cases j with
    | zero => simp at hx; subst hx; simpa using h1.2
    | succ j =>
      obtain ⟨y, h3, h4⟩ := ih h2 j x (by simpa using hx)
      exact ⟨y, by rw [show o + (j + 1) = o + 1 + j by omega]; exact h3, h4⟩
theorem RepEs.at {sz : Nat} {es : List (List D)} {o : Nat} (h : RepEs F w pr sz es o) : ∀ (i : Nat) (e : List D), es[i]? = some e → e.length = sz ∧ RepCs F w pr e (o + i * sz) := by
  induction es generalizing o with
  | nil => intro i e he; simp at he
  | cons z r ih =>
    intro i e he
    obtain ⟨h1, h2, h3⟩ := h
    cases i with
    | zero => simp at he; subst he; exact ⟨h1, by simpa using h2⟩
    | succ i =>
      have := ih h3 i e (by simpa using he)
      refine ⟨this.1, ?_⟩
      have h4 := this.2
      rw [show o + sz + i * sz = o + (i + 1) * sz by rw [Nat.add_mul]; omega] at h4
      exact h4
theorem RepCs.drop {l : List D} {o : Nat} (h : RepCs F w pr l o) (k : Nat) : RepCs F w pr (l.drop k) (o + k) := by
  induction l generalizing o k with
  | nil => simp [RepCs]
  | cons z r ih =>
    cases k with
    | zero => simpa using h
    | succ k =>
      have := ih h.2 k
      rw [show o + 1 + k = o + (k + 1) by omega] at this
      simpa using this
theorem RepCs.take {l : List D} {o : Nat} (h : RepCs F w pr l o) (k : Nat) : RepCs F w pr (l.take k) o := by
  induction l generalizing o k with
  | nil => simp [RepCs]
  | cons z r ih =>
    cases k with
    | zero => simp [RepCs]
    | succ k => exact ⟨h.1, ih h.2 k⟩
theorem RepEs.drop {sz : Nat} {es : List (List D)} {o : Nat} (h : RepEs F w pr sz es o) (k : Nat) : RepEs F w pr sz (es.drop k) (o + k * sz) := by
  induction es generalizing o k with
  | nil => simp [RepEs]
  | cons z r ih =>
    cases k with
    | zero => simpa using h
    | succ k =>
      have := ih h.2.2 k
      rw [show o + sz + k * sz = o + (k + 1) * sz by rw [Nat.add_mul]; omega] at this
      simpa using this
theorem RepEs.take {sz : Nat} {es : List (List D)} {o : Nat} (h : RepEs F w pr sz es o) (k : Nat) : RepEs F w pr sz (es.take k) o := by
  induction es generalizing o k with
  | nil => simp [RepEs]
  | cons z r ih =>
    cases k with
    | zero => simp [RepEs]
    | succ k => exact ⟨h.1, h.2.1, ih h.2.2 k⟩
theorem RepEs.append {sz : Nat} {es fs : List (List D)} {o : Nat} (h : RepEs F w pr sz es o) (h' : RepEs F w pr sz fs (o + es.length * sz)) : RepEs F w pr sz (es ++ fs) o := by
  induction es generalizing o with
  | nil => simpa using h'
  | cons z r ih =>
    refine ⟨h.1, h.2.1, ih h.2.2 ?_⟩
    rw [show o + sz + r.length * sz = o + (z :: r).length * sz by rw [List.length_cons, Nat.add_mul]; omega]
    exact h'
/-- The cells' values, as a list. -/
theorem RepCs.vals {l : List D} {o : Nat} (h : RepCs F w pr l o) (ι : Nat → Option Nat) (base : Nat) : ∃ vs : List Value, vs.length = l.length ∧ (∀ j v, vs[j]? = some v → pr (o + j) v) ∧ RepL ι F base w (l.map .d) vs := by
  induction l generalizing o with
  | nil => exact ⟨[], rfl, by simp, rfl⟩
  | cons z r ih =>
    obtain ⟨⟨h0, y, h1, h2⟩, h3⟩ := h
    obtain ⟨vs, e1, e2, e3⟩ := ih h3
    refine ⟨y :: vs, by simp [e1], ?_, y, vs, rfl, h2, e3⟩
    intro j v hj
    cases j with
    | zero => simp at hj; subst hj; simpa using h1
    | succ j => rw [show o + (j + 1) = o + 1 + j by omega]; exact e2 j v (by simpa using hj)
end reads
theorem RepL.length {ι : Nat → Option Nat} {F : Nat → Nat → Prop} {base : Nat} {w : World} {l : List AV} {vs : List Value} (h : RepL ι F base w l vs) : vs.length = l.length := by
  induction l generalizing vs with
  | nil => rw [h]; simp
  | cons x r ih => obtain ⟨y, ys, rfl, _, h2⟩ := h; simp [ih h2]
theorem RepL.at {ι : Nat → Option Nat} {F : Nat → Nat → Prop} {base : Nat} {w : World} {l : List AV} {vs : List Value} (h : RepL ι F base w l vs) : ∀ (j : Nat) (x : AV), l[j]? = some x → ∃ y, vs[j]? = some y ∧ RepA ι F base w x y := by
  induction l generalizing vs with
  | nil => intro j x hx; simp at hx
  | cons z r ih =>
    obtain ⟨y, ys, rfl, h1, h2⟩ := h
    intro j x hx
    cases j with
    | zero => simp at hx; subst hx; exact ⟨y, rfl, h1⟩
    | succ j => simpa using ih h2 j x (by simpa using hx)
theorem RepL.drop {ι : Nat → Option Nat} {F : Nat → Nat → Prop} {base : Nat} {w : World} {l : List AV} {vs : List Value} (h : RepL ι F base w l vs) (k : Nat) : RepL ι F base w (l.drop k) (vs.drop k) := by
  induction l generalizing vs k with
  | nil => rw [h]; simp [RepL]
  | cons z r ih =>
    obtain ⟨y, ys, rfl, h1, h2⟩ := h
    cases k with
    | zero => exact ⟨y, ys, rfl, h1, h2⟩
    | succ k => simpa using ih h2 k
theorem RepL.take {ι : Nat → Option Nat} {F : Nat → Nat → Prop} {base : Nat} {w : World} {l : List AV} {vs : List Value} (h : RepL ι F base w l vs) (k : Nat) : RepL ι F base w (l.take k) (vs.take k) := by
  induction l generalizing vs k with
  | nil => rw [h]; simp [RepL]
  | cons z r ih =>
    obtain ⟨y, ys, rfl, h1, h2⟩ := h
    cases k with
    | zero => simp [RepL]
    | succ k => exact ⟨y, ys.take k, by simp, h1, ih h2 k⟩
theorem RepL.append {ι : Nat → Option Nat} {F : Nat → Nat → Prop} {base : Nat} {w : World} {l l' : List AV} {vs vs' : List Value} (h : RepL ι F base w l vs) (h' : RepL ι F base w l' vs') : RepL ι F base w (l ++ l') (vs ++ vs') := by
  induction l generalizing vs with
  | nil => rw [h]; simpa using h'
  | cons z r ih => obtain ⟨y, ys, rfl, h1, h2⟩ := h; exact ⟨y, ys ++ vs', rfl, h1, ih h2⟩
end Go.Proofs.Ab

namespace Go.Proofs.Ab
open Go Go.RowKit
set_option linter.unusedVariables false
set_option linter.unusedSimpArgs false

/-! ### What the operations make of abstract values -/
def AV.int? : AV → Option (IntKind × Int)
  | .d (.v (.int k n)) => some (k, n)
  | _ => none
def AV.cells : AV → Option (List AV)
  | .un => none
  | .tp _ => none
  | .ag cs => some cs
  | .d (.v (.agg a)) => some (a.toList.map fun x => .d (.v x))
  | .d (.v (.tuple _)) => none
  | x => some [x]
def AV.d? : AV → Option D
  | .d x => some x
  | _ => none
def toDs : List AV → Option (List D)
  | [] => some []
  | x :: r => match x.d?, toDs r with
    | some y, some ys => if y.one then some (y :: ys) else none
    | _, _ => none
def pick (i : TI) (l : List AV) : Option AV := if i.row then (if i.size ≤ l.length then some (.ag (l.take i.size)) else none) else l.head?

def loadA (full : Nat → Option Ob) (i : TI) : AV → Option AV
  | .pt id off => match full id with
    | some (.var cs) => pick i (cs.drop off)
    | _ => none
  | .pe id sz k off => match full id with
    | some (.arr sz' es) => if sz = sz' then (match es[k]? with | some e => pick i ((e.drop off).map .d) | none => none) else none
    | _ => none
  | .bp cs => pick i (cs.map .d)
  | .d (.rp cs) => pick i (cs.map .d)
  | _ => none

section
variable {P : Program} {ι : Nat → Option Nat} {F : Nat → Nat → Prop} {base : Nat} {w : World}
/-- Cells in memory that read as abstract values. -/
def CellsAt (ι : Nat → Option Nat) (F : Nat → Nat → Prop) (base : Nat) (w : World) (b o : Nat) (l : List AV) : Prop :=
  ∃ vs : List Value, w.rangeAt b o vs ∧ RepL ι F base w l vs
theorem CellsAt.load {b o : Nat} {l : List AV} (h : CellsAt ι F base w b o l) {t : TypeId} {i : TI} (ht : Tok P t i) {x : AV} (hp : pick i l = some x) :
    ∃ v, (loadVar t ⟨b, o, none⟩).run P w = .ok v w ∧ RepA ι F base w x v := by
  obtain ⟨vs, h1, h2⟩ := h
  unfold pick at hp
  cases hr : i.row with
  | true =>
    rw [hr, if_pos rfl] at hp
    split at hp
    · rename_i hle
      injection hp with hp
      subst hp
      refine ⟨.agg (vs.take i.size).toArray, run_loadVar_row' ht hr w b o _ ?_ ?_, _, rfl, h2.take _⟩
      · rw [List.length_take, h2.length]; omega
      · intro j v hj
        refine h1 j v ?_
        rw [List.getElem?_take] at hj
        split at hj
        · exact hj
        · cases hj
    · cases hp
  | false =>
    rw [hr] at hp
    simp only [Bool.false_eq_true, if_false] at hp
    cases l with
    | nil => simp at hp
    | cons z r =>
      simp at hp
      subst hp
      obtain ⟨y, ys, rfl, h3, _⟩ := h2
      exact ⟨y, run_loadVar_one ht hr w b o y (by have := h1 0 y rfl; simpa using this), h3⟩
theorem CellsAt.of_cs {b o : Nat} {cs : List D} {pr : Nat → Value → Prop} (hp : ∀ o y, pr o y → w.cell? ⟨b, o, none⟩ = some y) (h : RepCs F w pr cs o) : CellsAt ι F base w b o (cs.map .d) := by
  obtain ⟨vs, e1, e2, e3⟩ := h.vals ι base
  exact ⟨vs, fun j v hj => hp _ _ (e2 j v hj), e3⟩
theorem CellsAt.of_var {b o : Nat} {c : Array Value} {T : TypeId} {fz : Nat × Nat} {cs : List AV} (hb : w.heap[b]? = some (.cells c T fz)) (h : RepL ι F base w cs c.toList) : CellsAt ι F base w b o (cs.drop o) := by
  refine ⟨c.toList.drop o, ?_, h.drop o⟩
  intro j v hj
  rw [cell_of hb]
  simpa using hj
end

section ops
variable {P : Program} {n base : Nat} {w0 : World} {F0 : Nat → Nat → Prop} {ι : Nat → Option Nat} {full : Nat → Option Ob} {ev : Nat → AV} {a : Act} {w : World}

theorem loadA_sound (hc : Core n base w0 F0 ι full ev a w) {t : TypeId} {i : TI} (ht : Tok P t i) {x v : AV} {y : Value} (hx : RepA ι (FF F0 ι) base w x y) (h : loadA full i x = some v) :
    ∃ u, (Instr.loadAt t y).run P w = .ok u w ∧ RepA ι (FF F0 ι) base w v u := by
  have key : ∀ b o l, y = .pointer (some ⟨b, o, none⟩) → CellsAt ι (FF F0 ι) base w b o l → pick i l = some v → ∃ u, (Instr.loadAt t y).run P w = .ok u w ∧ RepA ι (FF F0 ι) base w v u := by
    rintro b o l rfl hl hp
    obtain ⟨u, h1, h2⟩ := hl.load ht hp
    exact ⟨u, by simp only [Instr.loadAt, Instr.sureAddr, Sem.run_bind, Sem.run_pure, Result.andThen_ok, h1], h2⟩
  cases x with
  | pt id off =>
    obtain ⟨b, hb, rfl⟩ := hx
    obtain ⟨o, ho, hob⟩ := hc.obs id b hb
    simp only [loadA, ho] at h
    cases o with
    | var cs =>
      obtain ⟨c, T, e, hl⟩ := hob
      exact key b off _ rfl (CellsAt.of_var e hl) h
    | arr sz es => simp at h
  | pe id sz k off =>
    obtain ⟨b, hb, rfl⟩ := hx
    obtain ⟨o, ho, hob⟩ := hc.obs id b hb
    simp only [loadA, ho] at h
    cases o with
    | var cs => simp at h
    | arr sz' es =>
      simp only at h
      split at h
      · rename_i hsz
        subst hsz
        cases he : es[k]? with
        | none => rw [he] at h; simp at h
        | some e =>
          rw [he] at h
          obtain ⟨c, T, eh, hl, _⟩ := hob
          have h2 := (hl.at k e he).2.drop off
          rw [Nat.zero_add] at h2
          refine key b _ _ rfl (CellsAt.of_cs (fun o y hy => ?_) h2) h
          rw [cell_of eh]; exact hy
      · cases h
  | bp cs =>
    obtain ⟨b, o, rfl, hl⟩ := hx
    exact key b o _ rfl (CellsAt.of_cs (fun o y hy => hy.1) hl) h
  | d x =>
    cases x with
    | rp cs =>
      obtain ⟨b, o, rfl, hl⟩ := hx
      exact key b o _ rfl (CellsAt.of_cs (fun o y hy => hy.1) hl) h
    | _ => simp [loadA] at h
  | _ => simp [loadA] at h

/-! fields -/
def fieldA (tt : TypeId → Option TI) (i : TI) (f : Nat) : Option (Nat × TI) :=
  match i with
  | .st _ _ fs _ => match fs[f]? with
    | some (off, ft) => match tt ft with
      | some fi => if fi.size = 0 then none else some (off, fi)
      | none => none
    | none => none
  | _ => none
def fieldAddrA (off : Nat) : AV → Option AV
  | .pt id o => some (.pt id (o + off))
  | .pe id sz k o => some (.pe id sz k (o + off))
  | .bp cs => some (.bp (cs.drop off))
  | .d (.rp cs) => some (.d (.rp (cs.drop off)))
  | _ => none
theorem fieldA_spec {tt : TypeId → Option TI} (htt : TOK P tt) {t : TypeId} {i : TI} (ht : Tok P t i) {f off : Nat} {fi : TI} (h : fieldA tt i f = some (off, fi)) :
    ∃ (fa : Array Field) (fd : Field), P.underlying t = some (.struct fa) ∧ fa[f]? = some fd ∧ fd.offset = off ∧ Tok P fd.type fi ∧ fi.size ≠ 0 := by
  unfold fieldA at h
  cases i with
  | st n b fs z =>
    simp only at h
    obtain ⟨_, _, _, fa, hu, hf⟩ := ht
    cases hff : fs[f]? with
    | none => rw [hff] at h; simp at h
    | some p =>
      obtain ⟨o, ft⟩ := p
      rw [hff] at h
      simp only at h
      cases htf : tt ft with
      | none => rw [htf] at h; simp at h
      | some fi' =>
        rw [htf] at h
        simp only at h
        split at h
        · cases h
        · rename_i hz
          injection h with h
          injection h with h1 h2
          subst h1; subst h2
          rw [← hf, List.getElem?_map] at hff
          cases hfd : fa.toList[f]? with
          | none => rw [hfd] at hff; simp at hff
          | some fd =>
            rw [hfd] at hff
            simp at hff
            exact ⟨fa, fd, hu, by simpa using hfd, hff.1, by rw [hff.2]; exact htt _ _ htf, hz⟩
  | _ => simp at h
theorem add_plain (b o k : Nat) : (⟨b, o, none⟩ : Addr).add k = ⟨b, o + k, none⟩ := by unfold Addr.add; split <;> simp_all
theorem fieldAddrA_sound {tt : TypeId → Option TI} (htt : TOK P tt) {t : TypeId} {i : TI} (ht : Tok P t i) {f off : Nat} {fi : TI} (h : fieldA tt i f = some (off, fi)) {x v : AV} {y : Value}
    (hx : RepA ι (FF F0 ι) base w x y) (hv : fieldAddrA off x = some v) : ∃ u, (Instr.fieldAt t y f).run P w = .ok u w ∧ RepA ι (FF F0 ι) base w v u := by
  obtain ⟨fa, fd, hu, hf, rfl, htf, hz⟩ := fieldA_spec htt ht h
  have key : ∀ b o, y = .pointer (some ⟨b, o, none⟩) → (Instr.fieldAt t y f).run P w = .ok (.pointer (some ⟨b, o + fd.offset, none⟩)) w := by
    rintro b o rfl
    simp only [Instr.fieldAt, Sem.run_bind, run_underlying hu, Result.andThen_ok, hf, Instr.sureAddr, Sem.run_pure, fieldPlace, run_sizeOf_tok htf, hz, if_false, add_plain]
  cases x with
  | pt id o =>
    obtain ⟨b, hb, rfl⟩ := hx
    simp only [fieldAddrA, Option.some.injEq] at hv; subst hv
    exact ⟨_, key _ _ rfl, b, hb, rfl⟩
  | pe id sz k o =>
    obtain ⟨b, hb, rfl⟩ := hx
    simp only [fieldAddrA, Option.some.injEq] at hv; subst hv
    exact ⟨_, key _ _ rfl, b, hb, by rw [Nat.add_assoc]⟩
  | bp cs =>
    obtain ⟨b, o, rfl, hl⟩ := hx
    simp only [fieldAddrA, Option.some.injEq] at hv; subst hv
    exact ⟨_, key _ _ rfl, b, _, rfl, hl.drop _⟩
  | d x =>
    cases x with
    | rp cs =>
      obtain ⟨b, o, rfl, hl⟩ := hx
      simp only [fieldAddrA, Option.some.injEq] at hv; subst hv
      exact ⟨_, key _ _ rfl, b, _, rfl, hl.drop _⟩
    | _ => simp [fieldAddrA] at hv
  | _ => simp [fieldAddrA] at hv
theorem partA_sound {tt : TypeId → Option TI} (htt : TOK P tt) {t : TypeId} {i : TI} (ht : Tok P t i) {f off : Nat} {fi : TI} (h : fieldA tt i f = some (off, fi)) {cs : List AV} {v : AV} {y : Value}
    (hx : RepA ι (FF F0 ι) base w (.ag cs) y) (hv : pick fi (cs.drop off) = some v) : ∃ u, (Instr.field t y f).run P w = .ok u w ∧ RepA ι (FF F0 ι) base w v u := by
  obtain ⟨fa, fd, hu, hf, rfl, htf, hz⟩ := fieldA_spec htt ht h
  obtain ⟨vs, rfl, hl⟩ := hx
  simp only [Instr.field, Sem.run_bind, run_underlying hu, Result.andThen_ok, hf, asAgg, Sem.run_pure, part, run_isAgg_tok htf]
  unfold pick at hv
  cases hr : fi.row with
  | true =>
    rw [hr, if_pos rfl] at hv
    split at hv
    · injection hv with hv
      subst hv
      refine ⟨.agg (vs.toArray.extract fd.offset (fd.offset + fi.size)), ?_, (vs.drop fd.offset).take fi.size, ?_, (hl.drop _).take _⟩
      · simp only [if_true, Sem.run_bind, run_sizeOf_tok htf, Result.andThen_ok, Sem.run_pure]
      · simp [List.extract_eq_take_drop]
    · cases hv
  | false =>
    rw [hr] at hv
    simp only [Bool.false_eq_true, if_false] at hv
    have h0 : cs[fd.offset]? = some v := by rw [← hv, List.head?_drop]
    obtain ⟨u, h1, h2⟩ := hl.at _ _ h0
    refine ⟨u, ?_, h2⟩
    simp [h1]
end ops
end Go.Proofs.Ab

namespace Go.Proofs.Ab
open Go Go.RowKit
set_option linter.unusedVariables false
set_option linter.unusedSimpArgs false

/-- An element's place. -/
def idxA (sz : Nat) (x : AV) (n : Nat) (K : AV → Prop) : Prop :=
  match x with
  | .ms id sz' off len => sz' = sz ∧ n < len ∧ K (.pe id sz (off + n) 0)
  | .d (.sl sz' es) => sz' = sz ∧ ∃ e, es[n]? = some e ∧ K (.d (.rp e))
  | .bs sz' es => sz' = sz ∧ ∃ e, es[n]? = some e ∧ K (.bp e)
  | .cp sz' es => sz' = sz ∧ ∃ e, es[n]? = some e ∧ K (.bp e)
  | _ => False
def strIdxA (x : AV) (n : Nat) (K : AV → Prop) : Prop :=
  match x with
  | .d (.v (.string s)) => ∃ h : n < s.size, K (.d (.v (.int .u8 (s[n].toNat))))
  | _ => False
def optInt (o : Option AV) (dflt : Nat) (K : Nat → Prop) : Prop :=
  match o with
  | none => K dflt
  | some x => ∃ k n, x.int? = some (k, n) ∧ 0 ≤ n ∧ K n.toNat
def cutL (len : Nat) (lo hi : Option AV) (K : Nat → Nat → Prop) : Prop := optInt hi len fun h => h ≤ len ∧ optInt lo 0 fun l => l ≤ h ∧ K l h
def cutV (x : Value) (lo hi : Option AV) (full : Bool) (K : AV → Prop) : Prop :=
  match x with
  | .string s => full = false ∧ cutL s.size lo hi fun l h => K (.d (.v (.string (s.extract l h))))
  | .slice none 0 0 => cutL 0 lo hi fun l h => K (.d (.v (.slice none 0 0)))
  | _ => False
/-- A cut from l up to h. -/
def cutA (x : AV) (lo hi : Option AV) (full : Bool) (K : AV → Prop) : Prop :=
  match x with
  | .ms id sz off len => cutL len lo hi fun l h => K (.ms id sz (off + l) (h - l))
  | .d y => match y with
    | .v z => cutV z lo hi full K
    | .sl sz es => cutL es.length lo hi fun l h => K (if full then .cp sz ((es.take h).drop l) else .d (.sl sz ((es.take h).drop l)))
    | .rp _ => False
  | .bs sz es => cutL es.length lo hi fun l h => K (if full then .cp sz ((es.take h).drop l) else .bs sz ((es.take h).drop l))
  | .cp sz es => cutL es.length lo hi fun l h => K (if full then .cp sz ((es.take h).drop l) else .bs sz ((es.take h).drop l))
  | _ => False
def AV.sizeOk (sz : Nat) : AV → Prop
  | .ms _ s _ _ => s = sz
  | .d (.sl s _) => s = sz
  | .bs s _ => s = sz
  | .cp s _ => s = sz
  | _ => True
def CutOk (tt : TypeId → Option TI) (i : TI) (x : AV) : Prop :=
  match i with
  | .sl e => (∃ ei, tt e = some ei ∧ AV.sizeOk ei.size x) ∧ ∀ s : ByteArray, x ≠ AV.d (D.v (.string s))
  | .str => ∃ s : ByteArray, x = AV.d (D.v (.string s))
  | _ => False
def intBin (op : BinOp) (k : IntKind) (a b : Int) : Option Value :=
  match op with
  | .add => some (.int k (k.wrap (a + b)))
  | .sub => some (.int k (k.wrap (a - b)))
  | .mul => some (.int k (k.wrap (a * b)))
  | .eql => some (.bool (a == b))
  | .neq => some (.bool (a != b))
  | .lss => some (.bool (a < b))
  | .leq => some (.bool (a ≤ b))
  | .gtr => some (.bool (a > b))
  | .geq => some (.bool (a ≥ b))
  | .shr => if 0 ≤ b ∧ b.toNat ≤ k.bits then some (.int k (a.fdiv (2 ^ b.toNat))) else none
  | _ => none
def strBin (op : BinOp) (a b : ByteArray) : Option Value :=
  match op with
  | .eql => some (.bool (a.toList == b.toList))
  | .neq => some (.bool (!(a.toList == b.toList)))
  | .lss => some (.bool (Op.bytesLess a.toList b.toList))
  | .leq => some (.bool (Op.bytesLess a.toList b.toList || a.toList == b.toList))
  | .gtr => some (.bool (!(Op.bytesLess a.toList b.toList || a.toList == b.toList)))
  | .geq => some (.bool (!(Op.bytesLess a.toList b.toList)))
  | _ => none
def binA (op : BinOp) (x y : AV) (K : AV → Prop) : Prop :=
  match x, y with
  | .d (.v (.int k a)), .d (.v (.int k' b)) => k = k' ∧
    match op with
    | .quo => b ≠ 0 ∧ K (.d (.v (.int k (k.wrap (a.tdiv b)))))
    | .rem => b ≠ 0 ∧ K (.d (.v (.int k (a.tmod b))))
    | _ => ∃ v, intBin op k a b = some v ∧ K (.d (.v v))
  | .d (.v (.string a)), .d (.v (.string b)) =>
    match op with
    | .add => a.size + b.size ≤ 9223372036854775807 ∧ K (.d (.v (.string (a ++ b))))
    | _ => ∃ v, strBin op a b = some v ∧ K (.d (.v v))
  | _, _ => False
/-- Is a slice nil? -/
def nilA (x : AV) (K : Bool → Prop) : Prop :=
  match x with
  | .d (.v (.slice none 0 0)) => K true
  | .d (.sl _ es) => es ≠ [] ∧ K false
  | .bs _ es => es ≠ [] ∧ K false
  | .cp _ es => es ≠ [] ∧ K false
  | .ms _ _ _ len => len ≠ 0 ∧ K false
  | _ => False
def unA (op : UnOp) (x : AV) (K : AV → Prop) : Prop :=
  match op, x with
  | .not, .d (.v (.bool b)) => K (.d (.v (.bool (!b))))
  | .neg, .d (.v (.int k n)) => K (.d (.v (.int k (k.wrap (0 - n)))))
  | _, _ => False
def lenA (x : AV) (K : Nat → Prop) : Prop :=
  match x with
  | .d (.v (.string s)) => K s.size
  | .d (.v (.slice none 0 0)) => K 0
  | .d (.sl _ es) => K es.length
  | .bs _ es => K es.length
  | .cp _ es => K es.length
  | .ms _ _ _ len => K len
  | _ => False

section
variable {P : Program} {n base : Nat} {w0 : World} {F0 : Nat → Nat → Prop} {ι : Nat → Option Nat} {full : Nat → Option Ob} {ev : Nat → AV} {a : Act} {w : World}
theorem AV.int?_spec {x : AV} {k : IntKind} {m : Int} (h : x.int? = some (k, m)) : x = .d (.v (.int k m)) := by
  unfold AV.int? at h
  split at h
  · simp only [Option.some.injEq, Prod.mk.injEq] at h; obtain ⟨rfl, rfl⟩ := h; rfl
  · cases h
theorem run_indexAt_tok {t e : TypeId} {ei : TI} (hu : P.underlying t = some (.slice e)) (he : Tok P e ei) (b o len cap : Nat) (k : IntKind) (m : Int) (h0 : 0 ≤ m) (h1 : m.toNat < len) :
    (Instr.indexAt t (.slice (some ⟨b, o, none⟩) len cap) (.int k m)).run P w = .ok (.pointer (some ⟨b, o + m.toNat * ei.size, none⟩)) w := by
  have : m < (len : Int) := by omega
  simp [Instr.indexAt, run_underlying hu, asIntOf, h0, this, run_sizeOf_tok he, add_plain]
theorem idxA_sound {t e : TypeId} {ei : TI} (hu : P.underlying t = some (.slice e)) (he : Tok P e ei) {x : AV} {y : Value} {k : IntKind} {m : Int} (h0 : 0 ≤ m) {K : AV → Prop}
    (hx : RepA ι (FF F0 ι) base w x y) (h : idxA ei.size x m.toNat K) : ∃ v, K v ∧ ∃ u, (Instr.indexAt t y (.int k m)).run P w = .ok u w ∧ RepA ι (FF F0 ι) base w v u := by
  have low : ∀ {es : List (List D)} {q : List D}, es[m.toNat]? = some q → m.toNat < es.length ∧ es ≠ [] := by
    intro es q hq
    have := (List.getElem?_eq_some_iff.1 hq).1
    exact ⟨this, by rintro rfl; simp at this⟩
  cases x with
  | ms id sz off len =>
    obtain ⟨rfl, hl, hK⟩ := h
    rcases hx with ⟨b, cap, h1, rfl, h2, h3⟩ | ⟨h1, _⟩
    · exact ⟨_, hK, _, run_indexAt_tok hu he b _ len cap k m h0 hl, b, h1, by rw [Nat.add_mul, Nat.add_zero]⟩
    · omega
  | bs sz es =>
    obtain ⟨rfl, q, hq, hK⟩ := h
    obtain ⟨a', cap, b, o, rfl, h1, h2, h3⟩ := hx
    obtain ⟨hl, hne⟩ := low hq
    rw [h2 hne]
    exact ⟨_, hK, _, run_indexAt_tok hu he b o _ cap k m h0 hl, b, _, rfl, (h3.at _ _ hq).2⟩
  | cp sz es =>
    obtain ⟨rfl, q, hq, hK⟩ := h
    obtain ⟨a', b, o, rfl, h2, h3⟩ := hx
    obtain ⟨hl, hne⟩ := low hq
    rw [h2 hne]
    exact ⟨_, hK, _, run_indexAt_tok hu he b o _ _ k m h0 hl, b, _, rfl, (h3.at _ _ hq).2⟩
  | d x =>
    cases x with
    | sl sz es =>
      obtain ⟨rfl, q, hq, hK⟩ := h
      obtain ⟨a', cap, b, o, rfl, h1, h2, h3⟩ := hx
      obtain ⟨hl, hne⟩ := low hq
      rw [h2 hne]
      exact ⟨_, hK, _, run_indexAt_tok hu he b o _ cap k m h0 hl, b, _, rfl, (h3.at _ _ hq).2⟩
    | _ => exact h.elim
  | _ => exact h.elim
theorem strIdxA_sound {t : TypeId} (hu : P.underlying t = some .string) {x : AV} {y : Value} {k : IntKind} {m : Int} (h0 : 0 ≤ m) {K : AV → Prop}
    (hx : RepA ι (FF F0 ι) base w x y) (h : strIdxA x m.toNat K) : ∃ v, K v ∧ ∃ u, (Instr.index t y (.int k m)).run P w = .ok u w ∧ RepA ι (FF F0 ι) base w v u := by
  unfold strIdxA at h
  split at h
  · rename_i s
    obtain ⟨hl, hK⟩ := h
    obtain rfl := hx
    refine ⟨_, hK, _, ?_, rfl⟩
    simp [Instr.index, run_underlying hu, asIntOf, h0, getElem?_pos, hl]
  · exact h.elim
theorem optInt_some {o : Option AV} {d : Nat} {K : Nat → Prop} (h : optInt o d K) : (o = none ∧ K d) ∨ ∃ k m, o = some (.d (.v (.int k m))) ∧ 0 ≤ m ∧ K m.toNat := by
  unfold optInt at h
  split at h
  · exact .inl ⟨rfl, h⟩
  · obtain ⟨k, m, h1, h2, h3⟩ := h
    exact .inr ⟨k, m, by rw [AV.int?_spec h1], h2, h3⟩
/-- The bounds of a cut. -/
theorem run_bounds {isSlice : Bool} {len cap : Nat} (hlc : len ≤ cap) {lo hi : Option AV} {mx : Option Value} {vlo vhi : Option Value} {K : Nat → Nat → Prop}
    (hlo : ∀ x, lo = some x → ∃ y, vlo = some y ∧ RepA ι (FF F0 ι) base w x y) (hlo' : lo = none → vlo = none)
    (hhi : ∀ x, hi = some x → ∃ y, vhi = some y ∧ RepA ι (FF F0 ι) base w x y) (hhi' : hi = none → vhi = none)
    (hmx : mx = none ∨ (mx = vhi ∧ vhi ≠ none))
    (h : cutL len lo hi K) :
    ∃ l h m, (Instr.sliceBounds isSlice len cap vlo vhi mx).run P w = .ok (l, h, m) w ∧ l ≤ h ∧ h ≤ len ∧ h ≤ m ∧ m ≤ cap ∧ (mx ≠ none → m = h) ∧ (mx = none → m = cap) ∧ K l h := by
  unfold cutL at h
  rcases optInt_some h with ⟨rfl, hle, h⟩ | ⟨kh, mh, rfl, hm0, hle, h⟩
  · obtain rfl := hhi' rfl
    have hmx' : mx = none := by rcases hmx with h | h <;> simp_all
    subst hmx'
    rcases optInt_some h with ⟨rfl, hl, h⟩ | ⟨kl, ml, rfl, hl0, hl, h⟩
    · obtain rfl := hlo' rfl
      exact ⟨0, len, cap, by simp [Instr.sliceBounds], hl, Nat.le_refl _, hlc, Nat.le_refl _, by simp, by simp, h⟩
    · obtain ⟨y, rfl, hy⟩ := hlo _ rfl
      obtain rfl := hy
      refine ⟨ml.toNat, len, cap, ?_, hl, Nat.le_refl _, hlc, Nat.le_refl _, by simp, by simp, h⟩
      simp [Instr.sliceBounds, Sem.run_bind, run_sliceBound, hl0, show ml ≤ (len : Int) by omega]
  · obtain ⟨y, rfl, hy⟩ := hhi _ rfl
    obtain rfl := hy
    have hh : mh ≤ (len : Int) := by omega
    have hh' : mh ≤ (cap : Int) := by omega
    have hee : (mh.toNat : Int) = mh := by omega
    rcases hmx with rfl | ⟨rfl, _⟩
    · rcases optInt_some h with ⟨rfl, hl, h⟩ | ⟨kl, ml, rfl, hl0, hl, h⟩
      · obtain rfl := hlo' rfl
        exact ⟨0, mh.toNat, cap, by simp [Instr.sliceBounds, run_sliceBound, hm0, hh'], hl, hle, by omega, Nat.le_refl _, by simp, by simp, h⟩
      · obtain ⟨y, rfl, hy⟩ := hlo _ rfl
        obtain rfl := hy
        refine ⟨ml.toNat, mh.toNat, cap, ?_, hl, hle, by omega, Nat.le_refl _, by simp, by simp, h⟩
        simp [Instr.sliceBounds, run_sliceBound, hm0, hh', hl0, hee, show ml ≤ mh by omega]
    · rcases optInt_some h with ⟨rfl, hl, h⟩ | ⟨kl, ml, rfl, hl0, hl, h⟩
      · obtain rfl := hlo' rfl
        exact ⟨0, mh.toNat, mh.toNat, by simp [Instr.sliceBounds, run_sliceBound, hm0, hh', hee], hl, hle, Nat.le_refl _, by omega, by simp, by simp, h⟩
      · obtain ⟨y, rfl, hy⟩ := hlo _ rfl
        obtain rfl := hy
        refine ⟨ml.toNat, mh.toNat, mh.toNat, ?_, hl, hle, Nat.le_refl _, by omega, by simp, by simp, h⟩
        simp [Instr.sliceBounds, run_sliceBound, hm0, hh', hl0, hee, show ml ≤ mh by omega]
end
end Go.Proofs.Ab

namespace Go.Proofs.Ab
open Go Go.RowKit
set_option linter.unusedVariables false
set_option linter.unusedSimpArgs false

section
variable {P : Program} {n base : Nat} {w0 : World} {F0 : Nat → Nat → Prop} {ι : Nat → Option Nat} {full : Nat → Option Ob} {ev : Nat → AV} {a : Act} {w : World}
theorem run_sliceAt_tok {t e : TypeId} {ei : TI} (hu : P.underlying t = some (.slice e)) (he : Tok P e ei) {A : Option Addr} {len cap l h m : Nat} {vlo vhi vmx : Option Value}
    (hb : (Instr.sliceBounds true len cap vlo vhi vmx).run P w = .ok (l, h, m) w) :
    (Instr.sliceAt t (.slice A len cap) vlo vhi vmx).run P w = .ok (.slice (if m = l then A else A.map (·.add (l * ei.size))) (h - l) (m - l)) w := by
  simp [Instr.sliceAt, run_underlying hu, Instr.slice, hb, run_sizeOf_tok he]
theorem cut_es {F : Nat → Nat → Prop} {pr : Nat → Value → Prop} {es : List (List D)} {sz o l h : Nat} (hl : l ≤ h) (hh : h ≤ es.length) (hr : RepEs F w pr sz es o) :
    ((es.take h).drop l).length = h - l ∧ RepEs F w pr sz ((es.take h).drop l) (o + l * sz) :=
  ⟨by simp; omega, (hr.take h).drop l⟩
theorem cutA_sound {t : TypeId} {i : TI} (ht : Tok P t i) {tt : TypeId → Option TI} (htt : TOK P tt) {x : AV} {y : Value} {lo hi : Option AV} {fl : Bool} {vlo vhi vmx : Option Value} {K : AV → Prop}
    (hi' : CutOk tt i x)
    (hlo : ∀ x, lo = some x → ∃ y, vlo = some y ∧ RepA ι (FF F0 ι) base w x y) (hlo' : lo = none → vlo = none)
    (hhi : ∀ x, hi = some x → ∃ y, vhi = some y ∧ RepA ι (FF F0 ι) base w x y) (hhi' : hi = none → vhi = none)
    (hmx : (fl = false ∧ vmx = none) ∨ (fl = true ∧ vmx = vhi ∧ vhi ≠ none))
    (hx : RepA ι (FF F0 ι) base w x y) (h : cutA x lo hi fl K) : ∃ v, K v ∧ ∃ u, (Instr.sliceAt t y vlo vhi vmx).run P w = .ok u w ∧ RepA ι (FF F0 ι) base w v u := by
  have hmx' : vmx = none ∨ (vmx = vhi ∧ vhi ≠ none) := by rcases hmx with ⟨_, h⟩ | ⟨_, h⟩; exact .inl h; exact .inr h
  cases i with
  | sl e =>
    obtain ⟨⟨ei, he, hsz⟩, hns⟩ := hi'
    have hu : P.underlying t = some (.slice e) := ht.2
    have het := htt _ _ he
    -- a list that is read
    have lists : ∀ (pr : Nat → Nat → Value → Prop) (es : List (List D)) (A : Option Addr) (cap b o : Nat) (K' : Nat → Nat → Prop), y = .slice A es.length cap → es.length ≤ cap → (es ≠ [] → A = some ⟨b, o, none⟩) → RepEs (FF F0 ι) w (pr b) ei.size es o →
        cutL es.length lo hi K' →
        ∃ l h A' cap', K' l h ∧ l ≤ h ∧ h ≤ es.length ∧ (Instr.sliceAt t y vlo vhi vmx).run P w = .ok (.slice A' (h - l) cap') w ∧ h - l ≤ cap' ∧ (fl = true → cap' = h - l) ∧
          ((es.take h).drop l ≠ [] → A' = some ⟨b, o + l * ei.size, none⟩) ∧ RepEs (FF F0 ι) w (pr b) ei.size ((es.take h).drop l) (o + l * ei.size) := by
      intro pr es A cap b o K' hy h1 h2 h3 hK
      obtain ⟨l, h', m, hb, q1, q2, q3, q4, q5, q6, q7⟩ := run_bounds (isSlice := true) (P := P) (cap := cap) (mx := vmx) h1 hlo hlo' hhi hhi' hmx' hK
      subst hy
      obtain ⟨c1, c2⟩ := cut_es q1 q2 h3
      refine ⟨l, h', _, _, q7, q1, q2, run_sliceAt_tok hu het hb, by omega, ?_, ?_, c2⟩
      · intro hf
        rcases hmx with ⟨h, _⟩ | ⟨_, h8, h9⟩
        · rw [hf] at h; cases h
        · rw [q5 (by rw [h8]; exact h9)]
      · intro hne
        have hlt : l < h' := by
          rcases Nat.lt_or_ge l h' with h | h
          · exact h
          · exact absurd (List.eq_nil_of_length_eq_zero (by rw [c1]; omega)) hne
        rw [if_neg (by omega), h2 (by rintro rfl; simp at q2; omega)]
        simp [add_plain]
    cases x with
    | ms id sz off len =>
      obtain rfl : sz = ei.size := hsz
      rcases hx with ⟨b, cap, h1, rfl, h2, h3⟩ | ⟨rfl, A, rfl⟩
      · obtain ⟨l, h', m, hb, q1, q2, q3, q4, q5, q6, q7⟩ := run_bounds (isSlice := true) (P := P) (cap := cap) (mx := vmx) h2 hlo hlo' hhi hhi' hmx' h
        refine ⟨_, q7, _, run_sliceAt_tok hu het hb, ?_⟩
        by_cases e : m = l
        · refine .inr ⟨by omega, ?_⟩
          rw [if_pos e]
          exact ⟨_, by rw [show h' - l = 0 by omega, show m - l = 0 by omega]⟩
        · rw [if_neg e]
          refine .inl ⟨b, m - l, h1, by simp [add_plain, Nat.add_mul], by omega, ?_⟩
          obtain ⟨c, T, hc, hr⟩ := h3
          refine ⟨c, T, hc, Nat.le_trans (Nat.mul_le_mul_right _ ?_) hr⟩
          omega
      · obtain ⟨l, h', m, hb, q1, q2, q3, q4, q5, q6, q7⟩ := run_bounds (isSlice := true) (P := P) (cap := 0) (len := 0) (mx := vmx) (Nat.le_refl _) hlo hlo' hhi hhi' hmx' h
        refine ⟨_, q7, _, run_sliceAt_tok hu het hb, ?_⟩
        refine .inr ⟨by omega, ?_⟩
        exact ⟨_, by rw [show h' - l = 0 by omega, show m - l = 0 by omega]⟩
    | bs sz es =>
      obtain rfl : sz = ei.size := hsz
      obtain ⟨A, cap, b, o, hy, h1, h2, h3⟩ := hx
      obtain ⟨l, h', A', cap', hK, q1, q2, q3, q4, q5, q6, q7⟩ := lists (Rdb (FF F0 ι) base w) es A cap b o _ hy h1 h2 h3 h
      have hlen := (cut_es (F := FF F0 ι) (w := w) (pr := Rdb (FF F0 ι) base w b) (o := o) q1 q2 h3).1
      refine ⟨_, hK, _, q3, ?_⟩
      cases fl with
      | true => exact ⟨A', b, _, by rw [hlen, q5 rfl], q6, q7⟩
      | false => exact ⟨A', cap', b, _, by rw [hlen], by rw [hlen]; exact q4, q6, q7⟩
    | cp sz es =>
      obtain rfl : sz = ei.size := hsz
      obtain ⟨A, b, o, hy, h2, h3⟩ := hx
      obtain ⟨l, h', A', cap', hK, q1, q2, q3, q4, q5, q6, q7⟩ := lists (Rdb (FF F0 ι) base w) es A es.length b o _ hy (Nat.le_refl _) h2 h3 h
      have hlen := (cut_es (F := FF F0 ι) (w := w) (pr := Rdb (FF F0 ι) base w b) (o := o) q1 q2 h3).1
      refine ⟨_, hK, _, q3, ?_⟩
      cases fl with
      | true => exact ⟨A', b, _, by rw [hlen, q5 rfl], q6, q7⟩
      | false => exact ⟨A', cap', b, _, by rw [hlen], by rw [hlen]; exact q4, q6, q7⟩
    | d x =>
      cases x with
      | sl sz es =>
        obtain rfl : sz = ei.size := hsz
        obtain ⟨A, cap, b, o, hy, h1, h2, h3⟩ := hx
        obtain ⟨l, h', A', cap', hK, q1, q2, q3, q4, q5, q6, q7⟩ := lists (Prot (FF F0 ι) w) es A cap b o _ hy h1 h2 h3 h
        have hlen := (cut_es (F := FF F0 ι) (w := w) (pr := Prot (FF F0 ι) w b) (o := o) q1 q2 h3).1
        refine ⟨_, hK, _, q3, ?_⟩
        cases fl with
        | true => exact ⟨A', b, _, by rw [hlen, q5 rfl], q6, RepEs.mono (fun _ _ _ h => h) (fun o y hy => ⟨hy.1, .inl hy.2⟩) _ _ _ q7⟩
        | false => exact ⟨A', cap', b, _, by rw [hlen], by rw [hlen]; exact q4, q6, q7⟩
      | rp cs => exact h.elim
      | v z =>
        simp only [cutA] at h
        unfold cutV at h
        split at h
        · exact (hns _ rfl).elim
        · obtain rfl := hx
          obtain ⟨l, h', m, hb, q1, q2, q3, q4, q5, q6, q7⟩ := run_bounds (isSlice := true) (P := P) (cap := 0) (len := 0) (mx := vmx) (Nat.le_refl _) hlo hlo' hhi hhi' hmx' h
          refine ⟨_, q7, _, run_sliceAt_tok hu het hb, ?_⟩
          show _ = _
          rw [show h' - l = 0 by omega, show m - l = 0 by omega]
          split <;> rfl
        · exact h.elim
    | _ => exact h.elim
  | str =>
    obtain ⟨s, rfl⟩ := hi'
    obtain rfl := hx
    simp only [cutA, cutV] at h
    obtain ⟨hf, h⟩ := h
    have hm : vmx = none := by rcases hmx with ⟨_, h⟩ | ⟨h, _⟩; exact h; rw [hf] at h; cases h
    subst hm
    obtain ⟨l, h', m, hb, q1, q2, q3, q4, q5, q6, q7⟩ := run_bounds (isSlice := false) (P := P) (cap := s.size) (mx := none) (Nat.le_refl _) hlo hlo' hhi hhi' (.inl rfl) h
    refine ⟨_, q7, .string (s.extract l h'), ?_, rfl⟩
    have hu : P.underlying t = some .string := ht.2
    simp [Instr.sliceAt, run_underlying hu, Instr.slice, hb]
  | st n b fs z => exact hi'.elim
  | sc b z => exact hi'.elim
  | ik k b => exact hi'.elim
  | bl => exact hi'.elim
end
end Go.Proofs.Ab

namespace Go.Proofs.Ab
open Go Go.RowKit
set_option linter.unusedVariables false
set_option linter.unusedSimpArgs false

def eqVal : Value → Value → Bool
  | .int _ a, .int _ b => a == b
  | .bool a, .bool b => a == b
  | .string a, .string b => a.toList == b.toList
  | _, _ => false
def eqShape : Value → Value → Bool
  | .int k _, .int k' _ => decide (k = k')
  | .bool _, .bool _ => true
  | .string _, .string _ => true
  | _, _ => false
def eqCells : List Value → List Value → Bool
  | [], [] => true
  | x :: xs, y :: ys => eqVal x y && eqCells xs ys
  | _, _ => false
def shapeCells : List Value → List Value → Bool
  | [], [] => true
  | x :: xs, y :: ys => eqShape x y && shapeCells xs ys
  | _, _ => false
def AV.v? : AV → Option Value
  | .d (.v x) => some x
  | _ => none
def toVs : List AV → Option (List Value)
  | [] => some []
  | x :: r => match x.v?, toVs r with
    | some y, some ys => some (y :: ys)
    | _, _ => none
def LenOk (i : TI) (x : AV) : Prop :=
  match i with
  | .sl _ => ∀ s : ByteArray, x ≠ AV.d (D.v (.string s))
  | .str => ∃ s : ByteArray, x = AV.d (D.v (.string s))
  | _ => False
structure EqTok (P : Program) (t : TypeId) (zs : List Value) : Prop where
  guard : P.eqGuardType P.depth t = false
  eq : ∀ (xs ys : List Value) (w : World), shapeCells zs xs = true → shapeCells zs ys = true → (Op.equal t (.agg xs.toArray) (.agg ys.toArray)).run P w = .ok (eqCells xs ys) w
def ETOK (P : Program) (tt : TypeId → Option TI) (et : TypeId → Bool) : Prop := ∀ t, et t = true → ∃ i, tt t = some i ∧ i.row = true ∧ EqTok P t i.zeros

/-- '==' and '!=' of what is no number and no string. -/
def eqA (et : TypeId → Bool) (t : TypeId) (i : TI) (neq : Bool) (x y : AV) (K : AV → Prop) : Prop :=
  match i with
  | .bl => ∃ a b, x = .d (.v (.bool a)) ∧ y = .d (.v (.bool b)) ∧ K (.d (.v (.bool (if neq then !(a == b) else a == b))))
  | .sl _ => y = .d (.v (.slice none 0 0)) ∧ nilA x fun b => K (.d (.v (.bool (if neq then !b else b))))
  | .st _ _ _ zs => et t = true ∧ ∃ cs ds xs ys, x.cells = some cs ∧ y.cells = some ds ∧ toVs cs = some xs ∧ toVs ds = some ys ∧ shapeCells zs xs = true ∧ shapeCells zs ys = true ∧
      (match x with | .ag _ => True | .d (.v (.agg _)) => True | _ => False) ∧ (match y with | .ag _ => True | .d (.v (.agg _)) => True | _ => False) ∧
      K (.d (.v (.bool (if neq then !(eqCells xs ys) else eqCells xs ys))))
  | _ => False

section
variable {P : Program} {n base : Nat} {w0 : World} {F0 : Nat → Nat → Prop} {ι : Nat → Option Nat} {full : Nat → Option Ob} {ev : Nat → AV} {a : Act} {w : World}
theorem AV.cells_sound {x : AV} {y : Value} {cs : List AV} (hx : RepA ι (FF F0 ι) base w x y) (h : x.cells = some cs) :
    ∃ vs : List Value, y.cells = vs.toArray ∧ RepL ι (FF F0 ι) base w cs vs ∧ (y = .agg vs.toArray ∨ (vs = [y] ∧ ∀ a, y ≠ .agg a)) := by
  have one : (∀ a, y ≠ .agg a) → cs = [x] → ∃ vs : List Value, y.cells = vs.toArray ∧ RepL ι (FF F0 ι) base w cs vs ∧ (y = .agg vs.toArray ∨ (vs = [y] ∧ ∀ a, y ≠ .agg a)) := by
    rintro h1 rfl
    refine ⟨[y], ?_, ⟨y, [], rfl, hx, rfl⟩, .inr ⟨rfl, h1⟩⟩
    cases y <;> first | rfl | exact absurd rfl (h1 _)
  cases x with
  | un => cases h
  | tp vs => cases h
  | ag l =>
    simp only [AV.cells, Option.some.injEq] at h; subst h
    obtain ⟨vs, rfl, h2⟩ := hx
    exact ⟨vs, rfl, h2, .inl rfl⟩
  | d x =>
    cases x with
    | v z =>
      obtain rfl : y = z := hx
      unfold AV.cells at h
      split at h
      · cases h
      · cases h
      · rename_i e; cases e
      · rename_i a e
        simp only [AV.d.injEq, D.v.injEq] at e
        simp only [Option.some.injEq] at h
        subst h; subst e
        refine ⟨a.toList, rfl, ?_, .inl rfl⟩
        have : ∀ l : List Value, RepL ι (FF F0 ι) base w (l.map fun x => .d (.v x)) l := by
          intro l
          induction l with
          | nil => rfl
          | cons z r ih => exact ⟨z, r, rfl, rfl, ih⟩
        exact this _
      · cases h
      · rename_i hne hne2
        simp only [Option.some.injEq] at h
        refine one ?_ h.symm
        rintro a rfl
        exact hne _ rfl
    | sl sz es =>
      obtain ⟨a', cap, b, o, rfl, _⟩ := hx
      simp only [AV.cells, Option.some.injEq] at h
      exact one (by simp) h.symm
    | rp cs' =>
      obtain ⟨b, o, rfl, _⟩ := hx
      simp only [AV.cells, Option.some.injEq] at h
      exact one (by simp) h.symm
  | bs sz es =>
    obtain ⟨a', cap, b, o, rfl, _⟩ := hx
    simp only [AV.cells, Option.some.injEq] at h
    exact one (by simp) h.symm
  | cp sz es =>
    obtain ⟨a', b, o, rfl, _⟩ := hx
    simp only [AV.cells, Option.some.injEq] at h
    exact one (by simp) h.symm
  | bp cs' =>
    obtain ⟨b, o, rfl, _⟩ := hx
    simp only [AV.cells, Option.some.injEq] at h
    exact one (by simp) h.symm
  | pt id o =>
    obtain ⟨b, _, rfl⟩ := hx
    simp only [AV.cells, Option.some.injEq] at h
    exact one (by simp) h.symm
  | pe id sz i o =>
    obtain ⟨b, _, rfl⟩ := hx
    simp only [AV.cells, Option.some.injEq] at h
    exact one (by simp) h.symm
  | ms id sz o len =>
    simp only [AV.cells, Option.some.injEq] at h
    refine one ?_ h.symm
    rcases hx with ⟨b, cap, _, rfl, _⟩ | ⟨_, a', rfl⟩ <;> simp
  | cl f caps =>
    obtain ⟨vs, rfl, _⟩ := hx
    simp only [AV.cells, Option.some.injEq] at h
    exact one (by simp) h.symm
theorem toVs_sound {cs : List AV} {xs vs : List Value} (h : toVs cs = some xs) (hr : RepL ι (FF F0 ι) base w cs vs) : vs = xs := by
  induction cs generalizing xs vs with
  | nil => simp only [toVs, Option.some.injEq] at h; rw [← h]; exact hr
  | cons x r ih =>
    obtain ⟨y, ys, rfl, h1, h2⟩ := hr
    unfold toVs at h
    split at h
    · rename_i u us e1 e2
      simp only [Option.some.injEq] at h; subst h
      rw [ih e2 h2]
      unfold AV.v? at e1
      split at e1
      · simp only [Option.some.injEq] at e1; subst e1
        obtain rfl := h1
        rfl
      · cases e1
    · cases h
theorem intBin_run {op : BinOp} {k : IntKind} {m m' : Int} {v : Value} (h : intBin op k m m' = some v) (t : TypeId) : (binOp op t (.int k m) (.int k m')).run P w = .ok v w := by
  cases op
  case shr =>
    simp only [intBin] at h
    split at h
    · rename_i hb
      injection h with h
      subst h
      have h2 : ¬ m' < 0 := by omega
      simp [binOp, Op.shift, h2, Nat.min_eq_left hb.2]
    · cases h
  all_goals (simp only [intBin, Option.some.injEq] at h; first | (subst h; simp [binOp, Op.intArith, Op.intCmp]) | cases h)
theorem strBin_run {op : BinOp} {p q : ByteArray} {v : Value} (h : strBin op p q = some v) (t : TypeId) : (binOp op t (.string p) (.string q)).run P w = .ok v w := by
  cases op <;> simp only [strBin, Option.some.injEq] at h <;> first | (subst h; simp [binOp, Op.stringOp]) | cases h
theorem eqGuard_int (op : BinOp) (t : TypeId) (x y : Operand) (k : IntKind) (m : Int) (v : Value) : eqGuard op t x y (.int k m) v = pure () := by cases op <;> rfl
theorem eqGuard_string (op : BinOp) (t : TypeId) (x y : Operand) (s : ByteArray) (v : Value) : eqGuard op t x y (.string s) v = pure () := by cases op <;> rfl
theorem binA_sound {op : BinOp} {t : TypeId} {ox oy : Operand} {x y : AV} {vx vy : Value} {K : AV → Prop} (hx : RepA ι (FF F0 ι) base w x vx) (hy : RepA ι (FF F0 ι) base w y vy) (h : binA op x y K) :
    ∃ v, K v ∧ ∃ u, (do eqGuard op t ox oy vx vy; binOp op t vx vy : Sem Value).run P w = .ok u w ∧ RepA ι (FF F0 ι) base w v u := by
  unfold binA at h
  split at h
  · rename_i k m k' m'
    obtain ⟨rfl, h⟩ := h
    obtain rfl := hx
    obtain rfl := hy
    simp only [eqGuard_int, Sem.run_bind, Sem.run_pure, Result.andThen_ok]
    split at h
    · obtain ⟨h0, hK⟩ := h
      exact ⟨_, hK, _, by simp [binOp, Op.intDiv, h0], rfl⟩
    · obtain ⟨h0, hK⟩ := h
      exact ⟨_, hK, _, by simp [binOp, Op.intDiv, h0], rfl⟩
    · obtain ⟨v, h1, hK⟩ := h
      exact ⟨_, hK, _, intBin_run h1 t, rfl⟩
  · rename_i p q
    obtain rfl := hx
    obtain rfl := hy
    simp only [eqGuard_string, Sem.run_bind, Sem.run_pure, Result.andThen_ok]
    split at h
    · obtain ⟨h0, hK⟩ := h
      refine ⟨_, hK, .string (p ++ q), ?_, rfl⟩
      have : ¬ ((p.size : Int) + q.size > 9223372036854775807) := by omega
      have e : IntKind.i64.max = 9223372036854775807 := by decide
      simp [binOp, Op.stringOp, e, this]
    · obtain ⟨v, h1, hK⟩ := h
      exact ⟨_, hK, _, strBin_run h1 t, rfl⟩
  · exact h.elim
theorem nilA_sound {x : AV} {vx : Value} {K : Bool → Prop} (hx : RepA ι (FF F0 ι) base w x vx) (h : nilA x K) : ∃ (A : Option Addr) (l c : Nat), vx = .slice A l c ∧ K A.isNone := by
  unfold nilA at h
  split at h
  · obtain rfl := hx; exact ⟨none, 0, 0, rfl, h⟩
  · obtain ⟨A, cap, b, o, rfl, h1, h2, _⟩ := hx
    exact ⟨A, _, _, rfl, by rw [h2 h.1]; exact h.2⟩
  · obtain ⟨A, cap, b, o, rfl, h1, h2, _⟩ := hx
    exact ⟨A, _, _, rfl, by rw [h2 h.1]; exact h.2⟩
  · obtain ⟨A, b, o, rfl, h2, _⟩ := hx
    exact ⟨A, _, _, rfl, by rw [h2 h.1]; exact h.2⟩
  · rcases hx with ⟨b, cap, h1, rfl, h2, h3⟩ | ⟨h0, _⟩
    · exact ⟨_, _, _, rfl, h.2⟩
    · exact absurd h0 h.1
  · exact h.elim
theorem eqA_sound {tt : TypeId → Option TI} {et : TypeId → Bool} (hett : ETOK P tt et) {t : TypeId} {i : TI} (hti : tt t = some i) (ht : Tok P t i) {op : BinOp} {neq : Bool} (hop : op = if neq then .neq else .eql) {ox oy : Operand} {x y : AV} {vx vy : Value} {K : AV → Prop}
    (hx : RepA ι (FF F0 ι) base w x vx) (hy : RepA ι (FF F0 ι) base w y vy) (h : eqA et t i neq x y K) :
    ∃ v, K v ∧ ∃ u, (do eqGuard op t ox oy vx vy; binOp op t vx vy : Sem Value).run P w = .ok u w ∧ RepA ι (FF F0 ι) base w v u := by
  unfold eqA at h
  cases i with
  | bl =>
    obtain ⟨p, q, rfl, rfl, hK⟩ := h
    obtain rfl := hx
    obtain rfl := hy
    have hu : P.underlying t = some .bool := ht.2
    refine ⟨_, hK, _, ?_, rfl⟩
    have hg : eqGuard op t ox oy (.bool p) (.bool q) = pure () := by cases op <;> rfl
    simp only [hg, Sem.run_bind, Sem.run_pure, Result.andThen_ok]
    subst hop
    cases neq
    · exact run_eql_bool w t p q hu
    · exact run_neq_bool w t p q hu
  | sl e =>
    obtain ⟨rfl, h⟩ := h
    obtain rfl := hy
    obtain ⟨A, l, c, rfl, hK⟩ := nilA_sound hx h
    have hu : P.underlying t = some (.slice e) := ht.2
    refine ⟨_, hK, _, ?_, rfl⟩
    have hg : eqGuard op t ox oy (.slice A l c) (.slice none 0 0) = pure () := by cases op <;> rfl
    simp only [hg, Sem.run_bind, Sem.run_pure, Result.andThen_ok]
    subst hop
    cases neq
    · exact Lib.run_eql_slice_nil w t e A l c 0 0 hu
    · exact run_neq_slice_nil w t e A l c hu
  | st n b fs zs =>
    obtain ⟨he, cs, ds, xs, ys, h1, h2, h3, h4, h5, h6, h7, h8, hK⟩ := h
    obtain ⟨i', hi', _, hE⟩ := hett t he
    rw [hti] at hi'
    injection hi' with hi'
    subst hi'
    obtain ⟨us, _, hus, hu'⟩ := AV.cells_sound hx h1
    obtain ⟨us', _, hus', hu''⟩ := AV.cells_sound hy h2
    have ex : vx = .agg xs.toArray := by
      rw [← toVs_sound h3 hus]
      rcases hu' with h | ⟨_, h⟩
      · exact h
      · split at h7
        · obtain ⟨vs, rfl, _⟩ := hx; exact absurd rfl (h _)
        · obtain rfl := hx; exact absurd rfl (h _)
        · exact h7.elim
    have ey : vy = .agg ys.toArray := by
      rw [← toVs_sound h4 hus']
      rcases hu'' with h | ⟨_, h⟩
      · exact h
      · split at h8
        · obtain ⟨vs, rfl, _⟩ := hy; exact absurd rfl (h _)
        · obtain rfl := hy; exact absurd rfl (h _)
        · exact h8.elim
    subst ex
    subst ey
    have hq := hE.eq xs ys w h5 h6
    refine ⟨_, hK, _, ?_, rfl⟩
    subst hop
    cases neq
    · simp [eqGuard, hE.guard, binOp, hq]
    · simp [eqGuard, hE.guard, binOp, hq]
  | _ => exact h.elim
theorem lenA_sound {t : TypeId} {i : TI} (ht : Tok P t i) {x : AV} {vx : Value} {K : Nat → Prop} (hk : LenOk i x)
    (hx : RepA ι (FF F0 ι) base w x vx) (h : lenA x K) (ty : TypeId) : ∃ m, K m ∧ (Builtin.len_ #[t] ty #[vx]).run P w = .ok (.int .i64 m) w := by
  cases i with
  | str =>
    obtain ⟨s, rfl⟩ := hk
    obtain rfl := hx
    have hu : P.underlying t = some .string := ht.2
    exact ⟨_, h, by simp [Builtin.len_, run_underlying hu, goInt]⟩
  | sl e =>
    have hu : P.underlying t = some (.slice e) := ht.2
    have key : ∀ (A : Option Addr) (m c : Nat), vx = .slice A m c → K m → ∃ m, K m ∧ (Builtin.len_ #[t] ty #[vx]).run P w = .ok (.int .i64 m) w := by
      rintro A m c rfl hK
      exact ⟨m, hK, by simp [Builtin.len_, run_underlying hu, goInt]⟩
    unfold lenA at h
    split at h
    · exact absurd rfl (hk _)
    · obtain rfl := hx; exact key _ _ _ rfl h
    · obtain ⟨A, cap, b, o, rfl, _⟩ := hx; exact key _ _ _ rfl h
    · obtain ⟨A, cap, b, o, rfl, _⟩ := hx; exact key _ _ _ rfl h
    · obtain ⟨A, b, o, rfl, _⟩ := hx; exact key _ _ _ rfl h
    · rcases hx with ⟨b, cap, _, rfl, _⟩ | ⟨rfl, A, rfl⟩
      · exact key _ _ _ rfl h
      · exact key _ _ _ rfl h
    · exact h.elim
  | _ => exact hk.elim
end
end Go.Proofs.Ab

namespace Go.Proofs.Ab
open Go Go.RowKit
set_option linter.unusedVariables false
set_option linter.unusedSimpArgs false

/-! ### Building -/
def setR (l : List AV) (off : Nat) (cs : List AV) : List AV := l.take off ++ (cs ++ l.drop (off + cs.length))
def fillA (place : Nat → Option (Nat × Nat)) (l : List AV) : List (Nat × AV) → Option (List AV)
  | [] => some l
  | (i, x) :: r => match place i, x.cells with
    | some (off, size), some cs => if cs.length = size ∧ off + size ≤ l.length then fillA place (setR l off cs) r else none
    | _, _ => none
def placeA (tt : TypeId → Option TI) (i : TI) (f : Nat) : Option (Nat × Nat) := (fieldA tt i f).map fun p => (p.1, p.2.size)

section
variable {P : Program} {n base : Nat} {w0 : World} {F0 : Nat → Nat → Prop} {ι : Nat → Option Nat} {full : Nat → Option Ob} {ev : Nat → AV} {a : Act} {w : World}
theorem foldl_set (off : Nat) : ∀ (cs : List Value) (k : Nat) (arr : Array Value), off + k + cs.length ≤ arr.size →
    ((cs.zipIdx k).foldl (fun acc p => acc.setIfInBounds (off + p.2) p.1) arr).toList = arr.toList.take (off + k) ++ (cs ++ arr.toList.drop (off + k + cs.length)) := by
  intro cs
  induction cs with
  | nil => intro k arr h; simp
  | cons c r ih =>
    intro k arr h
    simp only [List.length_cons] at h
    simp only [List.zipIdx_cons, List.foldl_cons]
    rw [ih (k + 1) _ (by simp; omega)]
    have hk : off + k < arr.toList.length := by simp; omega
    simp only [Array.toList_setIfInBounds]
    rw [show off + (k + 1) = off + k + 1 by omega]
    rw [List.take_set, List.take_add_one, List.getElem?_eq_getElem hk]
    rw [List.drop_set_of_lt (by omega)]
    have e1 : ((arr.toList.take (off + k) ++ [arr.toList[off + k]]).set (off + k) c) = arr.toList.take (off + k) ++ [c] := by
      rw [List.set_append_right _ _ (by simp; omega)]
      have e0 : (arr.toList.take (off + k)).length = off + k := by rw [List.length_take]; omega
      rw [e0, Nat.sub_self]
      rfl
    simp only [Option.toList_some]
    rw [e1]
    simp [List.append_assoc, Nat.add_assoc, Nat.add_comm 1]
def RepPs (ι : Nat → Option Nat) (F : Nat → Nat → Prop) (base : Nat) (w : World) : List (Nat × AV) → List (Nat × Value) → Prop
  | [], q => q = []
  | (i, x) :: r, q => ∃ v s, q = (i, v) :: s ∧ RepA ι F base w x v ∧ RepPs ι F base w r s
theorem fillA_sound {place placeV : Nat → Option (Nat × Nat)} (hp : ∀ i p, place i = some p → placeV i = some p) :
    ∀ (parts : List (Nat × AV)) (pv : List (Nat × Value)) (l : List AV) (vs : Array Value) (out : List AV), RepL ι (FF F0 ι) base w l vs.toList →
      RepPs ι (FF F0 ι) base w parts pv → fillA place l parts = some out → ∃ arr, Instr.fill placeV vs pv = some arr ∧ RepL ι (FF F0 ι) base w out arr.toList := by
  intro parts
  induction parts with
  | nil =>
    intro pv l vs out hl hf h
    obtain rfl := hf
    simp only [fillA, Option.some.injEq] at h; subst h
    exact ⟨vs, rfl, hl⟩
  | cons p r ih =>
    intro pv l vs out hl hf h
    obtain ⟨i, x⟩ := p
    obtain ⟨v, qs, rfl, hx, h2⟩ := hf
    simp only [fillA] at h
    split at h
    · rename_i off size cs e1 e2
      split at h
      · rename_i hc
        obtain ⟨us, e3, hus, _⟩ := AV.cells_sound hx e2
        have hlen := hus.length
        have hll := hl.length
        have e4 : v.cells.toList = us := by rw [e3]
        have e5 : v.cells.size = us.length := by rw [e3]; simp
        have hvs : vs.size = l.length := by rw [← hll]; simp
        have e6 := foldl_set off us 0 vs (by omega)
        have e7 : (v.cells.zipIdx.foldl (fun cs (c, j) => cs.setIfInBounds (off + j) c) vs).toList = vs.toList.take off ++ (us ++ vs.toList.drop (off + us.length)) := by
          rw [← Array.foldl_toList, Array.toList_zipIdx, e4]
          simpa using e6
        have hset : RepL ι (FF F0 ι) base w (setR l off cs) (v.cells.zipIdx.foldl (fun cs (c, j) => cs.setIfInBounds (off + j) c) vs).toList := by
          rw [e7]
          unfold setR
          rw [← hlen]
          exact (hl.take _).append (hus.append (hl.drop _))
        obtain ⟨arr, h3, h4⟩ := ih qs (setR l off cs) _ out hset h2 h
        refine ⟨arr, ?_, h4⟩
        simp only [Instr.fill, hp _ _ e1]
        rw [if_neg]
        · exact h3
        · have h6 : v.cells.size = size := by omega
          simp [h6]
          omega
      · cases h
    · cases h
theorem zeros_rep (zs : List Value) : RepL ι (FF F0 ι) base w (zs.map fun x => .d (.v x)) zs := by
  induction zs with
  | nil => rfl
  | cons z r ih => exact ⟨z, r, rfl, rfl, ih⟩
theorem mapM_places {tt : TypeId → Option TI} (htt : TOK P tt) (l : List Field) (h : ∀ f ∈ l, ∃ i, tt f.type = some i) :
    (l.mapM fun f => (do pure (f.offset, ← sizeOf f.type) : Sem (Nat × Nat))).run P w = .ok (l.map fun f => (f.offset, P.cellsOf f.type)) w := by
  induction l with
  | nil => simp
  | cons f r ih =>
    obtain ⟨i, hi⟩ := h f (by simp)
    have ht := htt _ _ hi
    have hc : P.cellsOf f.type = i.size := by
      have := ht.size
      simp [Program.cellsOf, this]
    simp only [List.mapM_cons, Sem.run_bind, run_sizeOf_tok ht, Result.andThen_ok, Sem.run_pure, ih (fun f hf => h f (by simp [hf])), List.map_cons, hc]
/-- A struct's literal. -/
theorem buildA_sound {tt : TypeId → Option TI} (htt : TOK P tt) {t : TypeId} {sz b : Nat} {fs : List (Nat × TypeId)} {zs : List Value} (ht : Tok P t (.st sz b fs zs)) (hall : fs.all (fun p => (tt p.2).isSome) = true)
    {parts : List (Nat × AV)} {pv : Array (Nat × Value)} {out : List AV} (hp : RepPs ι (FF F0 ι) base w parts pv.toList)
    (h : fillA (placeA tt (.st sz b fs zs)) (zs.map fun x => .d (.v x)) parts = some out) :
    ∃ u, (Instr.build t pv).run P w = .ok u w ∧ RepA ι (FF F0 ι) base w (.ag out) u := by
  obtain ⟨_, hzl, _, fa, hu, hf⟩ := id ht
  have hm : (fa.mapM fun f => (do pure (f.offset, ← sizeOf f.type) : Sem (Nat × Nat))).run P w = .ok (fa.toList.map fun f => (f.offset, P.cellsOf f.type)).toArray w := by
    rw [Array.mapM_eq_mapM_toList]
    have := mapM_places (P := P) (w := w) htt fa.toList (by
      intro f hfm
      rw [← hf, List.all_eq_true] at hall
      have := hall (f.offset, f.type) (List.mem_map_of_mem (f := fun f => (f.offset, f.type)) hfm)
      exact Option.isSome_iff_exists.1 this)
    rw [Sem.run_map, this]
    rfl
  have hpl : ∀ i p, placeA tt (.st sz b fs zs) i = some p → (fa.toList.map fun f => (f.offset, P.cellsOf f.type))[i]? = some p := by
    intro i p hpl
    unfold placeA at hpl
    cases hfa : fieldA tt (.st sz b fs zs) i with
    | none => rw [hfa] at hpl; simp at hpl
    | some q =>
      obtain ⟨off, fi⟩ := q
      rw [hfa] at hpl
      simp at hpl
      obtain ⟨fa', fd, hu', hfd, ho, htf, _⟩ := fieldA_spec htt ht hfa
      rw [hu] at hu'
      injection hu' with hu'
      injection hu' with hu'
      subst hu'
      have hc : P.cellsOf fd.type = fi.size := by
        have := htf.size
        simp [Program.cellsOf, this]
      have : fa.toList[i]? = some fd := by simpa using hfd
      simp only [List.getElem?_map, this, Option.map_some, hc, ho]
      rw [← hpl]
  obtain ⟨arr, h1, h2⟩ := fillA_sound hpl parts pv.toList _ zs.toArray out (by simpa using zeros_rep zs) hp h
  refine ⟨.agg arr, ?_, arr.toList, rfl, h2⟩
  have hz := run_zeroValue_tok ht w
  simp only [Instr.build, Sem.run_bind, hz, Result.andThen_ok, run_underlying hu, hm, TI.zero, Value.cells]
  have e : (fun x : Nat => (fa.toList.map fun f => (f.offset, P.cellsOf f.type)).toArray[x]?) = fun i : Nat => (fa.toList.map fun f => (f.offset, P.cellsOf f.type))[i]? := by funext i; simp
  rw [e, h1]
  simp
end

/-! ### A slice's literal, and 'make' -/
def elemsA (sz : Nat) : Nat → List (Nat × AV) → Option (List (List D))
  | _, [] => some []
  | k, (i, x) :: r => if i = k then match x.cells with
      | some cs => if cs.length = sz then match toDs cs, elemsA sz (k + 1) r with
          | some ds, some es => some (ds :: es)
          | _, _ => none
        else none
      | none => none
    else none
section
variable {P : Program} {n base : Nat} {w0 : World} {F0 : Nat → Nat → Prop} {ι : Nat → Option Nat} {full : Nat → Option Ob} {ev : Nat → AV} {a : Act} {w : World}
theorem toDs_sound {pr : Nat → Value → Prop} {cs : List AV} {ds : List D} {vs : List Value} (h : toDs cs = some ds) (hr : RepL ι (FF F0 ι) base w cs vs) (o : Nat) (hc : ∀ j v, vs[j]? = some v → pr (o + j) v) :
    ds.length = cs.length ∧ RepCs (FF F0 ι) w pr ds o := by
  induction cs generalizing ds vs o with
  | nil => simp only [toDs, Option.some.injEq] at h; subst h; exact ⟨rfl, trivial⟩
  | cons x r ih =>
    obtain ⟨y, ys, rfl, h1, h2⟩ := hr
    unfold toDs at h
    split at h
    · rename_i u us e1 e2
      split at h
      case isFalse => cases h
      rename_i e0
      simp only [Option.some.injEq] at h; subst h
      obtain ⟨i1, i2⟩ := ih e2 h2 (o + 1) (fun j v hj => by rw [show o + 1 + j = o + (j + 1) by omega]; exact hc (j + 1) v (by simpa using hj))
      refine ⟨by simp [i1], ⟨e0, y, by simpa using hc 0 y rfl, ?_⟩, i2⟩
      unfold AV.d? at e1
      split at e1
      · simp only [Option.some.injEq] at e1; subst e1; exact h1
      · cases e1
    · cases h
theorem fill_ordered (sz : Nat) : ∀ (parts : List (Nat × AV)) (pv : List (Nat × Value)) (k : Nat) (vs : Array Value) (es : List (List D)), RepPs ι (FF F0 ι) base w parts pv → elemsA sz k parts = some es → (k + parts.length) * sz ≤ vs.size →
    ∃ arr, Instr.fill (fun i => some (i * sz, sz)) vs pv = some arr ∧ arr.size = vs.size ∧ (∀ o, o < k * sz → arr[o]? = vs[o]?) ∧ es.length = parts.length ∧ RepEs (FF F0 ι) w (fun o y => arr[o]? = some y) sz es (k * sz) := by
  intro parts
  induction parts with
  | nil =>
    intro pv k vs es hp he hs
    obtain rfl := hp
    simp only [elemsA, Option.some.injEq] at he; subst he
    exact ⟨vs, rfl, rfl, fun _ _ => rfl, rfl, trivial⟩
  | cons p r ih =>
    intro pv k vs es hp he hs
    obtain ⟨i, x⟩ := p
    obtain ⟨v, qs, rfl, hx, h2⟩ := hp
    simp only [elemsA] at he
    split at he
    · rename_i hik
      subst hik
      split at he
      · rename_i cs e1
        split at he
        · rename_i hcl
          split at he
          · rename_i ds es' e2 e3
            simp only [Option.some.injEq] at he; subst he
            obtain ⟨us, e4, hus, _⟩ := AV.cells_sound hx e1
            have hul : us.length = sz := by rw [hus.length, hcl]
            have e5 : v.cells.toList = us := by rw [e4]
            have e6 : v.cells.size = sz := by rw [e4]; simpa using hul
            have hs' : i * sz + sz ≤ vs.size := by
              refine Nat.le_trans ?_ hs
              rw [show i * sz + sz = (i + 1) * sz by rw [Nat.add_mul, Nat.one_mul]]
              exact Nat.mul_le_mul_right _ (by simp)
            have e7 := foldl_set (i * sz) us 0 vs (by omega)
            have e8 : (v.cells.zipIdx.foldl (fun cs (c, j) => cs.setIfInBounds (i * sz + j) c) vs).toList = vs.toList.take (i * sz) ++ (us ++ vs.toList.drop (i * sz + us.length)) := by
              rw [← Array.foldl_toList, Array.toList_zipIdx, e5]
              simpa using e7
            generalize hg : v.cells.zipIdx.foldl (fun cs (c, j) => cs.setIfInBounds (i * sz + j) c) vs = vs1 at e8
            have hsz : vs1.size = vs.size := by
              have := congrArg List.length e8
              simp at this
              omega
            have hlow : ∀ o, o < i * sz → vs1[o]? = vs[o]? := by
              intro o ho
              rw [← Array.getElem?_toList, e8, List.getElem?_append_left (by simp; omega), List.getElem?_take, if_pos ho, Array.getElem?_toList]
            have hmid : ∀ j u, us[j]? = some u → vs1[i * sz + j]? = some u := by
              intro j u hj
              have hjl := (List.getElem?_eq_some_iff.1 hj).1
              have hl : (vs.toList.take (i * sz)).length = i * sz := by simp; omega
              rw [← Array.getElem?_toList, e8, List.getElem?_append_right (by omega), hl, Nat.add_sub_cancel_left, List.getElem?_append_left hjl, hj]
            have hs2 : (i + 1 + r.length) * sz ≤ vs1.size := by
              rw [hsz]
              simp only [List.length_cons] at hs
              rw [show i + 1 + r.length = i + (r.length + 1) by omega]
              exact hs
            obtain ⟨arr, h3, h4, h5, h6, h7⟩ := ih qs (i + 1) vs1 es' h2 e3 hs2
            have hlt : i * sz ≤ (i + 1) * sz := Nat.mul_le_mul_right _ (by omega)
            have hadd : (i + 1) * sz = i * sz + sz := by rw [Nat.add_mul, Nat.one_mul]
            obtain ⟨g1, g2⟩ := toDs_sound (pr := fun o y => arr[o]? = some y) e2 hus (i * sz) (by
              intro j u hj
              have hjl := (List.getElem?_eq_some_iff.1 hj).1
              rw [h5 _ (by omega)]
              exact hmid j u hj)
            refine ⟨arr, ?_, h4.trans hsz, fun o ho => (h5 o (by omega)).trans (hlow o ho), by simp [h6], ⟨by rw [g1, hcl], g2, ?_⟩⟩
            · simp only [Instr.fill]
              rw [if_neg]
              · rw [hg]; exact h3
              · simp [e6]; omega
            · rw [← hadd]; exact h7
          · cases he
        · cases he
      · cases he
    · cases he
end
end Go.Proofs.Ab

namespace Go.Proofs.Ab
open Go Go.RowKit
set_option linter.unusedVariables false
set_option linter.unusedSimpArgs false

/-! ### A call -/
mutual
/-- What a callee sees of a value: no place that may be written. -/
def passA (full : Nat → Option Ob) : AV → Option AV
  | .un => some .un
  | .d x => some (.d x)
  | .bs sz es => some (.bs sz es)
  | .cp sz es => some (.bs sz es)
  | .bp cs => some (.bp cs)
  | .pt id off => match full id with
    | some (.var cs) => (toDs (cs.drop off)).map .bp
    | _ => none
  | .pe id sz k off => match full id with
    | some (.arr sz' es) => if sz = sz' then (es[k]?).map (fun e => .bp (e.drop off)) else none
    | _ => none
  | .ms id sz off len => match full id with
    | some (.arr sz' es) => if sz = sz' ∧ off + len ≤ es.length then some (.bs sz ((es.drop off).take len)) else none
    | _ => none
  | .cl f caps => (passL full caps).map (.cl f)
  | .ag cs => (passL full cs).map .ag
  | .tp _ => none
def passL (full : Nat → Option Ob) : List AV → Option (List AV)
  | [] => some []
  | x :: r => match passA full x, passL full r with
    | some y, some ys => some (y :: ys)
    | _, _ => none
end
inductive Le : AV → AV → Prop
  | refl (x : AV) : Le x x
  | un (x : AV) : Le x .un
  | bs (sz : Nat) (es : List (List D)) : Le (.d (.sl sz es)) (.bs sz es)
  | bp (cs : List D) : Le (.d (.rp cs)) (.bp cs)
  | nilb (sz : Nat) : Le (.d (.v (.slice none 0 0))) (.bs sz [])
  | nild (sz : Nat) : Le (.d (.v (.slice none 0 0))) (.d (.sl sz []))
inductive LeL : List AV → List AV → Prop
  | nil : LeL [] []
  | cons {x y : AV} {r s : List AV} : Le x y → LeL r s → LeL (x :: r) (y :: s)

def none' : Nat → Option Nat := fun _ => none
def Good (P : Program) (f : FuncId) (args : List AV) (r : AV) : Prop :=
  (∃ fn, P.funcs[f]? = some fn ∧ (fn.name == "runtime.NumGoroutine") = false ∧ fn.body.isNone = false) ∧
  ∀ (w : World) (F : Nat → Nat → Prop) (vs : List Value), (∀ b o, F b o → b < w.heap.size) → RepL none' F w.heap.size w args vs →
    Calls P f vs.toArray w fun e w' => ∃ v, e = .returned v ∧ Below w.heap.size w w' ∧ RepA none' F 0 w' r v

section
variable {P : Program} {n base : Nat} {w0 : World} {F0 : Nat → Nat → Prop} {ι : Nat → Option Nat} {full : Nat → Option Ob} {ev : Nat → AV} {a : Act} {w : World}
mutual
theorem passA_sound (hc : Core n base w0 F0 ι full ev a w) : ∀ (x y : AV) (v : Value), passA full x = some y → RepA ι (FF F0 ι) base w x v → RepA none' (FF F0 ι) w.heap.size w y v
  | .un, y, v, h, hx => by simp only [passA, Option.some.injEq] at h; subst h; trivial
  | .d x, y, v, h, hx => by simp only [passA, Option.some.injEq] at h; subst h; exact hx
  | .bs sz es, y, v, h, hx => by
    simp only [passA, Option.some.injEq] at h; subst h
    obtain ⟨A, cap, b, o, e, h1, h2, h3⟩ := hx
    exact ⟨A, cap, b, o, e, h1, h2, RepEs.mono (fun _ _ _ h => h) (fun o y hy => ⟨hy.1, .inr (cell_lt hy.1)⟩) _ _ _ h3⟩
  | .cp sz es, y, v, h, hx => by
    simp only [passA, Option.some.injEq] at h; subst h
    obtain ⟨A, b, o, e, h2, h3⟩ := hx
    exact ⟨A, _, b, o, e, Nat.le_refl _, h2, RepEs.mono (fun _ _ _ h => h) (fun o y hy => ⟨hy.1, .inr (cell_lt hy.1)⟩) _ _ _ h3⟩
  | .bp cs, y, v, h, hx => by
    simp only [passA, Option.some.injEq] at h; subst h
    obtain ⟨b, o, e, h3⟩ := hx
    exact ⟨b, o, e, RepCs.mono (fun _ _ _ h => h) (fun o y hy => ⟨hy.1, .inr (cell_lt hy.1)⟩) _ _ h3⟩
  | .pt id off, y, v, h, hx => by
    obtain ⟨b, hb, rfl⟩ := hx
    obtain ⟨o, ho, hob⟩ := hc.obs id b hb
    simp only [passA, ho] at h
    cases o with
    | arr sz es => simp at h
    | var cs =>
      simp only [Option.map_eq_some_iff] at h
      obtain ⟨ds, h1, rfl⟩ := h
      obtain ⟨c, T, e, hl⟩ := hob
      have hd := (toDs_sound (pr := Rdb (FF F0 ι) w.heap.size w b) h1 (hl.drop off) off (by
        intro j u hj
        have h2 : w.cell? ⟨b, off + j, none⟩ = some u := by
          rw [cell_of e]; simpa using hj
        exact ⟨h2, .inr (cell_lt h2)⟩)).2
      exact ⟨b, off, rfl, hd⟩
  | .pe id sz k off, y, v, h, hx => by
    obtain ⟨b, hb, rfl⟩ := hx
    obtain ⟨o, ho, hob⟩ := hc.obs id b hb
    simp only [passA, ho] at h
    cases o with
    | var cs => simp at h
    | arr sz' es =>
      simp only at h
      split at h
      · rename_i hsz
        subst hsz
        simp only [Option.map_eq_some_iff] at h
        obtain ⟨q, h1, rfl⟩ := h
        obtain ⟨c, T, e, hl, _⟩ := hob
        have h2 := (hl.at k q h1).2.drop off
        rw [Nat.zero_add] at h2
        refine ⟨b, _, rfl, RepCs.mono (fun _ _ _ h => h) ?_ _ _ h2⟩
        intro o u hu
        have h3 : w.cell? ⟨b, o, none⟩ = some u := by rw [cell_of e]; exact hu
        exact ⟨h3, .inr (cell_lt h3)⟩
      · cases h
  | .ms id sz off len, y, v, h, hx => by
    rcases hx with ⟨b, cap, hb, rfl, h1, h2⟩ | ⟨rfl, A, rfl⟩
    · obtain ⟨o, ho, hob⟩ := hc.obs id b hb
      simp only [passA, ho] at h
      cases o with
      | var cs => simp at h
      | arr sz' es =>
        simp only at h
        split at h
        · rename_i hsz
          obtain ⟨rfl, hlen⟩ := hsz
          simp only [Option.some.injEq] at h; subst h
          obtain ⟨c, T, e, hl, _⟩ := hob
          have h3 := (hl.drop off).take len
          rw [Nat.zero_add] at h3
          have h4 : ((es.drop off).take len).length = len := by simp; omega
          refine ⟨_, cap, b, _, by rw [h4], by rw [h4]; exact h1, fun _ => rfl, RepEs.mono (fun _ _ _ h => h) ?_ _ _ _ h3⟩
          intro o u hu
          have h3 : w.cell? ⟨b, o, none⟩ = some u := by rw [cell_of e]; exact hu
          exact ⟨h3, .inr (cell_lt h3)⟩
        · cases h
    · simp only [passA] at h
      split at h
      · split at h
        · simp only [Option.some.injEq] at h; subst h
          simp only [List.take_zero]
          exact ⟨A, 0, 0, 0, rfl, Nat.le_refl _, fun h => absurd rfl h, trivial⟩
        · cases h
      · cases h
  | .cl f caps, y, v, h, hx => by
    simp only [passA, Option.map_eq_some_iff] at h
    obtain ⟨ys, h1, rfl⟩ := h
    obtain ⟨vs, e, h2⟩ := hx
    exact ⟨vs, e, passL_sound hc _ _ _ h1 h2⟩
  | .ag cs, y, v, h, hx => by
    simp only [passA, Option.map_eq_some_iff] at h
    obtain ⟨ys, h1, rfl⟩ := h
    obtain ⟨vs, e, h2⟩ := hx
    exact ⟨vs, e, passL_sound hc _ _ _ h1 h2⟩
  | .tp vs, y, v, h, hx => by simp [passA] at h
theorem passL_sound (hc : Core n base w0 F0 ι full ev a w) : ∀ (l l' : List AV) (vs : List Value), passL full l = some l' → RepL ι (FF F0 ι) base w l vs → RepL none' (FF F0 ι) w.heap.size w l' vs
  | [], l', vs, h, hx => by simp only [passL, Option.some.injEq] at h; subst h; exact hx
  | x :: r, l', vs, h, hx => by
    obtain ⟨y, ys, rfl, h1, h2⟩ := hx
    unfold passL at h
    split at h
    · rename_i u us e1 e2
      simp only [Option.some.injEq] at h; subst h
      exact ⟨y, ys, rfl, passA_sound hc _ _ _ e1 h1, passL_sound hc _ _ _ e2 h2⟩
    · cases h
end
theorem Le.sound {F : Nat → Nat → Prop} {B : Nat} {x y : AV} {v : Value} (h : Le x y) (hx : RepA ι F B w x v) : RepA ι F B w y v := by
  cases h with
  | refl => exact hx
  | un => trivial
  | bs sz es =>
    obtain ⟨A, cap, b, o, e, h1, h2, h3⟩ := hx
    exact ⟨A, cap, b, o, e, h1, h2, RepEs.mono (fun _ _ _ h => h) (fun o y hy => ⟨hy.1, .inl hy.2⟩) _ _ _ h3⟩
  | bp cs =>
    obtain ⟨b, o, e, h3⟩ := hx
    exact ⟨b, o, e, RepCs.mono (fun _ _ _ h => h) (fun o y hy => ⟨hy.1, .inl hy.2⟩) _ _ h3⟩
  | nilb sz =>
    obtain rfl := hx
    exact ⟨none, 0, 0, 0, rfl, Nat.le_refl _, fun h => absurd rfl h, trivial⟩
  | nild sz =>
    obtain rfl := hx
    exact ⟨none, 0, 0, 0, rfl, Nat.le_refl _, fun h => absurd rfl h, trivial⟩
theorem LeL.sound {F : Nat → Nat → Prop} {B : Nat} {l l' : List AV} {vs : List Value} (h : LeL l l') (hx : RepL ι F B w l vs) : RepL ι F B w l' vs := by
  induction h generalizing vs with
  | nil => exact hx
  | cons h1 _ ih => obtain ⟨y, ys, rfl, h2, h3⟩ := hx; exact ⟨y, ys, rfl, h1.sound h2, ih h3⟩
/-- A callee's result in the caller's eyes. -/
theorem RepA.back {F : Nat → Nat → Prop} {x : AV} {v : Value} (h : RepA none' F 0 w x v) : RepA ι F base w x v := by
  have s : Step none' F 0 w ι F base w := {
    prot := fun _ _ _ h => h
    rdb := fun b o x h => ⟨h.1, .inl (h.2.resolve_right (by omega))⟩
    ids := fun i b h => by cases h
    room := fun i b n h _ => by cases h }
  exact RepA.mono s x v h
end
end Go.Proofs.Ab

namespace Go.Proofs.Ab
open Go Go.RowKit
set_option linter.unusedVariables false
set_option linter.unusedSimpArgs false

def allT (tt : TypeId → Option TI) : List (Nat × TypeId) → Bool
  | [] => true
  | p :: r => (tt p.2).isSome && allT tt r
theorem allT_all {tt : TypeId → Option TI} : ∀ {l : List (Nat × TypeId)}, allT tt l = true → l.all (fun p => (tt p.2).isSome) = true := by
  intro l
  induction l with
  | nil => intro _; rfl
  | cons p r ih => intro h; simp only [allT, Bool.and_eq_true] at h; simp [h.1]; simpa using ih h.2
/-- The operations that write nothing that was there. -/
def calm (P : Program) (tt : TypeId → Option TI) (et : TypeId → Bool) (o : Oper) (ev : Operand → AV) (full : Nat → Option Ob) (K : AV → Option Ob → Prop) : Prop :=
  match o.op with
  | .move x => K (ev x) none
  | .assign x => K (ev x) none
  | .pick c x y => ∃ q, ev c = .d (.v (.bool q)) ∧ K (if q then ev x else ev y) none
  | .box _ x => ∃ cs d, (ev x).cells = some cs ∧ o.dst = some d ∧ K (.pt d 0) (some (.var cs))
  | .alloc t => ∃ i d, tt t = some i ∧ o.dst = some d ∧ K (.pt d 0) (some (.var (i.zeros.map fun x => .d (.v x))))
  | .load t x => ∃ i v, tt t = some i ∧ loadA full i (ev x) = some v ∧ K v none
  | .fieldAddr t x f => ∃ i p v, tt t = some i ∧ fieldA tt i f = some p ∧ fieldAddrA p.1 (ev x) = some v ∧ K v none
  | .field t x f => ∃ i p cs v, tt t = some i ∧ fieldA tt i f = some p ∧ ev x = .ag cs ∧ pick p.2 (cs.drop p.1) = some v ∧ K v none
  | .indexAddr t x ix => ∃ e ei k m, tt t = some (.sl e) ∧ tt e = some ei ∧ ev ix = .d (.v (.int k m)) ∧ 0 ≤ m ∧ idxA ei.size (ev x) m.toNat fun v => K v none
  | .index t x ix => ∃ k m, tt t = some .str ∧ ev ix = .d (.v (.int k m)) ∧ 0 ≤ m ∧ strIdxA (ev x) m.toNat fun v => K v none
  | .slice t x lo hi mx => ∃ i, tt t = some i ∧
      CutOk tt i (ev x) ∧
      (match mx with
       | none => cutA (ev x) (lo.map ev) (hi.map ev) false fun v => K v none
       | some m => ∃ h k q, hi = some h ∧ ev h = .d (.v (.int k q)) ∧ ev m = .d (.v (.int k q)) ∧ cutA (ev x) (lo.map ev) (hi.map ev) true fun v => K v none)
  | .binOp op t x y _ => binA op (ev x) (ev y) (fun v => K v none) ∨
      (∃ i neq, tt t = some i ∧ op = (if neq then .neq else .eql) ∧ eqA et t i neq (ev x) (ev y) fun v => K v none)
  | .unOp op _ x => unA op (ev x) fun v => K v none
  | .convert s t x => ∃ i k k' m q, tt s = some i ∧ tt t = some (.ik k q) ∧ ev x = .d (.v (.int k' m)) ∧ K (.d (.v (.int k (k.wrap m)))) none
  | .build t parts => ∃ sz b fs zs out, tt t = some (.st sz b fs zs) ∧ allT tt fs = true ∧ fillA (placeA tt (.st sz b fs zs)) (zs.map fun x => .d (.v x)) (parts.toList.map fun p => (p.1, ev p.2)) = some out ∧ K (.ag out) none
  | .buildSlice t len parts => ∃ e ei es d, tt t = some (.sl e) ∧ tt e = some ei ∧ o.dst = some d ∧ parts.toList.length = len ∧ len * ei.size ≤ 16777216 ∧ elemsA ei.size 0 (parts.toList.map fun p => (p.1, ev p.2)) = some es ∧ K (.ms d ei.size 0 len) (some (.arr ei.size es))
  | .makeSlice t l c => ∃ e ei k k' m d, tt t = some (.sl e) ∧ tt e = some ei ∧ o.dst = some d ∧ ev l = .d (.v (.int k m)) ∧ ev c = .d (.v (.int k' m)) ∧ 0 ≤ m ∧ m * ei.bytes ≤ 140737488355328 ∧ m ≤ 9223372036854775807 ∧ ei.size ≠ 0 ∧
      K (.ms d ei.size 0 m.toNat) (some (.arr ei.size (List.replicate m.toNat (ei.zeros.map .v))))
  | .makeFunc fn first caps => ∃ f, fn = .func f ∧ first = #[] ∧ K (.cl f (caps.toList.map ev)) none
  | .nilCheck x => (match ev x with | .pt _ _ => True | .pe _ _ _ _ => True | .bp _ => True | .d (.rp _) => True | .cl _ _ => True | _ => False) ∧ K (ev x) none
  | .extract x i => ∃ vs v, ev x = .tp vs ∧ vs[i]? = some v ∧ K v none
  | .call c => match c.callee with
    | .value f => ∃ g caps xs args r, ev f = .cl g caps ∧ passL full (c.args.toList.map ev ++ caps) = some xs ∧ LeL xs args ∧ Good P g args r ∧ K r none
    | .builtin .len => ∃ t x i, c.argTypes = #[t] ∧ c.args = #[x] ∧ tt t = some i ∧
        LenOk i (ev x) ∧ lenA (ev x) fun m => K (.d (.v (.int .i64 m))) none
    | .builtin .min => ∃ x y k m k' m', c.args = #[x, y] ∧ ev x = .d (.v (.int k m)) ∧ ev y = .d (.v (.int k' m')) ∧ k = k' ∧ K (.d (.v (.int k (if m' < m then m' else m)))) none
    | .builtin .max => ∃ x y k m k' m', c.args = #[x, y] ∧ ev x = .d (.v (.int k m)) ∧ ev y = .d (.v (.int k' m')) ∧ k = k' ∧ K (.d (.v (.int k (if m < m' then m' else m)))) none
    | _ => False
  | _ => False

def updE (ev : Nat → AV) (d : Option Nat) (x : AV) : Nat → AV := match d with | some d => fun t => if t = d then x else ev t | none => ev
/-- What stands behind a calm operation. -/
def After (n base : Nat) (w0 : World) (F0 : Nat → Nat → Prop) (ι : Nat → Option Nat) (full : Nat → Option Ob) (ev : Nat → AV) (dst : Option Nat) (x : AV) (ob : Option Ob) (a' : Act) (w' : World) : Prop :=
  match ob with
  | none => Core n base w0 F0 ι full (updE ev dst x) a' w'
  | some oo => ∃ d b, dst = some d ∧ ∀ full' : Nat → Option Ob, (∀ j b, ι j = some b → full' j = full j) → full' d = some oo → Core n base w0 F0 (upd ι d b) full' (updE ev dst x) a' w'

section
variable {P : Program} {n base : Nat} {w0 : World} {F0 : Nat → Nat → Prop} {ι : Nat → Option Nat} {full : Nat → Option Ob} {ev : Nat → AV} {a : Act} {w : World}
theorem Core.putO (hc : Core n base w0 F0 ι full ev a w) {dst : Option Nat} (hd : ∀ d, dst = some d → d < n) {x : AV} {v : Value} (hx : RepA ι (FF F0 ι) base w x v) : Core n base w0 F0 ι full (updE ev dst x) (a.put dst v) w := by
  cases dst with
  | none => exact hc
  | some d => exact hc.put (hd d rfl) hx
/-- An operation that yields a value and leaves the world. -/
theorem fin_val (hc : Core n base w0 F0 ι full ev a w) {o : Oper} (hd : ∀ d, o.dst = some d → d < n) {x : AV} {u : Value} {s : Sem Value} (he : execOp a.eval o = (do pure (.value (← s)))) (hs : s.run P w = .ok u w) (hx : RepA ι (FF F0 ι) base w x u)
    {next : Act → World → Prop} {Q : Exit → Act → World → Prop} (hn : ∀ a' w', After n base w0 F0 ι full ev o.dst x none a' w' → next a' w') : o.wp P a w next Q := by
  unfold Oper.wp
  rw [he]
  simp only [Sem.run_bind, hs, Result.andThen_ok, Sem.run_pure, Oper.upon_value]
  exact hn _ _ (hc.putO hd hx)
/-- An operation that yields a new variable. -/
theorem fin_new (hc : Core n base w0 F0 ι full ev a w) {o : Oper} {d : Nat} (hdst : o.dst = some d) (hd : d < n) (hf : ι d = none) {x : AV} {u : Value} {s : Sem Value} {c : Array Value} {T : TypeId} {ob : Ob}
    (he : execOp a.eval o = (do pure (.value (← s)))) (hs : s.run P w = .ok u (w.alloc (.cells c T)))
    (ho : ObNew ι (FF F0 ι) base w c ob)
    (hx : RepA (upd ι d w.heap.size) (FF F0 (upd ι d w.heap.size)) base (w.alloc (.cells c T)) x u)
    {next : Act → World → Prop} {Q : Exit → Act → World → Prop} (hn : ∀ a' w', After n base w0 F0 ι full ev o.dst x (some ob) a' w' → next a' w') : o.wp P a w next Q := by
  unfold Oper.wp
  rw [he]
  simp only [Sem.run_bind, hs, Result.andThen_ok, Sem.run_pure, Oper.upon_value]
  refine hn _ _ ⟨d, w.heap.size, hdst, fun full' h1 h2 => ?_⟩
  rw [hdst]
  exact hc.new hf hd h1 h2 ho hx
/-- A call. -/
theorem fin_call (hc : Core n base w0 F0 ι full ev a w) {o : Oper} (hd : ∀ d, o.dst = some d → d < n) {g : FuncId} {xs args : List AV} {vs : List Value} {r : AV} (hg : Good P g args r) (hl : LeL xs args)
    (hr : RepL none' (FF F0 ι) w.heap.size w xs vs) (he : (execOp a.eval o).run P w = .ok (.enter g vs.toArray) w)
    {next : Act → World → Prop} {Q : Exit → Act → World → Prop} (hn : ∀ a' w', After n base w0 F0 ι full ev o.dst r none a' w' → next a' w') : o.wp P a w next Q := by
  unfold Oper.wp
  rw [he]
  rw [Oper.upon_enter]
  refine (hg.2 w (FF F0 ι) vs ?_ (hl.sound hr)).mono ?_
  · rintro b o (h | ⟨id, h⟩)
    · exact Nat.lt_of_lt_of_le (hc.lowF b o h) hc.size
    · exact (hc.low _ _ h).2
  · rintro e w' ⟨v, rfl, hb, hv⟩
    exact hn _ _ ((hc.later hb).putO hd hv.back)

theorem convert_run {tt : TypeId → Option TI} (htt : TOK P tt) {s t : TypeId} {i : TI} {k k' : IntKind} {m : Int} {q : Nat} (hs : tt s = some i) (ht : tt t = some (.ik k q)) : (convert s t (.int k' m)).run P w = .ok (.int k (k.wrap m)) w := by
  obtain ⟨d, h1, _⟩ := (htt _ _ hs).under
  have h2 : P.underlying t = some (.int k) := (htt _ _ ht).2
  simp [convert, run_underlying h1, run_underlying h2, Conv.intToInt]
theorem run_min2 (ts : Array TypeId) (t : TypeId) (k : IntKind) (x y : Int) : (Builtin.min_ ts t #[.int k x, .int k y]).run P w = .ok (.int k (if y < x then y else x)) w := by
  simp [Builtin.min_, Builtin.min2]
theorem run_max2 (ts : Array TypeId) (t : TypeId) (k : IntKind) (x y : Int) : (Builtin.max_ ts t #[.int k x, .int k y]).run P w = .ok (.int k (if x < y then y else x)) w := by
  simp [Builtin.max_, Builtin.max2]
end
end Go.Proofs.Ab

namespace Go.Proofs.Ab
open Go Go.RowKit
set_option linter.unusedVariables false
set_option linter.unusedSimpArgs false

section
variable {P : Program} {n base : Nat} {w0 : World} {F0 : Nat → Nat → Prop} {ι : Nat → Option Nat} {full : Nat → Option Ob} {ev : Nat → AV} {a : Act} {w : World}
def makes (o : Oper) : Bool := match o.op with
  | .box .. => true
  | .alloc .. => true
  | .buildSlice .. => true
  | .makeSlice .. => true
  | _ => false
theorem evs_rep (hc : Core n base w0 F0 ι full ev a w) (l : List Operand) : RepL ι (FF F0 ι) base w (l.map (evO ev)) (l.map a.eval) := by
  induction l with
  | nil => rfl
  | cons x r ih => exact ⟨_, _, rfl, hc.evO x, ih⟩
theorem parts_rep (hc : Core n base w0 F0 ι full ev a w) (l : List (Nat × Operand)) : RepPs ι (FF F0 ι) base w (l.map fun p => (p.1, evO ev p.2)) (l.map fun p => (p.1, a.eval p.2)) := by
  induction l with
  | nil => rfl
  | cons x r ih => exact ⟨_, _, rfl, hc.evO _, ih⟩
theorem run_enter {g : FuncId} {args : Array Value} (hf : ∃ fn, P.funcs[g]? = some fn ∧ (fn.name == "runtime.NumGoroutine") = false ∧ fn.body.isNone = false) : (callFunc g args).run P w = .ok (.enter g args) w := by
  obtain ⟨fn, h1, h2, h3⟩ := hf
  have h2' : fn.name ≠ "runtime.NumGoroutine" := by simpa using h2
  have h3' : fn.body ≠ none := by intro e; rw [e] at h3; cases h3
  simp [callFunc, h1, h2', h3']
theorem repv (u : Value) : RepA ι (FF F0 ι) base w (.d (.v u)) u := rfl
theorem cutL_at {len : Nat} {lo hi : Option AV} {K : Nat → Nat → Prop} (h : cutL len lo hi K) : ∃ l h, K l h ∧ ∀ K' : Nat → Nat → Prop, K' l h → cutL len lo hi K' := by
  have opt : ∀ (o : Option AV) (d : Nat) (A : Nat → Prop), optInt o d A → ∃ m, A m ∧ ∀ B : Nat → Prop, B m → optInt o d B := by
    intro o d A h
    unfold optInt at h ⊢
    split at h
    · exact ⟨_, h, fun B hB => hB⟩
    · obtain ⟨k, m, q1, q2, q3⟩ := h; exact ⟨_, q3, fun B hB => ⟨k, m, q1, q2, hB⟩⟩
  obtain ⟨m, ⟨h1, h2⟩, h3⟩ := opt _ _ _ h
  obtain ⟨l, ⟨h4, h5⟩, h6⟩ := opt _ _ _ h2
  exact ⟨l, m, h5, fun K' hK => h3 _ ⟨h1, h6 _ ⟨h4, hK⟩⟩⟩
theorem cutA_both {x : AV} {lo hi : Option AV} {fl : Bool} {K : AV → Prop} (h : cutA x lo hi fl K) : cutA x lo hi fl fun v => K v ∧ cutA x lo hi fl fun v' => v' = v := by
  have key : ∀ {len : Nat} {f : Nat → Nat → AV}, (cutL len lo hi fun l h => K (f l h)) → cutL len lo hi fun l h => K (f l h) ∧ cutL len lo hi fun l' h' => f l' h' = f l h := by
    intro len f h
    obtain ⟨l, h', h1, h2⟩ := cutL_at h
    exact h2 _ ⟨h1, h2 _ rfl⟩
  cases x with
  | ms id sz off len => exact key h
  | bs sz es => exact key h
  | cp sz es => exact key h
  | d y =>
    cases y with
    | v z =>
      simp only [cutA] at h ⊢
      unfold cutV at h ⊢
      split at h
      · exact ⟨h.1, by obtain ⟨l, h', h1, h2⟩ := cutL_at h.2; exact h2 _ ⟨h1, h.1, h2 _ rfl⟩⟩
      · exact key h
      · exact h.elim
    | sl sz es => exact key h
    | rp cs => exact h.elim
  | _ => exact h.elim
theorem binA_both {op : BinOp} {x y : AV} {K : AV → Prop} (h : binA op x y K) : binA op x y fun v => K v ∧ binA op x y fun v' => v' = v := by
  revert h
  unfold binA
  split
  · intro ⟨h0, h⟩
    refine ⟨h0, ?_⟩
    cases op <;> first | exact ⟨h.1, h.2, h0, h.1, rfl⟩ | (obtain ⟨v, q1, q2⟩ := h; exact ⟨v, q1, q2, h0, v, q1, rfl⟩)
  · intro h
    cases op <;> first | exact ⟨h.1, h.2, h.1, rfl⟩ | (obtain ⟨v, q1, q2⟩ := h; exact ⟨v, q1, q2, v, q1, rfl⟩)
  · exact id
theorem eqA_both {et : TypeId → Bool} {t : TypeId} {i : TI} {neq : Bool} {x y : AV} {K : AV → Prop} (h : eqA et t i neq x y K) : eqA et t i neq x y fun v => K v ∧ eqA et t i neq x y fun v' => v' = v := by
  revert h
  unfold eqA
  split
  · rintro ⟨p, q, rfl, rfl, h⟩; exact ⟨p, q, rfl, rfl, h, p, q, rfl, rfl, rfl⟩
  · rintro ⟨rfl, h⟩
    refine ⟨rfl, ?_⟩
    revert h
    unfold nilA
    split <;> intro h <;> first | exact ⟨h, rfl, rfl⟩ | exact ⟨h.1, h.2, rfl, h.1, rfl⟩ | exact h
  · rintro ⟨he, cs, ds, xs, ys, h1, h2, h3, h4, h5, h6, h7, h8, hK⟩
    exact ⟨he, cs, ds, xs, ys, h1, h2, h3, h4, h5, h6, h7, h8, hK, he, cs, ds, xs, ys, h1, h2, h3, h4, h5, h6, h7, h8, rfl⟩
  · exact id
theorem make_es (zs : List Value) (m : Nat) (hz : zs ≠ []) (hone : ∀ z ∈ zs, z.oneCell' = true) : RepEs (FF F0 ι) w (fun o y => ((Array.range (m * zs.length)).map fun j => zs.toArray[j % zs.toArray.size]!)[o]? = some y) zs.length (List.replicate m (zs.map .v)) 0 := by
  have hpos : 0 < zs.length := List.length_pos_iff.2 hz
  have gen : ∀ k, k ≤ m → RepEs (FF F0 ι) w (fun o y => ((Array.range (m * zs.length)).map fun j => zs.toArray[j % zs.toArray.size]!)[o]? = some y) zs.length (List.replicate k (zs.map .v)) ((m - k) * zs.length) := by
    intro k
    induction k with
    | zero => intro _; trivial
    | succ k ih =>
      intro hk
      have h1 := ih (by omega)
      refine ⟨by simp, ?_, by rw [show (m - (k + 1)) * zs.length + zs.length = (m - k) * zs.length by rw [show m - k = (m - (k + 1)) + 1 by omega, Nat.add_mul, Nat.one_mul]]; exact h1⟩
      have cs : ∀ (l : List Value) (j : Nat), zs.drop j = l → RepCs (FF F0 ι) w (fun o y => ((Array.range (m * zs.length)).map fun j => zs.toArray[j % zs.toArray.size]!)[o]? = some y) (l.map .v) ((m - (k + 1)) * zs.length + j) := by
        intro l
        induction l with
        | nil => intro j _; trivial
        | cons z r ih2 =>
          intro j hj
          have hjl : j < zs.length := by
            rcases Nat.lt_or_ge j zs.length with h | h
            · exact h
            · rw [List.drop_eq_nil_of_le h] at hj; cases hj
          have hz : zs[j]? = some z := by
            have := congrArg List.head? hj
            simpa [List.head?_drop] using this
          refine ⟨⟨hone z (List.mem_of_getElem? hz), z, ?_, rfl⟩, ih2 (j + 1) (by rw [← List.drop_drop, hj]; rfl)⟩
          have hlt : (m - (k + 1)) * zs.length + j < m * zs.length := by
            have : (m - (k + 1)) * zs.length + zs.length ≤ m * zs.length := by
              rw [← Nat.succ_mul]; exact Nat.mul_le_mul_right _ (by omega)
            omega
          have hmod : ((m - (k + 1)) * zs.length + j) % zs.length = j := by
            rw [Nat.mul_comm, Nat.mul_add_mod, Nat.mod_eq_of_lt hjl]
          simp only [Array.getElem?_map, Array.getElem?_range, hlt, if_true, Option.map_some, List.size_toArray, hmod]
          simp [hz]
      exact cs zs 0 rfl
  have := gen m (Nat.le_refl _)
  simpa using this

set_option maxHeartbeats 1000000 in
theorem calm_sound {tt : TypeId → Option TI} {et : TypeId → Bool} (htt : TOK P tt) (hett : ETOK P tt et) (hc : Core n base w0 F0 ι full ev a w) {o : Oper} (hd : ∀ d, o.dst = some d → d < n) (hf : makes o = true → ∀ d, o.dst = some d → ι d = none)
    {K : AV → Option Ob → Prop} (h : calm P tt et o (evO ev) full K) :
    ∃ x ob, K x ob ∧ calm P tt et o (evO ev) full (fun x' ob' => x' = x ∧ ob' = ob) ∧
      ∀ (next : Act → World → Prop) (Q : Exit → Act → World → Prop), (∀ a' w', After n base w0 F0 ι full ev o.dst x ob a' w' → next a' w') → o.wp P a w next Q := by
  unfold makes at hf
  unfold calm at h ⊢
  cases ho : o.op with
  | move x =>
    simp only [ho] at h hf ⊢
    exact ⟨_, _, h, ⟨rfl, rfl⟩, fun next Q hn => fin_val hc hd (s := pure (a.eval x)) (by simp [execOp, ho]) (by simp) (hc.evO x) hn⟩
  | assign x =>
    simp only [ho] at h hf ⊢
    exact ⟨_, _, h, ⟨rfl, rfl⟩, fun next Q hn => fin_val hc hd (s := pure (a.eval x)) (by simp [execOp, ho]) (by simp) (hc.evO x) hn⟩
  | pick c x y =>
    simp only [ho] at h hf ⊢
    obtain ⟨q, h1, h2⟩ := h
    have hq := hc.evO c
    rw [h1] at hq
    obtain hq : a.eval c = .bool q := hq
    refine ⟨_, _, h2, ⟨q, h1, rfl, rfl⟩, fun next Q hn => fin_val hc hd (s := do pure (if ← asBool (a.eval c) then a.eval x else a.eval y)) (u := if q then a.eval x else a.eval y) (by simp [execOp, ho]) (by simp [hq, asBool]) ?_ hn⟩
    cases q
    · exact hc.evO y
    · exact hc.evO x
  | box t x =>
    simp only [ho] at h hf ⊢
    obtain ⟨cs, d, h1, h2, h3⟩ := h
    obtain ⟨us, e1, e2, _⟩ := AV.cells_sound (hc.evO x) h1
    refine ⟨_, _, h3, ⟨cs, d, h1, h2, rfl, rfl⟩, fun next Q hn => ?_⟩
    refine fin_new hc h2 (hd d h2) (hf trivial d h2) (s := Instr.box t (a.eval x)) (c := us.toArray) (T := t) (u := .pointer (some ⟨w.heap.size, 0, none⟩)) (by simp [execOp, ho]) ?_ (by simpa [ObNew] using e2) (x := .pt d 0) ⟨w.heap.size, by simp [upd], rfl⟩ hn
    simp [Instr.box, newVar, newRow, newObj, Sem.run, e1]
  | alloc t =>
    simp only [ho] at h hf ⊢
    obtain ⟨i, d, h1, h2, h3⟩ := h
    have ht := htt _ _ h1
    refine ⟨_, _, h3, ⟨i, d, h1, h2, rfl, rfl⟩, fun next Q hn => ?_⟩
    have hz : i.zero.cells = i.zeros.toArray := by
      cases i with
      | sc b z => have := ht.2.1; cases z <;> first | rfl | cases this
      | _ => rfl
    refine fin_new hc h2 (hd d h2) (hf trivial d h2) (s := Instr.alloc t true (.tuple #[])) (c := i.zeros.toArray) (T := t) (u := .pointer (some ⟨w.heap.size, 0, none⟩)) (by simp [execOp, ho]) ?_ (by simpa [ObNew] using zeros_rep _) (x := .pt d 0) ⟨w.heap.size, by simp [upd], rfl⟩ hn
    simp [Instr.alloc, run_zeroValue_tok ht, newVar, newRow, newObj, Sem.run, hz]
  | load t x =>
    simp only [ho] at h hf ⊢
    obtain ⟨i, v, h1, h2, h3⟩ := h
    obtain ⟨u, e1, e2⟩ := loadA_sound hc (htt _ _ h1) (hc.evO x) h2
    exact ⟨_, _, h3, ⟨i, v, h1, h2, rfl, rfl⟩, fun next Q hn => fin_val hc hd (s := Instr.loadAt t (a.eval x)) (by simp [execOp, ho]) e1 e2 hn⟩
  | fieldAddr t x f =>
    simp only [ho] at h hf ⊢
    obtain ⟨i, ⟨off, fi⟩, v, h1, h2, h3, h4⟩ := h
    obtain ⟨u, e1, e2⟩ := fieldAddrA_sound htt (htt _ _ h1) h2 (hc.evO x) h3
    exact ⟨_, _, h4, ⟨i, _, v, h1, h2, h3, rfl, rfl⟩, fun next Q hn => fin_val hc hd (s := Instr.fieldAt t (a.eval x) f) (by simp [execOp, ho]) e1 e2 hn⟩
  | field t x f =>
    simp only [ho] at h hf ⊢
    obtain ⟨i, ⟨off, fi⟩, cs, v, h1, h2, h3, h4, h5⟩ := h
    have hx := hc.evO x
    rw [h3] at hx
    obtain ⟨u, e1, e2⟩ := partA_sound htt (htt _ _ h1) h2 hx h4
    exact ⟨_, _, h5, ⟨i, _, cs, v, h1, h2, h3, h4, rfl, rfl⟩, fun next Q hn => fin_val hc hd (s := Instr.field t (a.eval x) f) (by simp [execOp, ho]) e1 e2 hn⟩
  | indexAddr t x ix =>
    simp only [ho] at h hf ⊢
    obtain ⟨e, ei, k, m, h1, h2, h3, h4, h5⟩ := h
    obtain ⟨v, hK, u, e1, e2⟩ := idxA_sound (K := fun v => K v none ∧ idxA ei.size (evO ev x) m.toNat fun v' => v' = v) (htt _ _ h1).2 (htt _ _ h2) h4 (hc.evO x) (by
      revert h5; unfold idxA; split <;> intro h <;> first | exact ⟨h.1, h.2.1, h.2.2, h.1, h.2.1, rfl⟩ | (obtain ⟨q1, e, q2, q3⟩ := h; exact ⟨q1, e, q2, q3, q1, e, q2, rfl⟩) | exact h)
    have hi := hc.evO ix
    rw [h3] at hi
    obtain hi : a.eval ix = .int k m := hi
    exact ⟨_, _, hK.1, ⟨e, ei, k, m, h1, h2, h3, h4, by simpa using hK.2⟩, fun next Q hn => fin_val hc hd (s := Instr.indexAt t (a.eval x) (a.eval ix)) (by simp [execOp, ho]) (by rw [hi]; exact e1) e2 hn⟩
  | index t x ix =>
    simp only [ho] at h hf ⊢
    obtain ⟨k, m, h1, h3, h4, h5⟩ := h
    obtain ⟨v, hK, u, e1, e2⟩ := strIdxA_sound (K := fun v => K v none ∧ strIdxA (evO ev x) m.toNat fun v' => v' = v) (htt _ _ h1).2 h4 (hc.evO x) (by
      revert h5; unfold strIdxA; split <;> intro h <;> first | (obtain ⟨q1, q2⟩ := h; exact ⟨q1, q2, q1, rfl⟩) | exact h)
    have hi := hc.evO ix
    rw [h3] at hi
    obtain hi : a.eval ix = .int k m := hi
    exact ⟨_, _, hK.1, ⟨k, m, h1, h3, h4, by simpa using hK.2⟩, fun next Q hn => fin_val hc hd (s := Instr.index t (a.eval x) (a.eval ix)) (by simp [execOp, ho]) (by rw [hi]; exact e1) e2 hn⟩
  | slice t x lo hi mx =>
    simp only [ho] at h hf ⊢
    obtain ⟨i, h1, h2, h3⟩ := h
    have hlo : ∀ x, lo.map (evO ev) = some x → ∃ y, lo.map a.eval = some y ∧ RepA ι (FF F0 ι) base w x y := by
      intro x hx
      cases lo with
      | none => cases hx
      | some l => simp only [Option.map_some, Option.some.injEq] at hx; subst hx; exact ⟨_, rfl, hc.evO l⟩
    have hhi : ∀ x, hi.map (evO ev) = some x → ∃ y, hi.map a.eval = some y ∧ RepA ι (FF F0 ι) base w x y := by
      intro x hx
      cases hi with
      | none => cases hx
      | some l => simp only [Option.map_some, Option.some.injEq] at hx; subst hx; exact ⟨_, rfl, hc.evO l⟩
    have cutK : ∀ (x : AV) (lo hi : Option AV) (fl : Bool) (K K' : AV → Prop), cutA x lo hi fl K → (∀ v, K v → K v ∧ K' v) ∨ True := fun _ _ _ _ _ _ _ => .inr trivial
    have hlo' : lo.map (evO ev) = none → lo.map a.eval = none := by cases lo <;> simp
    have hhi' : hi.map (evO ev) = none → hi.map a.eval = none := by cases hi <;> simp
    cases mx with
    | none =>
      obtain ⟨v, hK, u, e1, e2⟩ := cutA_sound (htt _ _ h1) htt (vmx := none) h2 hlo hlo' hhi hhi' (.inl ⟨rfl, rfl⟩) (hc.evO x) (cutA_both h3)
      exact ⟨_, _, hK.1, ⟨i, h1, h2, by simpa using hK.2⟩, fun next Q hn => fin_val hc hd (s := Instr.sliceAt t (a.eval x) (lo.map a.eval) (hi.map a.eval) none) (by simp [execOp, ho]) e1 e2 hn⟩
    | some m =>
      obtain ⟨hh, k, q, rfl, q1, q2, h3⟩ := h3
      have r1 := hc.evO hh
      have r2 := hc.evO m
      rw [q1] at r1
      rw [q2] at r2
      obtain r1 : a.eval hh = .int k q := r1
      obtain r2 : a.eval m = .int k q := r2
      obtain ⟨v, hK, u, e1, e2⟩ := cutA_sound (htt _ _ h1) htt (vmx := some (a.eval m)) h2 hlo hlo' hhi hhi' (.inr ⟨rfl, by simp [r1, r2], by simp⟩) (hc.evO x) (cutA_both h3)
      exact ⟨_, _, hK.1, ⟨i, h1, h2, hh, k, q, rfl, q1, q2, by simpa using hK.2⟩, fun next Q hn => fin_val hc hd (s := Instr.sliceAt t (a.eval x) (lo.map a.eval) ((some hh).map a.eval) (some (a.eval m))) (by simp [execOp, ho]) e1 e2 hn⟩
  | binOp op t x y yt =>
    simp only [ho] at h hf ⊢
    rcases h with h | ⟨i, neq, h1, h2, h3⟩
    · obtain ⟨v, hK, u, e1, e2⟩ := binA_sound (op := op) (t := t) (ox := x) (oy := y) (hc.evO x) (hc.evO y) (binA_both h)
      exact ⟨_, _, hK.1, .inl (by simpa using hK.2), fun next Q hn => fin_val hc hd (s := do eqGuard op t x y (a.eval x) (a.eval y); binOp op t (a.eval x) (a.eval y)) (by simp [execOp, ho]) e1 e2 hn⟩
    · obtain ⟨v, hK, u, e1, e2⟩ := eqA_sound hett h1 (htt _ _ h1) h2 (ox := x) (oy := y) (hc.evO x) (hc.evO y) (eqA_both h3)
      exact ⟨_, _, hK.1, .inr ⟨i, neq, h1, h2, by simpa using hK.2⟩, fun next Q hn => fin_val hc hd (s := do eqGuard op t x y (a.eval x) (a.eval y); binOp op t (a.eval x) (a.eval y)) (by simp [execOp, ho]) e1 e2 hn⟩
  | unOp op t x =>
    simp only [ho] at h hf ⊢
    have hx := hc.evO x
    unfold unA at h ⊢
    split at h
    · rename_i b e
      rw [e] at hx
      obtain hx : a.eval x = .bool b := hx
      exact ⟨_, _, h, by simp [e], fun next Q hn => fin_val hc hd (s := Op.unary .not (a.eval x)) (u := .bool (!b)) (by simp [execOp, ho]) (by simp [hx, Op.unary]) (repv _) hn⟩
    · rename_i k m e
      rw [e] at hx
      obtain hx : a.eval x = .int k m := hx
      exact ⟨_, _, h, by simp [e], fun next Q hn => fin_val hc hd (s := Op.unary .neg (a.eval x)) (u := .int k (k.wrap (0 - m))) (by simp [execOp, ho]) (by simp [hx, Op.unary, Op.intArith]) (repv _) hn⟩
    · exact h.elim
  | convert s t x =>
    simp only [ho] at h hf ⊢
    obtain ⟨i, k, k', m, q, h1, h2, h3, h4⟩ := h
    have hx := hc.evO x
    rw [h3] at hx
    obtain hx : a.eval x = .int k' m := hx
    exact ⟨_, _, h4, ⟨i, k, k', m, q, h1, h2, h3, rfl, rfl⟩, fun next Q hn => fin_val hc hd (s := convert s t (a.eval x)) (u := .int k (k.wrap m)) (by simp [execOp, ho]) (by rw [hx]; exact convert_run htt h1 h2) (repv _) hn⟩
  | build t parts =>
    simp only [ho] at h hf ⊢
    obtain ⟨sz, b, fs, zs, out, h1, h2, h3, h4⟩ := h
    obtain ⟨u, e1, e2⟩ := buildA_sound htt (htt _ _ h1) (allT_all h2) (pv := parts.map fun p => (p.1, a.eval p.2)) (by simpa using parts_rep hc parts.toList) h3
    exact ⟨_, _, h4, ⟨sz, b, fs, zs, out, h1, h2, h3, rfl, rfl⟩, fun next Q hn => fin_val hc hd (s := Instr.build t (parts.map fun p => (p.1, a.eval p.2))) (by simp [execOp, ho]) e1 e2 hn⟩
  | makeFunc fn first caps =>
    simp only [ho] at h hf ⊢
    obtain ⟨f, rfl, rfl, h3⟩ := h
    exact ⟨_, _, h3, ⟨f, rfl, rfl, rfl, rfl⟩, fun next Q hn => fin_val hc hd (s := Instr.makeFunc (.func f) #[] (caps.map a.eval)) (u := .func (.func f) #[] (caps.map a.eval)) (x := .cl f (caps.toList.map (evO ev))) (by simp [execOp, ho]) (by simp [Instr.makeFunc]) ⟨caps.toList.map a.eval, by rw [← Array.toList_map, Array.toArray_toList], evs_rep hc _⟩ hn⟩
  | nilCheck x =>
    simp only [ho] at h hf ⊢
    obtain ⟨h1, h2⟩ := h
    have hx := hc.evO x
    refine ⟨_, _, h2, ⟨h1, rfl, rfl⟩, fun next Q hn => fin_val hc hd (s := pure (a.eval x)) (u := a.eval x) ?_ (by simp) hx hn⟩
    simp only [execOp, ho]
    split at h1
    · rename_i e; rw [e] at hx; obtain ⟨b, _, e2⟩ := hx; rw [e2]; rfl
    · rename_i e; rw [e] at hx; obtain ⟨b, _, e2⟩ := hx; rw [e2]; rfl
    · rename_i e; rw [e] at hx; obtain ⟨b, _, e2, _⟩ := hx; rw [e2]; rfl
    · rename_i e; rw [e] at hx; obtain ⟨b, _, e2, _⟩ := hx; rw [e2]; rfl
    · rename_i e; rw [e] at hx; obtain ⟨b, e2, _⟩ := hx; rw [e2]; rfl
    · exact h1.elim
  | extract x i =>
    simp only [ho] at h hf ⊢
    obtain ⟨vs, v, h1, h2, h3⟩ := h
    have hx := hc.evO x
    rw [h1] at hx
    obtain ⟨us, e1, e2⟩ := hx
    obtain ⟨u, e3, e4⟩ := e2.at _ _ h2
    exact ⟨_, _, h3, ⟨vs, v, h1, h2, rfl, rfl⟩, fun next Q hn => fin_val hc hd (s := Instr.extract (a.eval x) i) (u := u) (by simp [execOp, ho]) (by rw [e1]; simp [Instr.extract, e3]) e4 hn⟩
  | buildSlice t len parts =>
    simp only [ho] at h hf ⊢
    obtain ⟨e, ei, es, d, h1, h2, h3, h4, h5, h6, h7⟩ := h
    have hu : P.underlying t = some (.slice e) := (htt _ _ h1).2
    have hei := htt _ _ h2
    have hps := parts_rep hc parts.toList
    obtain ⟨arr, f1, f2, _, f4, f5⟩ := fill_ordered ei.size _ _ 0 ((Array.range (len * ei.size)).map fun i => (if len * ei.size = 0 then #[] else ei.zero.cells)[i % (if len * ei.size = 0 then #[] else ei.zero.cells).size]!) es hps h6 (by simp [h4])
    simp only [List.length_map, h4] at f4
    simp only [Nat.zero_mul] at f5
    simp only [Array.size_map, Array.size_range] at f2
    refine ⟨_, _, h7, ⟨e, ei, es, d, h1, h2, h3, h4, h5, h6, rfl, rfl⟩, fun next Q hn => ?_⟩
    refine fin_new hc h3 (hd d h3) (hf trivial d h3) (s := Instr.buildSlice t len (parts.map fun p => (p.1, a.eval p.2))) (c := arr) (T := e) (u := .slice (some ⟨w.heap.size, 0, none⟩) len len) (ob := .arr ei.size es) (by simp [execOp, ho]) ?_ ⟨f5, by rw [f4, f2]; exact Nat.le_refl _⟩
      (x := .ms d ei.size 0 len) (.inl ⟨w.heap.size, len, by simp [upd], by simp, Nat.le_refl _, arr, e, heap_alloc_new w _, by rw [f2]; simp⟩) hn
    have hpt : (parts.map fun p => (p.1, a.eval p.2)).toList = parts.toList.map fun p => (p.1, a.eval p.2) := by simp
    have hno : ¬ len * ei.size > 2 ^ 24 := by simp; omega
    by_cases e0 : len * ei.size = 0
    · simp only [if_pos e0] at f1
      simp only [Instr.buildSlice, Sem.run_bind, run_underlying hu, Result.andThen_ok, run_sizeOf_tok hei, if_neg hno, if_pos e0, Sem.run_pure, hpt, f1]
      simp [newRow, newObj, Sem.run]
    · simp only [if_neg e0] at f1
      simp only [Instr.buildSlice, Sem.run_bind, run_underlying hu, Result.andThen_ok, run_sizeOf_tok hei, if_neg hno, if_neg e0, Sem.run_pure, run_zeroValue_tok hei, hpt, f1]
      simp [newRow, newObj, Sem.run]
  | makeSlice t l c =>
    simp only [ho] at h hf ⊢
    obtain ⟨e, ei, k, k', m, d, h1, h2, h3, h4, h5, h6, h7, h8, h9, hK⟩ := h
    have hu : P.underlying t = some (.slice e) := (htt _ _ h1).2
    have hei := htt _ _ h2
    have hl := hc.evO l
    rw [h4] at hl
    obtain hl : a.eval l = .int k m := hl
    have hcp := hc.evO c
    rw [h5] at hcp
    obtain hcp : a.eval c = .int k' m := hcp
    have hz0 : ei.zero.cells = ei.zeros.toArray := by
      cases ei with
      | sc b z => have := hei.2.1; cases z <;> first | rfl | cases this
      | _ => rfl
    have hzl : ei.zeros.length = ei.size := by
      cases ei with
      | st n b fs z => exact hei.2.1
      | _ => rfl
    have hzne : ei.zeros ≠ [] := by intro e; rw [e] at hzl; simp at hzl; omega
    have hz1 : ∀ z ∈ ei.zeros, z.oneCell' = true := by
      cases ei with
      | st n b fs z => have := hei.2.2.1; rw [List.all_eq_true] at this; exact this
      | sc b z => have := hei.2.1; simpa [TI.zeros, TI.zero] using this
      | _ => simp [TI.zeros, TI.zero, Value.oneCell']
    have hes := make_es (F0 := F0) (ι := ι) (w := w) ei.zeros m.toNat hzne hz1
    rw [hzl] at hes
    refine ⟨_, _, hK, ⟨e, ei, k, k', m, d, h1, h2, h3, h4, h5, h6, h7, h8, h9, rfl, rfl⟩, fun next Q hn => ?_⟩
    refine fin_new hc h3 (hd d h3) (hf trivial d h3) (s := Instr.makeSlice t (a.eval l) (a.eval c)) (c := (Array.range (m.toNat * ei.size)).map fun j => ei.zeros.toArray[j % ei.zeros.toArray.size]!) (T := e) (u := .slice (some ⟨w.heap.size, 0, none⟩) m.toNat m.toNat) (ob := .arr ei.size (List.replicate m.toNat (ei.zeros.map .v))) (by simp [execOp, ho]) ?_ ⟨hes, by simp⟩
      (x := .ms d ei.size 0 m.toNat) (.inl ⟨w.heap.size, m.toNat, by simp [upd], by simp, Nat.le_refl _, _, e, heap_alloc_new w _, by simp⟩) hn
    obtain ⟨x, ti1, ti2, ti3, ti4⟩ := run_typeInfo_tok hei w
    have hw : IntKind.i64.wrap m = m := IntWalk.i64_in m (by omega)
    have hb : (ei.bytes : Int) * m ≤ 140737488355328 := by rw [Int.mul_comm]; exact h7
    have c1 : ¬ (m < 0) := by omega
    have c2 : ¬ ((x.bytes : Int) * m > 2 ^ 48) := by rw [ti4]; omega
    have c3 : ¬ (m.toNat * x.bytes > roomBytes) := by
      have : ((m.toNat * x.bytes : Nat) : Int) = m * ei.bytes := by rw [ti4, Int.natCast_mul, Int.toNat_of_nonneg h6]
      simp only [roomBytes]
      omega
    simp only [hl, hcp, Instr.makeSlice, Sem.run_bind, run_underlying hu, Result.andThen_ok, asInt, asIntOf, Sem.run_pure, ti1, hw]
    simp only [c1, c2, decide_false, Bool.or_false, Bool.false_eq_true, if_false, Int.lt_irrefl, gt_iff_lt, askRoom]
    have c3' : ¬ roomBytes < m.toNat * x.bytes := c3
    simp only [if_neg c3', Sem.run_bind, Sem.run_pure, Result.andThen_ok, run_sizeOf_tok hei]
    by_cases e0 : m.toNat * ei.size = 0
    · have er : Array.range 0 = #[] := rfl
      simp only [if_pos e0, e0, er]
      simp [newRow, newObj, Sem.run]
    · simp only [if_neg e0, Sem.run_bind, run_zeroValue_tok hei, Result.andThen_ok, hz0]
      simp [newRow, newObj, Sem.run]
  | call c =>
    simp only [ho] at h hf ⊢
    cases hcal : c.callee with
    | value f =>
      simp only [hcal] at h ⊢
      obtain ⟨g, caps, xs, args, r, h1, h2, h3, h4, h5⟩ := h
      refine ⟨_, _, h5, ⟨g, caps, xs, args, r, h1, h2, h3, h4, rfl, rfl⟩, fun next Q hn => ?_⟩
      have hfv := hc.evO f
      rw [h1] at hfv
      obtain ⟨vc, e1, e2⟩ := hfv
      have hargs := passL_sound hc _ _ _ h2 ((evs_rep hc c.args.toList).append e2)
      refine fin_call hc hd h4 h3 hargs ?_ hn
      have hen := run_enter (w := w) (args := (c.args.toList.map a.eval ++ vc).toArray) h4.1
      simp only [execOp, ho, Sem.run_bind, resolve, hcal, e1, Deferred.ofValue, Sem.run_pure, Result.andThen_ok, invoke]
      have : (#[] ++ c.args.map a.eval ++ vc.toArray) = (c.args.toList.map a.eval ++ vc).toArray := by
        rw [← List.append_toArray, ← Array.toList_map, Array.toArray_toList, Array.empty_append]
      rw [this]
      exact hen
    | builtin b =>
      simp only [hcal] at h ⊢
      cases b with
      | len =>
        obtain ⟨t, x, i, h1, h2, h3, h4, h5⟩ := h
        obtain ⟨m, ⟨hK, hK'⟩, e1⟩ := lenA_sound (K := fun m => K (.d (.v (.int .i64 m))) none ∧ lenA (evO ev x) fun m' => m' = m) (htt _ _ h3) h4 (hc.evO x) (by
          revert h5; unfold lenA; split <;> intro h <;> first | exact ⟨h, rfl⟩ | exact h) o.type
        refine ⟨_, _, hK, ⟨t, x, i, h1, h2, h3, h4, ?_⟩, fun next Q hn => fin_val hc hd (s := Builtin.len_ c.argTypes o.type #[a.eval x]) (by simp [execOp, ho, resolve, hcal, h2, invoke, builtin]) (by rw [h1]; exact e1) (repv _) hn⟩
        revert hK'
        unfold lenA
        split <;> intro h <;> first | (subst h; exact ⟨rfl, rfl⟩) | exact h
      | min =>
        obtain ⟨x, y, k, m, k', m', h1, h2, h3, rfl, h5⟩ := h
        have hx := hc.evO x
        rw [h2] at hx
        obtain hx : a.eval x = .int k m := hx
        have hy := hc.evO y
        rw [h3] at hy
        obtain hy : a.eval y = .int k m' := hy
        exact ⟨_, _, h5, ⟨x, y, k, m, k, m', h1, h2, h3, rfl, rfl, rfl⟩, fun next Q hn => fin_val hc hd (s := Builtin.min_ c.argTypes o.type #[.int k m, .int k m']) (by simp [execOp, ho, resolve, hcal, h1, hx, hy, invoke, builtin]) (run_min2 _ _ _ _ _) (repv _) hn⟩
      | max =>
        obtain ⟨x, y, k, m, k', m', h1, h2, h3, rfl, h5⟩ := h
        have hx := hc.evO x
        rw [h2] at hx
        obtain hx : a.eval x = .int k m := hx
        have hy := hc.evO y
        rw [h3] at hy
        obtain hy : a.eval y = .int k m' := hy
        exact ⟨_, _, h5, ⟨x, y, k, m, k, m', h1, h2, h3, rfl, rfl, rfl⟩, fun next Q hn => fin_val hc hd (s := Builtin.max_ c.argTypes o.type #[.int k m, .int k m']) (by simp [execOp, ho, resolve, hcal, h1, hx, hy, invoke, builtin]) (run_max2 _ _ _ _ _) (repv _) hn⟩
      | _ => exact h.elim
    | invoke r nm => simp only [hcal] at h
  | _ => simp only [ho] at h
end
end Go.Proofs.Ab

namespace Go.Proofs.Ab
open Go Go.RowKit
set_option linter.unusedVariables false
set_option linter.unusedSimpArgs false

/-! ### What may be forgotten -/
def wipe (ι : Nat → Option Nat) (p : Nat → Bool) : Nat → Option Nat := fun j => if p j then none else ι j
def mapT (f : AV → AV) (l : List (Nat × AV)) : List (Nat × AV) := l.map fun q => (q.1, f q.2)
def mapO (f : Ob → Ob) (l : List (Nat × Ob)) : List (Nat × Ob) := l.map fun q => (q.1, f q.2)
def St.sub (s : St) (p : Nat → Bool) (g : AV → AV) : St := ⟨s.nt, mapT (AV.sub p g) s.tm, mapO (Ob.sub p g) (del p s.ob)⟩
def St.kill (s : St) (p : Nat → Bool) : St := s.sub p fun _ => .un
theorem St.get_sub (s : St) (p : Nat → Bool) (g : AV → AV) (t : Nat) : (s.sub p g).get t = (s.get t).sub p g := by
  show ((lk (mapT (AV.sub p g) s.tm) t).getD .un) = _
  unfold mapT
  rw [lk_map]
  unfold St.get
  cases lk s.tm t <;> rfl
theorem St.lk_sub (s : St) (p : Nat → Bool) (g : AV → AV) (i : Nat) : lk (s.sub p g).ob i = if p i then none else (lk s.ob i).map (Ob.sub p g) := by
  show lk (mapO (Ob.sub p g) (del p s.ob)) i = _
  unfold mapO
  rw [lk_map, lk_del]
  split <;> rfl

def Weak (s s' : St) : Prop := ∀ base w0 F0 a w, RS base w0 F0 s a w → RS base w0 F0 s' a w
theorem Weak.refl (s : St) : Weak s s := fun _ _ _ _ _ h => h
theorem Weak.trans {a b c : St} (h : Weak a b) (k : Weak b c) : Weak a c := fun _ _ _ _ _ r => k _ _ _ _ _ (h _ _ _ _ _ r)

section
variable {P : Program} {n base : Nat} {w0 : World} {F0 : Nat → Nat → Prop} {ι : Nat → Option Nat} {full : Nat → Option Ob} {ev : Nat → AV} {a : Act} {w : World}
theorem StepX.wipe (p : Nat → Bool) : StepX p ι (FF F0 ι) base w (wipe ι p) (FF F0 (wipe ι p)) base w := by
  have hF : ∀ b o, ¬ FF F0 ι b o → ¬ FF F0 (Ab.wipe ι p) b o := by
    rintro b o h (h1 | ⟨i, h1⟩)
    · exact h (.inl h1)
    · unfold Ab.wipe at h1
      split at h1
      · cases h1
      · exact h (.inr ⟨i, h1⟩)
  exact {
    prot := fun b o x h => ⟨h.1, hF _ _ h.2⟩
    rdb := fun b o x h => ⟨h.1, h.2.imp (hF _ _) id⟩
    ids := fun j b hj h => by unfold Ab.wipe; rw [if_neg (by rw [hj]; simp)]; exact h
    room := fun j b n _ _ h => h }
/-- Some names are given up; g writes anew what refers to them. -/
theorem Core.wipe (h : Core n base w0 F0 ι full ev a w) (p : Nat → Bool) {g : AV → AV} {full' : Nat → Option Ob} {ev' : Nat → AV}
    (hg : ∀ x y, AV.leafAt p x → RepA ι (FF F0 ι) base w x y → RepA (wipe ι p) (FF F0 (wipe ι p)) base w (g x) y)
    (hf : ∀ j, p j = false → full' j = (full j).map (Ob.sub p g)) (he : ∀ t, ev' t = (ev t).sub p g) :
    Core n base w0 F0 (Ab.wipe ι p) full' ev' a w where
  below := h.below
  lowF := h.lowF
  size := h.size
  inj := by
    intro i j b hi hj
    unfold Ab.wipe at hi hj
    split at hi
    · cases hi
    · split at hj
      · cases hj
      · exact h.inj i j b hi hj
  low := by
    intro i b hi
    unfold Ab.wipe at hi
    split at hi
    · cases hi
    · exact h.low i b hi
  obs := by
    intro i b hi
    unfold Ab.wipe at hi
    split at hi
    · cases hi
    · rename_i hp
      replace hp := Bool.eq_false_iff.2 hp
      obtain ⟨o, h1, h2⟩ := h.obs i b hi
      refine ⟨o.sub p g, by rw [hf i hp, h1]; rfl, ?_⟩
      have s := StepX.wipe (F0 := F0) (ι := ι) (base := base) (w := w) p
      cases o with
      | var cs => obtain ⟨c, T, e, hl⟩ := h2; exact ⟨c, T, e, RepL.sub s hg _ _ hl⟩
      | arr sz es => obtain ⟨c, T, e, hl, h3⟩ := h2; exact ⟨c, T, e, RepEs.mono s.prot (fun _ _ h => h) _ _ _ hl, h3⟩
  tms t := by rw [he]; exact RepA.sub (StepX.wipe p) hg _ _ (h.tms t)
  dfs := h.dfs
  nt := h.nt
theorem Weak.kill (s : St) (p : Nat → Bool) : Weak s (s.kill p) := by
  rintro base w0 F0 a w ⟨ι, hc, hfull⟩
  refine ⟨wipe ι p, hc.wipe p (g := fun _ => .un) (fun _ _ _ _ => trivial) (fun j hj => ?_) (fun t => St.get_sub s p _ t), ?_⟩
  · unfold St.kill
    rw [St.lk_sub, hj]
    rfl
  · intro i o ho
    unfold St.kill at ho
    rw [St.lk_sub] at ho
    split at ho
    · cases ho
    · rename_i hp
      simp only [Option.map_eq_some_iff] at ho
      obtain ⟨o', h1, h2⟩ := ho
      rcases hfull i o' h1 with h3 | ⟨sz, rfl⟩
      · left; unfold wipe; rw [if_neg hp]; exact h3
      · right; exact ⟨sz, h2.symm⟩
/-- An array is written no more: what refers to it becomes data. -/
def frzA (sz : Nat) (es : List (List D)) : AV → AV
  | .ms _ sz' off len => if sz' = sz ∧ off + len ≤ es.length then .d (.sl sz ((es.drop off).take len)) else .un
  | _ => .un
def frzV (ds : List D) : AV → AV
  | .pt _ off => .d (.rp (ds.drop off))
  | _ => .un
theorem Weak.freeze (s : St) (id : Nat) {sz : Nat} {es : List (List D)} (h : lk s.ob id = some (.arr sz es)) : Weak s (s.sub (· == id) (frzA sz es)) := by
  rintro base w0 F0 a w ⟨ι, hc, hfull⟩
  refine ⟨wipe ι (· == id), hc.wipe (· == id) (g := frzA sz es) ?_ (fun j hj => ?_) (fun t => St.get_sub s _ _ t), ?_⟩
  · intro x y hl hx
    cases hl with
    | pt i o hi => trivial
    | pe i sz' k o hi => trivial
    | ms i sz' off len hi =>
      obtain rfl : i = id := by simpa using hi
      simp only [frzA]
      split
      · rename_i hcond
        obtain ⟨rfl, hlen⟩ := hcond
        rcases hx with ⟨b, cap, hb, rfl, h1, h2⟩ | ⟨rfl, A, rfl⟩
        · obtain ⟨o, ho, hob⟩ := hc.obs _ b hb
          rw [h] at ho
          injection ho with ho
          subst ho
          obtain ⟨c, T, e, hl, hsz⟩ := hob
          have h3 := (hl.drop off).take len
          rw [Nat.zero_add] at h3
          have h4 : ((es.drop off).take len).length = len := by simp; omega
          have s := StepX.wipe (F0 := F0) (ι := ι) (base := base) (w := w) (· == i)
          refine ⟨_, cap, b, off * sz', by rw [h4], by rw [h4]; exact h1, fun _ => rfl, RepEs.mono s.prot ?_ _ _ _ h3⟩
          intro o u hu
          refine ⟨by rw [cell_of e]; exact hu, ?_⟩
          rintro (hf | ⟨j, hj⟩)
          · have := hc.lowF b o hf; have := (hc.low _ _ hb).1; omega
          · unfold wipe at hj
            split at hj
            · cases hj
            · rename_i hne
              exact hne (by rw [hc.inj _ _ _ hj hb]; simp)
        · exact ⟨A, 0, 0, 0, by simp, by simp, by simp, by simp [RepEs]⟩
      · trivial
  · rw [St.lk_sub, hj]; rfl
  · intro i o ho
    rw [St.lk_sub] at ho
    split at ho
    · cases ho
    · rename_i hp
      simp only [Option.map_eq_some_iff] at ho
      obtain ⟨o', h1, h2⟩ := ho
      rcases hfull i o' h1 with h3 | ⟨sz, rfl⟩
      · left; unfold wipe; rw [if_neg hp]; exact h3
      · right; exact ⟨sz, h2.symm⟩
theorem Weak.freezeV (s : St) (id : Nat) {cs : List AV} {ds : List D} (h : lk s.ob id = some (.var cs)) (hd : toDs cs = some ds) : Weak s (s.sub (· == id) (frzV ds)) := by
  rintro base w0 F0 a w ⟨ι, hc, hfull⟩
  refine ⟨wipe ι (· == id), hc.wipe (· == id) (g := frzV ds) ?_ (fun j hj => ?_) (fun t => St.get_sub s _ _ t), ?_⟩
  · intro x y hl hx
    cases hl with
    | pe i sz' k o hi => trivial
    | ms i sz' off len hi => trivial
    | pt i off hi =>
      obtain rfl : i = id := by simpa using hi
      obtain ⟨b, hb, rfl⟩ := hx
      obtain ⟨o, ho, hob⟩ := hc.obs _ b hb
      rw [h] at ho
      injection ho with ho
      subst ho
      obtain ⟨c, T, e, hl⟩ := hob
      have s := StepX.wipe (F0 := F0) (ι := ι) (base := base) (w := w) (· == i)
      have hr := (toDs_sound (pr := Prot (FF F0 (wipe ι (· == i))) w b) hd hl 0 (by
        intro j u hj
        refine ⟨by rw [cell_of e]; simpa using hj, ?_⟩
        rintro (hf | ⟨j, hj⟩)
        · have := hc.lowF _ _ hf; have := (hc.low _ _ hb).1; omega
        · unfold wipe at hj
          split at hj
          · cases hj
          · rename_i hne
            exact hne (by rw [hc.inj _ _ _ hj hb]; simp))).2
      have hr2 := hr.drop off
      rw [Nat.zero_add] at hr2
      exact ⟨b, off, rfl, RepCs.mono s.prot (fun _ _ h => h) _ _ hr2⟩
  · rw [St.lk_sub, hj]; rfl
  · intro i o ho
    rw [St.lk_sub] at ho
    split at ho
    · cases ho
    · rename_i hp
      simp only [Option.map_eq_some_iff] at ho
      obtain ⟨o', h1, h2⟩ := ho
      rcases hfull i o' h1 with h3 | ⟨sz, rfl⟩
      · left; unfold wipe; rw [if_neg hp]; exact h3
      · right; exact ⟨sz, h2.symm⟩
/-- Slots are known less well. -/
theorem Weak.less (s : St) (tm : List (Nat × AV)) (h : ∀ t x, lk tm t = some x → Le (s.get t) x) : Weak s { s with tm := tm } := by
  rintro base w0 F0 a w ⟨ι, hc, hfull⟩
  refine ⟨ι, { hc with tms := fun t => ?_ }, hfull⟩
  show RepA _ _ _ _ ((lk tm t).getD .un) _
  cases he : lk tm t with
  | none => trivial
  | some x => exact (h t x he).sound (hc.tms t)
/-- A nil slice is an array of the call's own, empty as yet. -/
theorem Weak.own (s : St) (t d sz : Nat) (ht : s.get t = .d (.v (.slice none 0 0))) (hd : lk s.ob d = none) : Weak s { s with tm := ins t (.ms d sz 0 0) s.tm, ob := (d, .arr sz []) :: s.ob } := by
  rintro base w0 F0 a w ⟨ι, hc, hfull⟩
  have hn : ι d = none := by
    cases hi : ι d with
    | none => rfl
    | some b => obtain ⟨o, h1, _⟩ := hc.obs d b hi; rw [hd] at h1; cases h1
  refine ⟨ι, { hc with obs := ?_, tms := fun t' => ?_ }, ?_⟩
  · intro i b hi
    obtain ⟨o, h1, h2⟩ := hc.obs i b hi
    refine ⟨o, ?_, h2⟩
    simp only [lk]
    rw [if_neg (by rintro rfl; rw [hn] at hi; cases hi)]
    exact h1
  · show RepA _ _ _ _ ((lk (ins t (.ms d sz 0 0) s.tm) t').getD .un) _
    rw [lk_ins]
    split
    · rename_i e
      subst e
      have := hc.tms t
      rw [ht] at this
      obtain this : a.tmps.getD t undef = .slice none 0 0 := this
      rw [this]
      exact .inr ⟨rfl, none, rfl⟩
    · exact hc.tms t'
  · intro i o ho
    simp only [lk] at ho
    split at ho
    · injection ho with ho; exact .inr ⟨sz, ho.symm⟩
    · exact hfull i o ho
end
end Go.Proofs.Ab

namespace Go.Proofs.Ab
open Go Go.RowKit
set_option linter.unusedVariables false
set_option linter.unusedSimpArgs false

/-! ### Stores -/
theorem setCell_heap {w : World} {b o : Nat} {v : Value} {c : Array Value} {T : TypeId} {fz : Nat × Nat} (h : w.heap[b]? = some (.cells c T fz)) :
    (w.setCell ⟨b, o, none⟩ v).heap[b]? = some (.cells (c.setIfInBounds o v) T fz) := by
  simp [World.setCell, Array.getElem?_modify, h]
theorem setCells_heap : ∀ (vs : List Value) (w : World) (b o : Nat) (c : Array Value) (T : TypeId) (fz : Nat × Nat), w.heap[b]? = some (.cells c T fz) → o + vs.length ≤ c.size →
    ∃ c', (w.setCells b o vs).heap[b]? = some (.cells c' T fz) ∧ c'.toList = c.toList.take o ++ (vs ++ c.toList.drop (o + vs.length)) ∧
      (∀ k, k ≠ b → (w.setCells b o vs).heap[k]? = w.heap[k]?) ∧ (w.setCells b o vs).os = w.os ∧ (w.setCells b o vs).tape = w.tape ∧ (w.setCells b o vs).output = w.output ∧ (w.setCells b o vs).heap.size = w.heap.size := by
  intro vs
  induction vs with
  | nil => intro w b o c T fz h hl; exact ⟨c, h, by simp, fun _ _ => rfl, rfl, rfl, rfl, rfl⟩
  | cons v r ih =>
    intro w b o c T fz h hl
    simp only [List.length_cons] at hl
    obtain ⟨c', h1, h2, h3, h4, h5, h6, h7⟩ := ih (w.setCell ⟨b, o, none⟩ v) b (o + 1) _ T fz (setCell_heap h) (by simp; omega)
    refine ⟨c', h1, ?_, fun k hk => (h3 k hk).trans (Below.heap_setCell _ _ _ _ hk), h4, h5, h6, by rw [World.setCells, h7]; simp [World.setCell]⟩
    rw [h2]
    have hk : o < c.toList.length := by simp; omega
    simp only [Array.toList_setIfInBounds]
    rw [List.take_set, List.take_add_one, List.getElem?_eq_getElem hk, List.drop_set_of_lt (by omega)]
    have e0 : (c.toList.take o).length = o := by rw [List.length_take]; omega
    have e1 : ((c.toList.take o ++ [c.toList[o]]).set o v) = c.toList.take o ++ [v] := by
      rw [List.set_append_right _ _ (by omega), e0, Nat.sub_self]
      rfl
    simp only [Option.toList_some]
    rw [e1]
    simp [List.append_assoc, Nat.add_assoc, Nat.add_comm 1]
theorem run_storeAt_gen {P : Program} {w : World} {t : TypeId} {i : TI} (ht : Tok P t i) {b o : Nat} {c : Array Value} {T : TypeId} (hb : w.heap[b]? = some (.cells c T (0, 0))) {v : Value} {vs : List Value} (hv : v.cells = vs.toArray)
    (hs : vs.length = i.size) (ho : o + vs.length ≤ c.size) (h1 : ∀ u ∈ vs, u.oneCell' = true) :
    (Instr.storeAt t (.pointer (some ⟨b, o, none⟩)) v).run P w = .ok () (w.setCells b o vs) := by
  have hst := run_storeCells_cells (P := P) b o vs 0 w (by
    intro j hj
    rw [cell_of hb, Array.getElem?_eq_getElem (by omega)]
    rfl) (by
    intro j hj
    simp [World.frozen?, hb]) h1
  simp only [Nat.add_zero] at hst
  simp only [Instr.storeAt, Instr.sureAddr, Sem.run_bind, Sem.run_pure, Result.andThen_ok, storeVar, run_sizeOf_tok ht, hv]
  simp [hs, hst]

def AV.one : AV → Bool
  | .un => false
  | .ag _ => false
  | .tp _ => false
  | .d (.v x) => x.oneCell'
  | _ => true
section
variable {P : Program} {n base : Nat} {w0 : World} {F0 : Nat → Nat → Prop} {ι : Nat → Option Nat} {full : Nat → Option Ob} {ev : Nat → AV} {a : Act} {w w' : World}
theorem AV.one_sound {x : AV} {v : Value} (h : x.one = true) (hx : RepA ι (FF F0 ι) base w x v) : v.oneCell' = true := by
  cases x with
  | un => cases h
  | ag _ => cases h
  | tp _ => cases h
  | d y =>
    cases y with
    | v z => obtain rfl := hx; exact h
    | sl sz es => obtain ⟨A, cap, b, o, rfl, _⟩ := hx; rfl
    | rp cs => obtain ⟨b, o, rfl, _⟩ := hx; rfl
  | bs sz es => obtain ⟨A, cap, b, o, rfl, _⟩ := hx; rfl
  | cp sz es => obtain ⟨A, b, o, rfl, _⟩ := hx; rfl
  | bp cs => obtain ⟨b, o, rfl, _⟩ := hx; rfl
  | pt id off => obtain ⟨b, _, rfl⟩ := hx; rfl
  | pe id sz k off => obtain ⟨b, _, rfl⟩ := hx; rfl
  | ms id sz off len => rcases hx with ⟨b, cap, _, rfl, _⟩ | ⟨_, A, rfl⟩ <;> rfl
  | cl f caps => obtain ⟨vs, rfl, _⟩ := hx; rfl
theorem RepL.ones {cs : List AV} {vs : List Value} (h : RepL ι (FF F0 ι) base w cs vs) (h1 : cs.all AV.one = true) : ∀ u ∈ vs, u.oneCell' = true := by
  induction cs generalizing vs with
  | nil => rw [h]; simp
  | cons x r ih =>
    obtain ⟨y, ys, rfl, h2, h3⟩ := h
    simp only [List.all_cons, Bool.and_eq_true] at h1
    intro u hu
    rcases List.mem_cons.1 hu with rfl | hu
    · exact AV.one_sound h1.1 h2
    · exact ih h3 h1.2 u hu
/-- One block of the call's own is written. -/
theorem Step.write (h : Core n base w0 F0 ι full ev a w) {id b : Nat} (hb : ι id = some b) {c c' : Array Value} {T : TypeId} (h1 : w.heap[b]? = some (.cells c T (0, 0))) (h2 : w'.heap[b]? = some (.cells c' T (0, 0))) (hs : c'.size = c.size)
    (ho : ∀ k, k ≠ b → w'.heap[k]? = w.heap[k]?) : Step ι (FF F0 ι) base w ι (FF F0 ι) base w' where
  prot b' o x hp := by
    have : b' ≠ b := by rintro rfl; exact hp.2 (.inr ⟨id, hb⟩)
    exact ⟨(cell_heap (ho b' this) o).trans hp.1, hp.2⟩
  rdb b' o x hp := by
    have : b' ≠ b := by
      rintro rfl
      rcases hp.2 with h3 | h3
      · exact h3 (.inr ⟨id, hb⟩)
      · have := (h.low _ _ hb).1; omega
    exact ⟨(cell_heap (ho b' this) o).trans hp.1, hp.2⟩
  ids _ _ h := h
  room i b' m _ hr := by
    by_cases e : b' = b
    · subst e
      obtain ⟨c2, T2, e1, e2⟩ := hr
      rw [h1] at e1
      injection e1 with e1
      injection e1 with e1 e3
      subst e1
      exact ⟨c', T, h2, by rw [hs]; exact e2⟩
    · obtain ⟨c2, T2, e1, e2⟩ := hr
      exact ⟨c2, T2, (ho b' e).trans e1, e2⟩
theorem Core.write (h : Core n base w0 F0 ι full ev a w) {id b : Nat} (hb : ι id = some b) {c c' : Array Value} {T : TypeId} (h1 : w.heap[b]? = some (.cells c T (0, 0))) (h2 : w'.heap[b]? = some (.cells c' T (0, 0))) (hs : c'.size = c.size)
    (ho : ∀ k, k ≠ b → w'.heap[k]? = w.heap[k]?) (hos : w'.os = w.os) (htp : w'.tape = w.tape) (hou : w'.output = w.output) (hsz : w'.heap.size = w.heap.size) {full' : Nat → Option Ob} {o : Ob} (hf : ∀ j, j ≠ id → full' j = full j) (hfi : full' id = some o)
    (hok : ObOk ι (FF F0 ι) base w' b o) : Core n base w0 F0 ι full' ev a w' where
  below := h.below.trans ⟨hos, htp, hou, by omega, fun k hk => ho k (by have := (h.low _ _ hb).1; omega)⟩
  lowF := h.lowF
  size := by have := h.size; omega
  inj := h.inj
  low i b' hi := by have := h.low i b' hi; omega
  obs i b' hi := by
    by_cases e : i = id
    · subst e
      rw [hb] at hi
      injection hi with hi
      subst hi
      exact ⟨o, hfi, hok⟩
    · obtain ⟨o', h3, h4⟩ := h.obs i b' hi
      refine ⟨o', (hf i e).trans h3, h4.mono (Step.write h hb h1 h2 hs ho) (ho b' ?_)⟩
      rintro rfl
      exact e (h.inj _ _ _ hi hb)
  tms t := RepA.mono (Step.write h hb h1 h2 hs ho) _ _ (h.tms t)
  dfs := h.dfs
  nt := h.nt
end

/-- A store. -/
def storeA (tt : TypeId → Option TI) (s : St) (t : TypeId) (addr v : AV) (K : St → Prop) : Prop :=
  ∃ i cs, tt t = some i ∧ v.cells = some cs ∧ cs.all AV.one = true ∧ cs.length = i.size ∧
    match addr with
    | .pt id off => ∃ vs, lk s.ob id = some (.var vs) ∧ off + cs.length ≤ vs.length ∧ K { s with ob := ins id (.var (setR vs off cs)) s.ob }
    | .pe id sz k off => ∃ es e ds, lk s.ob id = some (.arr sz es) ∧ es[k]? = some e ∧ toDs cs = some ds ∧ off + ds.length ≤ sz ∧ K { s with ob := ins id (.arr sz (es.set k (e.take off ++ (ds ++ e.drop (off + ds.length))))) s.ob }
    | _ => False
section
variable {P : Program} {base : Nat} {w0 : World} {F0 : Nat → Nat → Prop} {a : Act} {w : World} {s : St}
theorem storeA_sound {tt : TypeId → Option TI} (htt : TOK P tt) (hr : RS base w0 F0 s a w) {t : TypeId} {x y : Operand} {K : St → Prop} (h : storeA tt s t (evO s.get x) (evO s.get y) K) :
    ∃ s' w', K s' ∧ (Instr.storeAt t (a.eval x) (a.eval y)).run P w = .ok () w' ∧ RS base w0 F0 s' a w' := by
  obtain ⟨ι, hc, hfull⟩ := hr
  obtain ⟨i, cs, h1, h2, h3, h4, h5⟩ := h
  obtain ⟨us, e1, e2, _⟩ := AV.cells_sound (hc.evO y) h2
  have hone := RepL.ones e2 h3
  have hlen := e2.length
  have hx := hc.evO x
  revert h5 hx
  generalize evO s.get x = ax
  intro h5 hx
  cases ax with
  | pt id off =>
    obtain ⟨vs, q1, q2, hK⟩ := h5
    obtain ⟨b, hb, hxe⟩ := hx
    obtain ⟨o, ho, hob⟩ := hc.obs id b hb
    rw [q1] at ho
    injection ho with ho
    subst ho
    obtain ⟨c, T, hcb, hl⟩ := hob
    have hcl := hl.length
    simp only [Array.length_toList] at hcl
    obtain ⟨c', r1, r2, r3, r4, r5, r6, r7⟩ := setCells_heap us w b off c T (0, 0) hcb (by omega)
    have hcs : c'.size = c.size := by
      have := congrArg List.length r2
      simp at this
      omega
    refine ⟨_, _, hK, by rw [hxe]; exact run_storeAt_gen (htt _ _ h1) hcb e1 (by omega) (by omega) hone, ι, ?_, ?_⟩
    · have hst := Step.write hc hb hcb r1 hcs r3
      refine Core.write hc hb hcb r1 hcs r3 r4 r5 r6 r7 (o := .var (setR vs off cs)) (fun j hj => ?_) ?_ ⟨c', T, r1, ?_⟩
      · show lk (ins id _ s.ob) j = _
        rw [lk_ins, if_neg (fun e => hj e.symm)]
      · show lk (ins id _ s.ob) id = _
        rw [lk_ins, if_pos rfl]
      · rw [r2]
        unfold setR
        rw [← hlen]
        exact ((RepL.mono hst _ _ hl).take _).append ((RepL.mono hst _ _ e2).append ((RepL.mono hst _ _ hl).drop _))
    · intro j o' hj
      by_cases e : j = id
      · subst e; left; rw [hb]; rfl
      · refine hfull j o' ?_
        have hj : lk (ins id _ s.ob) j = some o' := hj
        rw [lk_ins, if_neg (fun e' => e e'.symm)] at hj
        exact hj
  | pe id sz k off =>
    obtain ⟨es, e, ds, q1, q2, q3, q4, hK⟩ := h5
    obtain ⟨b, hb, hxe⟩ := hx
    obtain ⟨o, ho, hob⟩ := hc.obs id b hb
    rw [q1] at ho
    injection ho with ho
    subst ho
    obtain ⟨c, T, hcb, hl, hcl⟩ := hob
    obtain ⟨hel, _⟩ := hl.at k e q2
    have hkl := (List.getElem?_eq_some_iff.1 q2).1
    have hdl : ds.length = cs.length := (toDs_sound (pr := fun _ _ => True) q3 e2 0 (fun _ _ _ => trivial)).1
    have hbound : k * sz + off + us.length ≤ c.size := by
      have : (k + 1) * sz ≤ es.length * sz := Nat.mul_le_mul_right _ hkl
      rw [Nat.add_mul, Nat.one_mul] at this
      omega
    obtain ⟨c', r1, r2, r3, r4, r5, r6, r7⟩ := setCells_heap us w b (k * sz + off) c T (0, 0) hcb hbound
    have hcs : c'.size = c.size := by
      have := congrArg List.length r2
      simp at this
      omega
    have hout : ∀ j, (j < k * sz + off ∨ k * sz + off + us.length ≤ j) → c'[j]? = c[j]? := by
      intro j hj
      rw [← Array.getElem?_toList, r2, ← Array.getElem?_toList (xs := c)]
      have hl1 : (c.toList.take (k * sz + off)).length = k * sz + off := by simp; omega
      rcases hj with hj | hj
      · rw [List.getElem?_append_left (by omega), List.getElem?_take, if_pos hj]
      · rw [List.getElem?_append_right (by omega), List.getElem?_append_right (by omega), List.getElem?_drop, hl1]
        congr 1
        omega
    have hin : ∀ j u, us[j]? = some u → c'[k * sz + off + j]? = some u := by
      intro j u hj
      have hjl := (List.getElem?_eq_some_iff.1 hj).1
      have hl1 : (c.toList.take (k * sz + off)).length = k * sz + off := by simp; omega
      rw [← Array.getElem?_toList, r2, List.getElem?_append_right (by omega), hl1, Nat.add_sub_cancel_left, List.getElem?_append_left hjl, hj]
    refine ⟨_, _, hK, by rw [hxe]; exact run_storeAt_gen (htt _ _ h1) hcb e1 (by omega) hbound hone, ι, ?_, ?_⟩
    · have hst := Step.write hc hb hcb r1 hcs r3
      refine Core.write hc hb hcb r1 hcs r3 r4 r5 r6 r7 (o := .arr sz (es.set k (e.take off ++ (ds ++ e.drop (off + ds.length))))) (fun j hj => ?_) ?_ ⟨c', T, r1, ?_, by simp; omega⟩
      · show lk (ins id _ s.ob) j = _
        rw [lk_ins, if_neg (fun e => hj e.symm)]
      · show lk (ins id _ s.ob) id = _
        rw [lk_ins, if_pos rfl]
      · -- the elements one by one
        have cs_mono : ∀ (l : List D) (o : Nat), (∀ j, o ≤ j → j < o + l.length → c'[j]? = c[j]?) → RepCs (FF F0 ι) w (fun o y => c[o]? = some y) l o → RepCs (FF F0 ι) (w.setCells b (k * sz + off) us) (fun o y => c'[o]? = some y) l o := by
          intro l
          induction l with
          | nil => intro o _ _; trivial
          | cons x r ih =>
            intro o hj hr
            obtain ⟨⟨g0, y, g1, g2⟩, g3⟩ := hr
            exact ⟨⟨g0, y, (hj o (Nat.le_refl _) (by simp)).trans g1, RepD.mono hst.prot _ _ g2⟩, ih (o + 1) (fun j h1 h2 => hj j (by omega) (by simp; omega)) g3⟩
        have es_mono : ∀ (l : List (List D)) (o : Nat), (∀ j, o ≤ j → j < o + l.length * sz → c'[j]? = c[j]?) → RepEs (FF F0 ι) w (fun o y => c[o]? = some y) sz l o → RepEs (FF F0 ι) (w.setCells b (k * sz + off) us) (fun o y => c'[o]? = some y) sz l o := by
          intro l
          induction l with
          | nil => intro o _ _; trivial
          | cons x r ih =>
            intro o hj hr
            obtain ⟨g1, g2, g3⟩ := hr
            simp only [List.length_cons, Nat.add_mul, Nat.one_mul] at hj
            exact ⟨g1, cs_mono x o (fun j h1 h2 => hj j h1 (by omega)) g2, ih (o + sz) (fun j h1 h2 => hj j (by omega) (by omega)) g3⟩
        have hsplit : es.set k (e.take off ++ (ds ++ e.drop (off + ds.length))) = es.take k ++ ((e.take off ++ (ds ++ e.drop (off + ds.length))) :: es.drop (k + 1)) := by
          rw [List.set_eq_take_append_cons_drop, if_pos hkl]
        have hp := hl.take k
        have hd := hl.drop (k + 1)
        rw [Nat.zero_add] at hd
        have hek := (hl.at k e q2).2
        rw [Nat.zero_add] at hek
        have htk : (es.take k).length = k := by simp; omega
        rw [hsplit]
        refine (es_mono _ 0 (fun j _ h2 => hout j (.inl (by rw [htk] at h2; omega))) hp).append ⟨?_, ?_, ?_⟩
        · simp; omega
        · rw [htk, Nat.zero_add]
          have capp : ∀ (l l' : List D) (o : Nat), RepCs (FF F0 ι) (w.setCells b (k * sz + off) us) (fun o y => c'[o]? = some y) l o → RepCs (FF F0 ι) (w.setCells b (k * sz + off) us) (fun o y => c'[o]? = some y) l' (o + l.length) → RepCs (FF F0 ι) (w.setCells b (k * sz + off) us) (fun o y => c'[o]? = some y) (l ++ l') o := by
            intro l
            induction l with
            | nil => intro l' o _ h; simpa using h
            | cons x r ih => intro l' o h h'; exact ⟨h.1, ih l' (o + 1) h.2 (by rw [show o + 1 + r.length = o + (x :: r).length by simp; omega]; exact h')⟩
          have ht1 : (e.take off).length = off := by simp; omega
          refine capp _ _ _ (cs_mono _ _ (fun j h1 h2 => hout j (.inl (by rw [ht1] at h2; omega))) (hek.take off)) ?_
          rw [ht1]
          refine capp _ _ _ ?_ ?_
          · have := (toDs_sound (pr := fun o y => c'[o]? = some y) q3 e2 (k * sz + off) hin).2
            exact RepCs.mono hst.prot (fun _ _ h => h) _ _ this
          · have h8 := hek.drop (off + ds.length)
            rw [← Nat.add_assoc] at h8
            exact cs_mono _ _ (fun j h1 h2 => hout j (.inr (by omega))) h8
        · rw [htk, Nat.zero_add]
          rw [Nat.add_mul, Nat.one_mul] at hd
          exact es_mono _ _ (fun j h1 h2 => hout j (.inr (by omega))) hd
    · intro j o' hj
      by_cases e : j = id
      · subst e; left; rw [hb]; rfl
      · refine hfull j o' ?_
        have hj : lk (ins id _ s.ob) j = some o' := hj
        rw [lk_ins, if_neg (fun e' => e e'.symm)] at hj
        exact hj
  | _ => exact h5.elim
end
end Go.Proofs.Ab

namespace Go.Proofs.Ab
open Go Go.RowKit
set_option linter.unusedVariables false
set_option linter.unusedSimpArgs false

/-! ### append -/
section
variable {P : Program} {w : World}
theorem run_firstCells_gen {size m : Nat} {A : Option Addr} {len cap : Nat} {cs : List Value} (hl : cs.length = m * size)
    (h : m ≠ 0 → ∃ b o, A = some ⟨b, o, none⟩ ∧ ∀ j v, cs[j]? = some v → w.cell? ⟨b, o + j, none⟩ = some v) :
    (Builtin.firstCells size m (.slice A len cap)).run P w = .ok cs.toArray w := by
  by_cases hm : m = 0
  · subst hm
    have : cs = [] := List.eq_nil_of_length_eq_zero (by simpa using hl)
    subst this
    cases A with
    | none => simp [Builtin.firstCells]
    | some a => simp [Builtin.firstCells, loadCells, loadCellsFrom]
  · obtain ⟨b, o, rfl, hc⟩ := h hm
    exact run_firstCells_some w size m _ len cap cs hl (fun j v hj => by rw [add_plain]; exact hc j v hj)
theorem run_append_fit {t tx ty e e' : TypeId} {ei : TI} (hu : P.underlying t = some (.slice e)) (htx : P.underlying tx = some (.slice e')) (he : Tok P e ei)
    {b n cap : Nat} {X : Option Addr} {m c : Nat} {news : List Value} (hn : news.length = m * ei.size)
    (hX : m ≠ 0 → ∃ b o, X = some ⟨b, o, none⟩ ∧ ∀ j v, news[j]? = some v → w.cell? ⟨b, o + j, none⟩ = some v) (hfit : n + m ≤ cap) (h1 : ∀ u ∈ news, u.oneCell' = true)
    {cc : Array Value} {T : TypeId} (hb : w.heap[b]? = some (.cells cc T (0, 0))) (hcc : cap * ei.size ≤ cc.size) :
    (Builtin.append_ #[t, tx] ty #[.slice (some ⟨b, 0, none⟩) n cap, .slice X m c]).run P w = .ok (.slice (some ⟨b, 0, none⟩) (n + m) cap) (w.setCells b (n * ei.size) news) := by
  have hf := run_firstCells_gen (P := P) (len := m) (cap := c) hn hX
  have hsz : n * ei.size + news.length ≤ cc.size := by
    rw [hn, ← Nat.add_mul]
    exact Nat.le_trans (Nat.mul_le_mul_right _ hfit) hcc
  have hst := run_storeCells_cells (P := P) b (n * ei.size) news 0 w (by
    intro j hj
    rw [cell_of hb, Array.getElem?_eq_getElem (by omega)]
    rfl) (by intro j hj; simp [World.frozen?, hb]) h1
  simp only [Nat.add_zero] at hst
  simp [Builtin.append_, run_underlying hu, run_underlying htx, run_sizeOf_tok he, Builtin.lenOf, hfit, hf, add_plain, hst]
theorem run_append_none {t tx ty e e' : TypeId} {ei : TI} (hu : P.underlying t = some (.slice e)) (htx : P.underlying tx = some (.slice e')) (he : Tok P e ei)
    {A : Option Addr} {n cap : Nat} {X : Option Addr} {c : Nat} (hfit : n ≤ cap) :
    (Builtin.append_ #[t, tx] ty #[.slice A n cap, .slice X 0 c]).run P w = .ok (.slice A n cap) w := by
  have hf := run_firstCells_gen (P := P) (w := w) (size := ei.size) (m := 0) (A := X) (len := 0) (cap := c) (cs := []) (by simp) (fun h => absurd rfl h)
  cases A with
  | none => simp [Builtin.append_, run_underlying hu, run_underlying htx, run_sizeOf_tok he, Builtin.lenOf, hfit, hf]
  | some a => simp [Builtin.append_, run_underlying hu, run_underlying htx, run_sizeOf_tok he, Builtin.lenOf, hfit, hf, storeCells]
theorem run_append_more {t tx ty e e' : TypeId} {ei : TI} (hu : P.underlying t = some (.slice e)) (htx : P.underlying tx = some (.slice e')) (he : Tok P e ei)
    {A : Option Addr} {n cap : Nat} {olds : List Value} (ho : olds.length = n * ei.size) (hA : n ≠ 0 → ∃ b o, A = some ⟨b, o, none⟩ ∧ ∀ j v, olds[j]? = some v → w.cell? ⟨b, o + j, none⟩ = some v)
    {X : Option Addr} {m c : Nat} {news : List Value} (hn : news.length = m * ei.size)
    (hX : m ≠ 0 → ∃ b o, X = some ⟨b, o, none⟩ ∧ ∀ j v, news[j]? = some v → w.cell? ⟨b, o + j, none⟩ = some v) (hg : cap < n + m) (h63 : n + m ≤ 9223372036854775807) (hb : (n + m) * ei.bytes ≤ 140737488355328) :
    ∃ ncap rest, n + m ≤ ncap ∧ rest.length = (ncap - (n + m)) * ei.zero.cells.size ∧ (Builtin.append_ #[t, tx] ty #[.slice A n cap, .slice X m c]).run P w =
      .ok (.slice (some ⟨w.heap.size, 0, none⟩) (n + m) ncap) (w.drew.alloc (.cells (olds ++ news ++ rest).toArray e)) := by
  obtain ⟨ti, t1, t2, t3, t4⟩ := he.info
  have hnn : ¬ (n + m ≤ cap) := by omega
  have h63' : ¬ (9223372036854775807 < ((n : Int) + (m : Int))) := by omega
  have hfit := growslice_fits hg hb
  have h48' : ¬ (281474976710656 < Builtin.nextslicecap (n + m) cap * ti.bytes) := by rw [t4]; omega
  have hf := run_firstCells_gen (P := P) (w := w.drew) (len := m) (cap := c) hn (fun h => by obtain ⟨b, o, e1, e2⟩ := hX h; exact ⟨b, o, e1, by simpa using e2⟩)
  have hfo := run_firstCells_gen (P := P) (w := w.drew) (len := n) (cap := cap) ho (fun h => by obtain ⟨b, o, e1, e2⟩ := hA h; exact ⟨b, o, e1, by simpa using e2⟩)
  refine ⟨grownCap w (n + m) cap e, (Builtin.zeroCells ei.zero.cells (grownCap w (n + m) cap e - (n + m))).toList, grownCap_ge w (n + m) cap e, by simp [Builtin.zeroCells], ?_⟩
  rw [← t3] at hf hfo
  simp [Builtin.append_, run_underlying hu, run_underlying htx, sizeOf, typeInfo, zeroValue, t1, t2, Builtin.lenOf, hnn, h63', h48', Question.forced, hf, hfo, newRow, grownCap]
  congr 2
  apply Array.ext'
  simp [List.append_assoc]
end

def elemsOf (full : Nat → Option Ob) (sz : Nat) (x : AV) (K : List (List D) → Prop) : Prop :=
  match x with
  | .ms id sz' off len => sz' = sz ∧ ∃ es, full id = some (.arr sz es) ∧ off + len ≤ es.length ∧ K ((es.drop off).take len)
  | .bs sz' es => sz' = sz ∧ K es
  | .cp sz' es => sz' = sz ∧ K es
  | .d y => match y with
    | .sl sz' es => sz' = sz ∧ K es
    | .v (.slice none 0 0) => K []
    | _ => False
  | _ => False
/-- What is appended to, and which names are given up. -/
def baseOf (full : Nat → Option Ob) (sz dst : Nat) (x : AV) (ys : List (List D)) (K : List (List D) → (Nat → Bool) → Prop) : Prop :=
  match x with
  | .ms id sz' off len => sz' = sz ∧ off = 0 ∧ ∃ es, full id = some (.arr sz es) ∧ len ≤ es.length ∧ K (es.take len) (fun i => i == dst || i == id)
  | .cp sz' es => sz' = sz ∧ (es = [] ∨ ys ≠ []) ∧ K es (fun i => i == dst)
  | .d y => match y with
    | .v (.slice none 0 0) => K [] (fun i => i == dst)
    | _ => False
  | _ => False
def St.new (s : St) (p : Nat → Bool) (dst : Nat) (x : AV) (o : Ob) : St := ⟨s.nt, ins dst x (s.kill p).tm, (dst, o) :: (s.kill p).ob⟩
def appA (tt : TypeId → Option TI) (s : St) (ts tx : TypeId) (dst : Nat) (x y : AV) (K : St → Prop) : Prop :=
  ∃ e ei e', tt ts = some (.sl e) ∧ tt e = some ei ∧ tt tx = some (.sl e') ∧ dst < s.nt ∧ elemsOf (lk s.ob) ei.size y fun ys => baseOf (lk s.ob) ei.size dst x ys fun xs p =>
    xs.length + ys.length ≤ 9223372036854775807 ∧ (xs.length + ys.length) * ei.bytes ≤ 140737488355328 ∧
    K (s.new p dst (.ms dst ei.size 0 (xs.length + ys.length)) (.arr ei.size (xs ++ ys)))

section
variable {P : Program} {n base : Nat} {w0 : World} {F0 : Nat → Nat → Prop} {ι : Nat → Option Nat} {full : Nat → Option Ob} {ev : Nat → AV} {a : Act} {w : World}
/-- Elements as a list of values. -/
theorem RepEs.vals {F : Nat → Nat → Prop} {pr : Nat → Value → Prop} {sz : Nat} {es : List (List D)} {o : Nat} (h : RepEs F w pr sz es o) :
    ∃ vs : List Value, vs.length = es.length * sz ∧ (∀ j v, vs[j]? = some v → pr (o + j) v) ∧ (∀ u ∈ vs, u.oneCell' = true) ∧ RepEs F w (fun o y => vs[o]? = some y) sz es 0 := by
  have hcs : ∀ (l : List D) (o : Nat), RepCs F w pr l o → ∃ vs : List Value, vs.length = l.length ∧ (∀ j v, vs[j]? = some v → pr (o + j) v) ∧ (∀ u ∈ vs, u.oneCell' = true) ∧
      ∀ (pre suf : List Value), RepCs F w (fun o y => (pre ++ (vs ++ suf))[o]? = some y) l pre.length := by
    intro l
    induction l with
    | nil => intro o _; exact ⟨[], rfl, by simp, by simp, fun _ _ => trivial⟩
    | cons x r ih =>
      intro o h
      obtain ⟨⟨h0, y, h1, h2⟩, h3⟩ := h
      obtain ⟨vs, e1, e2, e3, e4⟩ := ih (o + 1) h3
      have hy : y.oneCell' = true := by
        cases x with
        | v z => obtain rfl := h2; exact h0
        | sl sz es => obtain ⟨A, cap, b, o, rfl, _⟩ := h2; rfl
        | rp cs => obtain ⟨b, o, rfl, _⟩ := h2; rfl
      refine ⟨y :: vs, by simp [e1], ?_, ?_, ?_⟩
      · intro j v hj
        cases j with
        | zero => simp at hj; subst hj; simpa using h1
        | succ j => rw [show o + (j + 1) = o + 1 + j by omega]; exact e2 j v (by simpa using hj)
      · intro u hu
        rcases List.mem_cons.1 hu with rfl | hu
        · exact hy
        · exact e3 u hu
      · intro pre suf
        refine ⟨⟨h0, y, by simp, h2⟩, ?_⟩
        have := e4 (pre ++ [y]) suf
        simpa using this
  suffices H : ∀ (es : List (List D)) (o : Nat), RepEs F w pr sz es o → ∃ vs : List Value, vs.length = es.length * sz ∧ (∀ j v, vs[j]? = some v → pr (o + j) v) ∧ (∀ u ∈ vs, u.oneCell' = true) ∧
      ∀ (pre suf : List Value), RepEs F w (fun o y => (pre ++ (vs ++ suf))[o]? = some y) sz es pre.length by
    obtain ⟨vs, e1, e2, e3, e4⟩ := H es o h
    exact ⟨vs, e1, e2, e3, by simpa using e4 [] []⟩
  intro es
  induction es with
  | nil => intro o _; exact ⟨[], by simp, by simp, by simp, fun _ _ => trivial⟩
  | cons e r ih =>
    intro o h
    obtain ⟨h1, h2, h3⟩ := h
    obtain ⟨us, f1, f2, f3, f4⟩ := hcs e o h2
    obtain ⟨vs, e1, e2, e3, e4⟩ := ih (o + sz) h3
    refine ⟨us ++ vs, by simp [f1, e1, h1, Nat.add_mul, Nat.add_comm], ?_, ?_, ?_⟩
    · intro j v hj
      by_cases hlt : j < us.length
      · rw [List.getElem?_append_left hlt] at hj; exact f2 j v hj
      · rw [List.getElem?_append_right (by omega)] at hj
        have := e2 _ v hj
        rw [show o + sz + (j - us.length) = o + j by omega] at this
        exact this
    · intro u hu
      rcases List.mem_append.1 hu with hu | hu
      · exact f3 u hu
      · exact e3 u hu
    · intro pre suf
      refine ⟨h1, ?_, ?_⟩
      · have := f4 pre (vs ++ suf)
        simpa [List.append_assoc] using this
      · have := e4 (pre ++ us) suf
        have hl : (pre ++ us).length = pre.length + sz := by simp [f1, h1]
        rw [hl] at this
        simpa [List.append_assoc] using this
theorem elemsOf_sound (hc : Core n base w0 F0 ι full ev a w) {sz : Nat} {x : AV} {y : Value} {K : List (List D) → Prop} (hx : RepA ι (FF F0 ι) base w x y) (h : elemsOf full sz x K) :
    ∃ (es : List (List D)) (A : Option Addr) (c : Nat) (vs : List Value), K es ∧ y = .slice A es.length c ∧ vs.length = es.length * sz ∧ (∀ u ∈ vs, u.oneCell' = true) ∧ RepEs (FF F0 ι) w (fun o y => vs[o]? = some y) sz es 0 ∧
      (es.length ≠ 0 → ∃ b o, A = some ⟨b, o, none⟩ ∧ ∀ j v, vs[j]? = some v → w.cell? ⟨b, o + j, none⟩ = some v) := by
  have lists : ∀ (pr : Nat → Nat → Value → Prop) (es : List (List D)) (A : Option Addr) (c b o : Nat), (∀ b o v, pr b o v → w.cell? ⟨b, o, none⟩ = some v) → K es → y = .slice A es.length c → (es ≠ [] → A = some ⟨b, o, none⟩) → RepEs (FF F0 ι) w (pr b) sz es o →
      ∃ (es : List (List D)) (A : Option Addr) (c : Nat) (vs : List Value), K es ∧ y = .slice A es.length c ∧ vs.length = es.length * sz ∧ (∀ u ∈ vs, u.oneCell' = true) ∧ RepEs (FF F0 ι) w (fun o y => vs[o]? = some y) sz es 0 ∧
        (es.length ≠ 0 → ∃ b o, A = some ⟨b, o, none⟩ ∧ ∀ j v, vs[j]? = some v → w.cell? ⟨b, o + j, none⟩ = some v) := by
    intro pr es A c b o hpr hK hy hA hr
    obtain ⟨vs, e1, e2, e3, e4⟩ := hr.vals
    exact ⟨es, A, c, vs, hK, hy, e1, e3, e4, fun hne => ⟨b, o, hA (by rintro rfl; exact hne rfl), fun j v hj => hpr _ _ _ (e2 j v hj)⟩⟩
  cases x with
  | ms id sz' off len =>
    obtain ⟨rfl, es, h1, h2, hK⟩ := h
    rcases hx with ⟨b, cap, hb, rfl, h3, h4⟩ | ⟨rfl, A, rfl⟩
    · obtain ⟨o, ho, hob⟩ := hc.obs _ b hb
      rw [h1] at ho
      injection ho with ho
      subst ho
      obtain ⟨c, T, e, hl, hsz⟩ := hob
      have h5 := (hl.drop off).take len
      rw [Nat.zero_add] at h5
      have h6 : ((es.drop off).take len).length = len := by simp; omega
      refine lists (fun b o v => w.cell? ⟨b, o, none⟩ = some v) _ (some ⟨b, off * sz', none⟩) cap b (off * sz') (fun _ _ _ h => h) hK (by rw [h6]) (fun _ => rfl) (RepEs.mono (fun _ _ _ h => h) (fun o u hu => ?_) _ _ _ h5)
      rw [cell_of e]; exact hu
    · exact ⟨_, A, 0, [], hK, by simp, by simp, by simp, by simp [RepEs], by simp⟩
  | bs sz' es =>
    obtain ⟨rfl, hK⟩ := h
    obtain ⟨A, cap, b, o, hy, h1, h2, h3⟩ := hx
    exact lists (Rdb (FF F0 ι) base w) es A cap b o (fun _ _ _ h => h.1) hK hy h2 h3
  | cp sz' es =>
    obtain ⟨rfl, hK⟩ := h
    obtain ⟨A, b, o, hy, h2, h3⟩ := hx
    exact lists (Rdb (FF F0 ι) base w) es A _ b o (fun _ _ _ h => h.1) hK hy h2 h3
  | d z =>
    simp only [elemsOf] at h
    split at h
    · obtain ⟨rfl, hK⟩ := h
      obtain ⟨A, cap, b, o, hy, h1, h2, h3⟩ := hx
      exact lists (Prot (FF F0 ι) w) _ A cap b o (fun _ _ _ h => h.1) hK hy h2 h3
    · obtain rfl := hx
      exact ⟨[], none, 0, [], h, rfl, by simp, by simp, trivial, by simp⟩
    · exact h.elim
  | _ => exact h.elim
/-- A block gets another name. -/
theorem StepX.rename (h : Core n base w0 F0 ι full ev a w) {p : Nat → Bool} {id dst b : Nat} (hb : ι id = some b) (hpd : p dst = true) : StepX p ι (FF F0 ι) base w (upd (Ab.wipe ι p) dst b) (FF F0 (upd (Ab.wipe ι p) dst b)) base w := by
  have hF : ∀ b' o, ¬ FF F0 ι b' o → ¬ FF F0 (upd (Ab.wipe ι p) dst b) b' o := by
    rintro b' o h0 (h1 | ⟨i, h1⟩)
    · exact h0 (.inl h1)
    · unfold upd Ab.wipe at h1
      split at h1
      · injection h1 with h1; subst h1; exact h0 (.inr ⟨id, hb⟩)
      · split at h1
        · cases h1
        · exact h0 (.inr ⟨i, h1⟩)
  exact {
    prot := fun b o x h => ⟨h.1, hF _ _ h.2⟩
    rdb := fun b o x h => ⟨h.1, h.2.imp (hF _ _) _root_.id⟩
    ids := fun j b' hj h1 => by
      unfold upd Ab.wipe
      rw [if_neg (by rintro rfl; rw [hpd] at hj; cases hj), if_neg (by rw [hj]; simp)]
      exact h1
    room := fun j b n _ _ h => h }
theorem Core.rename (h : Core n base w0 F0 ι full ev a w) {p : Nat → Bool} {id dst b : Nat} (hb : ι id = some b) (hpi : p id = true) (hpd : p dst = true) {full' : Nat → Option Ob} {ev' : Nat → AV} {o : Ob}
    (hf : ∀ j, p j = false → full' j = (full j).map (Ob.sub p fun _ => .un)) (hfd : full' dst = some o) (ho : ObOk (upd (Ab.wipe ι p) dst b) (FF F0 (upd (Ab.wipe ι p) dst b)) base w b o) (he : ∀ t, ev' t = (ev t).sub p fun _ => .un) :
    Core n base w0 F0 (upd (Ab.wipe ι p) dst b) full' ev' a w where
  below := h.below
  lowF := h.lowF
  size := h.size
  inj := by
    have key : ∀ i, i ≠ dst → Ab.wipe ι p i = some b → False := by
      intro i hi hw
      unfold Ab.wipe at hw
      split at hw
      · cases hw
      · rename_i hp
        exact hp (by rw [h.inj _ _ _ hw hb]; exact hpi)
    intro i j b' hi hj
    unfold upd at hi hj
    split at hi <;> split at hj
    · rename_i e1 e2; rw [e1, e2]
    · rename_i e1 e2; injection hi with hi; subst hi; exact (key _ e2 hj).elim
    · rename_i e1 e2; injection hj with hj; subst hj; exact (key _ e1 hi).elim
    · unfold Ab.wipe at hi hj
      split at hi
      · cases hi
      · split at hj
        · cases hj
        · exact h.inj i j b' hi hj
  low := by
    intro i b' hi
    unfold upd Ab.wipe at hi
    split at hi
    · injection hi with hi; subst hi; exact h.low _ _ hb
    · split at hi
      · cases hi
      · exact h.low i b' hi
  obs := by
    intro i b' hi
    unfold upd at hi
    split at hi
    · rename_i e
      injection hi with hi
      subst hi
      subst e
      exact ⟨o, hfd, ho⟩
    · unfold Ab.wipe at hi
      split at hi
      · cases hi
      · rename_i hp
        replace hp := Bool.eq_false_iff.2 hp
        obtain ⟨o', h1, h2⟩ := h.obs i b' hi
        refine ⟨o'.sub p fun _ => .un, by rw [hf i hp, h1]; rfl, ?_⟩
        have s := StepX.rename h hb hpd
        cases o' with
        | var cs => obtain ⟨c, T, e, hl⟩ := h2; exact ⟨c, T, e, RepL.sub (g := fun _ => .un) s (fun _ _ _ _ => trivial) _ _ hl⟩
        | arr sz es => obtain ⟨c, T, e, hl, h3⟩ := h2; exact ⟨c, T, e, RepEs.mono s.prot (fun _ _ h => h) _ _ _ hl, h3⟩
  tms t := by rw [he]; exact RepA.sub (g := fun _ => .un) (StepX.rename h hb hpd) (fun _ _ _ _ => trivial) _ _ (h.tms t)
  dfs := h.dfs
  nt := h.nt
theorem wipe_new {p : Nat → Bool} {dst : Nat} (hp : p dst = true) : wipe ι p dst = none := by unfold wipe; rw [hp]; rfl
theorem St.get_new (s : St) (p : Nat → Bool) (dst : Nat) (x : AV) (o : Ob) (t : Nat) : (s.new p dst x o).get t = if t = dst then x else (s.get t).sub p fun _ => .un := by
  show ((lk (ins dst x (s.kill p).tm) t).getD .un) = _
  rw [lk_ins]
  by_cases e : t = dst
  · subst e; simp
  · rw [if_neg (fun h => e h.symm), if_neg e]
    exact St.get_sub s p _ t
theorem full_new {s : St} {p : Nat → Bool} {dst : Nat} (hp : p dst = true) {x : AV} {o : Ob} (hfull : ∀ i o, lk s.ob i = some o → (ι i).isSome = true ∨ ∃ sz, o = .arr sz []) {ι' : Nat → Option Nat} (hι : ∀ j, p j = false → ι' j = ι j)
    (hd : (ι' dst).isSome = true ∨ ∃ sz, o = .arr sz []) : ∀ i o', lk (s.new p dst x o).ob i = some o' → (ι' i).isSome = true ∨ ∃ sz, o' = .arr sz [] := by
  intro i o' ho
  replace ho : lk ((dst, o) :: (s.kill p).ob) i = some o' := ho
  simp only [lk] at ho
  split at ho
  · rename_i e; subst e; injection ho with ho; subst ho; exact hd
  · unfold St.kill at ho
    rw [St.lk_sub] at ho
    split at ho
    · cases ho
    · rename_i hpi
      replace hpi := Bool.eq_false_iff.2 hpi
      simp only [Option.map_eq_some_iff] at ho
      obtain ⟨o2, h1, h2⟩ := ho
      rcases hfull i o2 h1 with h3 | ⟨sz, rfl⟩
      · left; rw [hι i hpi]; exact h3
      · right; exact ⟨sz, h2.symm⟩
theorem appA_sound {tt : TypeId → Option TI} (htt : TOK P tt) {s : St} (hr : RS base w0 F0 s a w) {ts tx ty : TypeId} {dst : Nat} {x y : Operand} {K : St → Prop} (h : appA tt s ts tx dst (evO s.get x) (evO s.get y) K) :
    ∃ s' v w', K s' ∧ (Builtin.append_ #[ts, tx] ty #[a.eval x, a.eval y]).run P w = .ok v w' ∧ RS base w0 F0 s' (a.put (some dst) v) w' := by
  obtain ⟨ι, hc, hfull⟩ := hr
  obtain ⟨e, ei, e', h1, h2, h3, hdst, h4⟩ := h
  have hu : P.underlying ts = some (.slice e) := (htt _ _ h1).2
  have hux : P.underlying tx = some (.slice e') := (htt _ _ h3).2
  have het := htt _ _ h2
  obtain ⟨ys, X, cx, vs, hB, hy, hvl, hone, hvr, hX⟩ := elemsOf_sound hc (hc.evO y) h4
  -- a new block
  have grow : ∀ (xs : List (List D)) (p : Nat → Bool) (A : Option Addr) (cap : Nat) (us : List Value), p dst = true → a.eval x = .slice A xs.length cap → us.length = xs.length * ei.size → RepEs (FF F0 ι) w (fun o y => us[o]? = some y) ei.size xs 0 →
      (xs.length ≠ 0 → ∃ b o, A = some ⟨b, o, none⟩ ∧ ∀ j v, us[j]? = some v → w.cell? ⟨b, o + j, none⟩ = some v) → cap < xs.length + ys.length →
      xs.length + ys.length ≤ 9223372036854775807 → (xs.length + ys.length) * ei.bytes ≤ 140737488355328 → K (s.new p dst (.ms dst ei.size 0 (xs.length + ys.length)) (.arr ei.size (xs ++ ys))) →
      ∃ s' v w', K s' ∧ (Builtin.append_ #[ts, tx] ty #[a.eval x, a.eval y]).run P w = .ok v w' ∧ RS base w0 F0 s' (a.put (some dst) v) w' := by
    intro xs p A cap us hp hx hul hur hA hg h63 hb hK
    obtain ⟨ncap, rest, n1, n2, n3⟩ := run_append_more (ty := ty) hu hux het hul hA hvl hX hg h63 hb
    refine ⟨_, _, _, hK, by rw [hx, hy]; exact n3, ?_⟩
    have hc1 := (hc.wipe p (g := fun _ => .un) (full' := lk (s.kill p).ob) (ev' := (s.kill p).get) (fun _ _ _ _ => trivial) (fun j hj => by unfold St.kill; rw [St.lk_sub, hj]; rfl) (fun t => St.get_sub s p _ t)).drew
    have hrep : RepEs (FF F0 (wipe ι p)) w.drew (fun o y => (us ++ vs ++ rest).toArray[o]? = some y) ei.size (xs ++ ys) 0 := by
      have st := StepX.wipe (F0 := F0) (ι := ι) (base := base) (w := w) p
      refine RepEs.mono (F := FF F0 (wipe ι p)) (F' := FF F0 (wipe ι p)) (w := w) (w' := w.drew) (pr := fun o y => (us ++ vs ++ rest).toArray[o]? = some y) (fun _ _ _ h => h) (fun _ _ h => h) _ _ _ ?_
      refine RepEs.append ?_ ?_
      · refine RepEs.mono st.prot (fun o u hu => ?_) _ _ _ hur
        have hlt := (List.getElem?_eq_some_iff.1 hu).1
        simp only [List.getElem?_toArray]
        rw [List.append_assoc, List.getElem?_append_left hlt, hu]
      · -- moved behind
        have shift : ∀ (l : List (List D)) (o : Nat), RepEs (FF F0 ι) w (fun o y => vs[o]? = some y) ei.size l o → RepEs (FF F0 (wipe ι p)) w (fun o y => (us ++ vs ++ rest).toArray[o]? = some y) ei.size l (us.length + o) := by
          have shiftC : ∀ (l : List D) (o : Nat), RepCs (FF F0 ι) w (fun o y => vs[o]? = some y) l o → RepCs (FF F0 (wipe ι p)) w (fun o y => (us ++ vs ++ rest).toArray[o]? = some y) l (us.length + o) := by
            intro l
            induction l with
            | nil => intro o _; trivial
            | cons z r ih =>
              intro o h
              obtain ⟨⟨g0, u, g1, g2⟩, g3⟩ := h
              refine ⟨⟨g0, u, ?_, RepD.mono st.prot _ _ g2⟩, by rw [Nat.add_assoc]; exact ih (o + 1) g3⟩
              have hlt := (List.getElem?_eq_some_iff.1 g1).1
              simp only [List.getElem?_toArray]
              rw [List.append_assoc, List.getElem?_append_right (by omega), Nat.add_sub_cancel_left, List.getElem?_append_left hlt, g1]
          intro l
          induction l with
          | nil => intro o _; trivial
          | cons z r ih =>
            intro o h
            exact ⟨h.1, shiftC z o h.2.1, by rw [Nat.add_assoc]; exact ih (o + ei.size) h.2.2⟩
        have := shift ys 0 hvr
        rw [hul] at this
        simpa using this
    have hcsz : (us ++ vs ++ rest).toArray.size = (ncap) * ei.size := by
      have hz : ei.zero.cells.size = ei.size := by
        cases ei with
        | st n b fs z => have := het.2.1; simpa [TI.zero, TI.size, Value.cells] using this
        | sc b z => have := het.2.1; cases z <;> first | rfl | cases this
        | _ => rfl
      simp only [List.size_toArray, List.length_append, hul, hvl, n2, hz]
      rw [← Nat.add_mul, ← Nat.add_mul]
      congr 1
      omega
    have heq : (s.new p dst (.ms dst ei.size 0 (xs.length + ys.length)) (.arr ei.size (xs ++ ys))).get = fun t => if t = dst then .ms dst ei.size 0 (xs.length + ys.length) else (s.kill p).get t := by
      funext t
      rw [St.get_new]
      unfold St.kill
      rw [St.get_sub]
    refine ⟨upd (wipe ι p) dst w.heap.size, ?_, full_new hp hfull (fun j hj => ?_) (.inl ?_)⟩
    · rw [heq]
      refine hc1.new (wipe_new hp) hdst (o := .arr ei.size (xs ++ ys)) (fun j b hj => ?_) ?_ ⟨hrep, ?_⟩ (.inl ⟨w.heap.size, ncap, by simp [upd], by simp, n1, _, e, heap_alloc_new w.drew _, ?_⟩)
      · show lk ((dst, _) :: (s.kill p).ob) j = _
        simp only [lk]
        rw [if_neg]
        rintro rfl
        rw [wipe_new hp] at hj
        cases hj
      · show lk ((dst, _) :: (s.kill p).ob) dst = _
        simp [lk]
      · rw [hcsz, List.length_append]
        exact Nat.mul_le_mul_right _ n1
      · rw [hcsz, Nat.zero_add]
        exact Nat.le_refl _
    · unfold upd wipe
      rw [if_neg (by rintro rfl; rw [hp] at hj; cases hj), if_neg (by rw [hj]; simp)]
    · simp [upd]
  -- nothing to append to nothing
  have idle : ∀ (p : Nat → Bool) (A : Option Addr), p dst = true → a.eval x = .slice A 0 0 → ys = [] → K (s.new p dst (.ms dst ei.size 0 0) (.arr ei.size [])) →
      ∃ s' v w', K s' ∧ (Builtin.append_ #[ts, tx] ty #[a.eval x, a.eval y]).run P w = .ok v w' ∧ RS base w0 F0 s' (a.put (some dst) v) w' := by
    rintro p A hp hx rfl hK
    refine ⟨_, _, _, hK, by rw [hx, hy]; exact run_append_none hu hux het (Nat.le_refl _), ?_⟩
    have hc1 := hc.wipe p (g := fun _ => .un) (full' := lk (s.new p dst (.ms dst ei.size 0 0) (.arr ei.size [])).ob) (ev' := (s.kill p).get) (fun _ _ _ _ => trivial) (fun j hj => by
      show lk ((dst, _) :: (s.kill p).ob) j = _
      simp only [lk]
      rw [if_neg (by rintro rfl; rw [hp] at hj; cases hj)]
      unfold St.kill; rw [St.lk_sub, hj]; rfl) (fun t => St.get_sub s p _ t)
    have heq : (s.new p dst (.ms dst ei.size 0 0) (.arr ei.size [])).get = fun t => if t = dst then .ms dst ei.size 0 0 else (s.kill p).get t := by
      funext t
      rw [St.get_new]
      unfold St.kill
      rw [St.get_sub]
    refine ⟨wipe ι p, ?_, full_new hp hfull (fun j hj => ?_) (.inr ⟨_, rfl⟩)⟩
    · rw [heq]
      exact hc1.put hdst (.inr ⟨rfl, A, rfl⟩)
    · unfold wipe
      rw [if_neg (by rw [hj]; simp)]
  generalize hax : evO s.get x = ax at hB
  have hx := hc.evO x
  rw [hax] at hx
  cases ax with
  | d z =>
    simp only [baseOf] at hB
    split at hB
    · obtain hx : a.eval x = .slice none 0 0 := hx
      obtain ⟨h63, hb, hK⟩ := hB
      by_cases hys : ys = []
      · subst hys
        exact idle _ _ (by simp) hx rfl hK
      · refine grow [] _ none 0 [] (by simp) hx (by simp) trivial (fun h => absurd rfl h) ?_ h63 hb hK
        have := List.length_pos_iff.2 hys
        simpa using this
    · exact hB.elim
  | cp sz' es =>
    obtain ⟨rfl, hne, h63, hb, hK⟩ := hB
    obtain ⟨A, b, o, hxe, h6, h7⟩ := hx
    by_cases hys : ys = []
    · rcases hne with rfl | hne
      · subst hys
        exact idle _ _ (by simp) hxe rfl hK
      · exact absurd hys hne
    · obtain ⟨us, u1, u2, u3, u4⟩ := h7.vals
      refine grow es _ A es.length us (by simp) hxe u1 u4 (fun h => ⟨b, o, h6 (by rintro rfl; exact h rfl), fun j v hj => (u2 j v hj).1⟩) ?_ h63 hb hK
      have := List.length_pos_iff.2 hys
      omega
  | ms id sz' off len =>
    obtain ⟨rfl, rfl, es, h6, h7, h63, hb, hK⟩ := hB
    have hlt : (es.take len).length = len := by simp; omega
    rcases hx with ⟨b, cap, hib, hxe, h8, h9⟩ | ⟨rfl, A, hxe⟩
    · obtain ⟨o, ho, hob⟩ := hc.obs _ b hib
      rw [h6] at ho
      injection ho with ho
      subst ho
      obtain ⟨c, T, hcb, hl, hsz⟩ := hob
      obtain ⟨us, u1, u2, u3, u4⟩ := (hl.take len).vals
      rw [Nat.zero_mul] at hxe
      by_cases hfit : len + ys.length ≤ cap
      · -- in place
        have hroom : cap * ei.size ≤ c.size := by
          obtain ⟨c2, T2, e1, e2⟩ := h9
          rw [hcb] at e1
          injection e1 with e1
          injection e1 with e1 _
          subst e1
          simpa using e2
        have hrun := run_append_fit (ty := ty) (c := cx) hu hux het hvl hX hfit hone hcb hroom
        have hbnd : len * ei.size + vs.length ≤ c.size := by
          rw [hvl, ← Nat.add_mul]
          exact Nat.le_trans (Nat.mul_le_mul_right _ hfit) hroom
        obtain ⟨c', r1, r2, r3, r4, r5, r6, r7⟩ := setCells_heap vs w b (len * ei.size) c T (0, 0) hcb hbnd
        have hcs : c'.size = c.size := by
          have := congrArg List.length r2
          simp at this
          omega
        have hlow : ∀ j, j < len * ei.size → c'[j]? = c[j]? := by
          intro j hj
          rw [← Array.getElem?_toList, r2, ← Array.getElem?_toList (xs := c), List.getElem?_append_left (by simp; omega), List.getElem?_take, if_pos hj]
        have hin : ∀ j u, vs[j]? = some u → c'[len * ei.size + j]? = some u := by
          intro j u hj
          have hjl := (List.getElem?_eq_some_iff.1 hj).1
          have hl1 : (c.toList.take (len * ei.size)).length = len * ei.size := by simp; omega
          rw [← Array.getElem?_toList, r2, List.getElem?_append_right (by omega), hl1, Nat.add_sub_cancel_left, List.getElem?_append_left hjl, hj]
        have hst := Step.write hc hib hcb r1 hcs r3
        have hrep : RepEs (FF F0 ι) (w.setCells b (len * ei.size) vs) (fun o y => c'[o]? = some y) ei.size (es.take len ++ ys) 0 := by
          refine RepEs.append ?_ ?_
          · refine RepEs.mono hst.prot (fun o u hu => ?_) _ _ _ u4
            have hlt' := (List.getElem?_eq_some_iff.1 hu).1
            rw [hlow o (by rw [u1, hlt] at hlt'; exact hlt')]
            have := u2 o u hu
            simpa using this
          · have shift : ∀ (l : List (List D)) (o : Nat), RepEs (FF F0 ι) w (fun o y => vs[o]? = some y) ei.size l o → RepEs (FF F0 ι) (w.setCells b (len * ei.size) vs) (fun o y => c'[o]? = some y) ei.size l (len * ei.size + o) := by
              have shiftC : ∀ (l : List D) (o : Nat), RepCs (FF F0 ι) w (fun o y => vs[o]? = some y) l o → RepCs (FF F0 ι) (w.setCells b (len * ei.size) vs) (fun o y => c'[o]? = some y) l (len * ei.size + o) := by
                intro l
                induction l with
                | nil => intro o _; trivial
                | cons z r ih =>
                  intro o h
                  obtain ⟨⟨g0, u, g1, g2⟩, g3⟩ := h
                  exact ⟨⟨g0, u, hin o u g1, RepD.mono hst.prot _ _ g2⟩, by rw [Nat.add_assoc]; exact ih (o + 1) g3⟩
              intro l
              induction l with
              | nil => intro o _; trivial
              | cons z r ih =>
                intro o h
                exact ⟨h.1, shiftC z o h.2.1, by rw [Nat.add_assoc]; exact ih (o + ei.size) h.2.2⟩
            have := shift ys 0 hvr
            rw [hlt]
            simpa using this
        have hbnd2 : (es.take len ++ ys).length * ei.size ≤ c'.size := by
          rw [List.length_append, hlt, hcs]
          exact Nat.le_trans (Nat.mul_le_mul_right _ hfit) hroom
        have hcw := Core.write hc hib hcb r1 hcs r3 r4 r5 r6 r7 (full' := fun j => if j = id then some (.arr ei.size (es.take len ++ ys)) else lk s.ob j) (o := .arr ei.size (es.take len ++ ys)) (fun j hj => by simp [hj]) (by simp) ⟨c', T, r1, hrep, hbnd2⟩
        have hst2 := StepX.rename (p := fun i => i == dst || i == id) (dst := dst) hcw hib (by simp)
        have hcr := Core.rename (p := fun i => i == dst || i == id) (dst := dst) hcw hib (by simp) (by simp)
          (full' := lk (s.new (fun i => i == dst || i == id) dst (.ms dst ei.size 0 ((es.take len).length + ys.length)) (.arr ei.size (es.take len ++ ys))).ob) (ev' := (s.kill fun i => i == dst || i == id).get) (o := .arr ei.size (es.take len ++ ys))
          (fun j hj => by
            show lk ((dst, _) :: (s.kill _).ob) j = _
            simp only [Bool.or_eq_false_iff, beq_eq_false_iff_ne] at hj
            simp only [lk]
            rw [if_neg (fun e => hj.1 e.symm), if_neg hj.2]
            unfold St.kill; rw [St.lk_sub]
            rw [if_neg (by simp [hj.1, hj.2])])
          (by show lk ((dst, _) :: (s.kill _).ob) dst = _; simp [lk])
          ⟨c', T, r1, RepEs.mono hst2.prot (fun _ _ h => h) _ _ _ hrep, hbnd2⟩ (fun t => St.get_sub s _ _ t)
        have heq : (s.new (fun i => i == dst || i == id) dst (.ms dst ei.size 0 ((es.take len).length + ys.length)) (.arr ei.size (es.take len ++ ys))).get = fun t => if t = dst then .ms dst ei.size 0 ((es.take len).length + ys.length) else (s.kill fun i => i == dst || i == id).get t := by
          funext t
          rw [St.get_new]
          unfold St.kill
          rw [St.get_sub]
        refine ⟨_, _, _, hK, by rw [hxe, hy]; exact hrun, upd (wipe ι fun i => i == dst || i == id) dst b, ?_, full_new (by simp) hfull (fun j hj => ?_) (.inl (by simp [upd]))⟩
        · rw [heq]
          refine hcr.put hdst (.inl ⟨b, cap, by simp [upd], by rw [hlt]; simp, by rw [hlt]; exact hfit, c', T, r1, by rw [hcs]; simpa using hroom⟩)
        · simp only [Bool.or_eq_false_iff, beq_eq_false_iff_ne] at hj
          unfold upd wipe
          rw [if_neg hj.1, if_neg (by simp [hj.1, hj.2])]
      · refine grow (es.take len) _ (some ⟨b, 0, none⟩) cap us (by simp) (by rw [hlt]; exact hxe) u1 u4 (fun _ => ⟨b, 0, rfl, fun j v hj => ?_⟩) (by omega) h63 hb hK
        rw [cell_of hcb]
        exact u2 j v hj
    · simp only [List.take_zero] at hK h63 hb
      by_cases hys : ys = []
      · subst hys
        exact idle _ _ (by simp) hxe rfl hK
      · refine grow [] _ A 0 [] (by simp) hxe (by simp) trivial (fun h => absurd rfl h) ?_ h63 hb hK
        have := List.length_pos_iff.2 hys
        simpa using this
  | _ => exact hB.elim
end
end Go.Proofs.Ab

namespace Go.Proofs.Ab
open Go Go.RowKit
set_option linter.unusedVariables false
set_option linter.unusedSimpArgs false

/-! ### Calls that hand over a new array, or that turn an array of ints in its place -/
/-- Ints as an array's elements. -/
def eI (l : List Int) : List (List D) := l.map fun n => [.v (.int .i64 n)]
/-- A function that returns an array of its own making. -/
def GoodN (P : Program) (f : FuncId) (args : List AV) (sz : Nat) (es : List (List D)) (len : Nat) : Prop :=
  (∃ fn, P.funcs[f]? = some fn ∧ (fn.name == "runtime.NumGoroutine") = false ∧ fn.body.isNone = false) ∧
  ∀ (w : World) (F : Nat → Nat → Prop) (vs : List Value), (∀ b o, F b o → b < w.heap.size) → RepL none' F w.heap.size w args vs →
    Calls P f vs.toArray w fun e w' => ∃ v, e = .returned v ∧ Below w.heap.size w w' ∧
      ((len = 0 ∧ es = [] ∧ ∃ A, v = .slice A 0 0) ∨
       ∃ b cap c T, w.heap.size ≤ b ∧ w'.heap[b]? = some (.cells c T (0, 0)) ∧ v = .slice (some ⟨b, 0, none⟩) len cap ∧ len ≤ cap ∧ cap * sz ≤ c.size ∧ es.length * sz ≤ c.size ∧
        RepEs (fun b' o => F b' o ∨ b' = b) w' (fun o y => c[o]? = some y) sz es 0)
/-- A function that turns an array of ints in its place. -/
def GoodI (P : Program) (f : FuncId) (zs zs' : List Int) (k : Option Nat) : Prop :=
  (∃ fn, P.funcs[f]? = some fn ∧ (fn.name == "runtime.NumGoroutine") = false ∧ fn.body.isNone = false) ∧ zs'.length = zs.length ∧ (∀ m, k = some m → m ≤ zs.length) ∧
  (∀ (w : World) (b cap : Nat) (c : Array Value) (T : TypeId), w.heap[b]? = some (.cells c T (0, 0)) → (∀ (j : Nat) (z : Int), zs[j]? = some z → c[j]? = some (Value.int .i64 z)) → zs.length ≤ cap →
    Calls P f #[.slice (some ⟨b, 0, none⟩) zs.length cap] w fun e w' => e = .returned (match k with | none => .tuple #[] | some m => .slice (some ⟨b, 0, none⟩) m cap) ∧
      ∃ c', w'.heap[b]? = some (.cells c' T (0, 0)) ∧ c'.size = c.size ∧ (∀ (j : Nat) (z : Int), zs'[j]? = some z → c'[j]? = some (Value.int .i64 z)) ∧ (∀ j, zs.length ≤ j → c'[j]? = c[j]?) ∧
      w'.os = w.os ∧ w'.tape = w.tape ∧ w'.output = w.output ∧ w.heap.size ≤ w'.heap.size ∧ ∀ i, i < w.heap.size → i ≠ b → w'.heap[i]? = w.heap[i]?) ∧
  (zs = [] → ∀ (w : World) (A : Option Addr), Calls P f #[.slice A 0 0] w fun e w' => e = .returned (match k with | none => .tuple #[] | some _ => .slice A 0 0) ∧ Below w.heap.size w w')

section
variable {P : Program} {n base : Nat} {w0 : World} {F0 : Nat → Nat → Prop} {ι : Nat → Option Nat} {full : Nat → Option Ob} {ev : Nat → AV} {a : Act} {w w' : World}
/-- A block that a callee made is the caller's own. -/
theorem Step.adopt (h : Core n base w0 F0 ι full ev a w) {d b : Nat} (hd : ι d = none) (hb : Below w.heap.size w w') (hb1 : w.heap.size ≤ b) : Step ι (FF F0 ι) base w (upd ι d b) (FF F0 (upd ι d b)) base w' where
  prot b' o x hp := by
    have hlt := cell_lt hp.1
    refine ⟨(cell_heap (hb.block b' hlt) o).trans hp.1, ?_⟩
    rintro (hf | ⟨j, hj⟩)
    · exact hp.2 (.inl hf)
    · unfold upd at hj
      split at hj
      · injection hj with e; omega
      · exact hp.2 (.inr ⟨j, hj⟩)
  rdb b' o x hp := by
    have hlt := cell_lt hp.1
    refine ⟨(cell_heap (hb.block b' hlt) o).trans hp.1, ?_⟩
    rcases hp.2 with hn | hn
    · refine .inl ?_
      rintro (hf | ⟨j, hj⟩)
      · exact hn (.inl hf)
      · unfold upd at hj
        split at hj
        · injection hj with e; omega
        · exact hn (.inr ⟨j, hj⟩)
    · exact .inr hn
  ids j b' hj := by
    unfold upd
    split
    · rename_i e; subst e; rw [hd] at hj; cases hj
    · exact hj
  room i b' m h1 h2 := by
    have := room_lt h2
    obtain ⟨c, T, h, h3⟩ := h2
    exact ⟨c, T, (hb.block b' this).trans h, h3⟩
theorem Core.adopt (h : Core n base w0 F0 ι full ev a w) {d b : Nat} (hd : ι d = none) (hdn : d < n) (hb : Below w.heap.size w w') (hb1 : w.heap.size ≤ b) (hb2 : b < w'.heap.size) {o : Ob} {full' : Nat → Option Ob} {x : AV} {v : Value}
    (hf : ∀ j b', ι j = some b' → full' j = full j) (hfd : full' d = some o) (ho : ObOk (upd ι d b) (FF F0 (upd ι d b)) base w' b o)
    (hx : RepA (upd ι d b) (FF F0 (upd ι d b)) base w' x v) :
    Core n base w0 F0 (upd ι d b) full' (fun t => if t = d then x else ev t) (a.put (some d) v) w' := by
  have s := Step.adopt h hd hb hb1
  have h1 : Core n base w0 F0 (upd ι d b) full' ev a w' := {
    below := h.below.trans (hb.mono h.size)
    lowF := h.lowF
    size := Nat.le_trans h.size hb.size
    inj := by
      intro i j b' hi hj
      unfold upd at hi hj
      split at hi <;> split at hj
      · rename_i e1 e2; rw [e1, e2]
      · injection hi with e; subst e; have := (h.low _ _ hj).2; omega
      · injection hj with e; subst e; have := (h.low _ _ hi).2; omega
      · exact h.inj i j b' hi hj
    low := by
      intro i b' hi
      unfold upd at hi
      split at hi
      · injection hi with e; subst e; have := h.size; omega
      · have := h.low i b' hi; have := hb.size; omega
    obs := by
      intro i b' hi
      unfold upd at hi
      split at hi
      · rename_i e
        injection hi with e'
        subst e; subst e'
        exact ⟨o, hfd, ho⟩
      · obtain ⟨o', h1, h2⟩ := h.obs i b' hi
        exact ⟨o', (hf i b' hi).trans h1, h2.mono s (hb.block b' (h.low i b' hi).2)⟩
    tms := fun t => RepA.mono s _ _ (h.tms t)
    dfs := h.dfs
    nt := h.nt }
  exact h1.put hdn hx
/-- One block of the call's own is written, and new ones stand behind. -/
theorem Step.writeG (h : Core n base w0 F0 ι full ev a w) {id b : Nat} (hb : ι id = some b) {c c' : Array Value} {T : TypeId} (h1 : w.heap[b]? = some (.cells c T (0, 0))) (h2 : w'.heap[b]? = some (.cells c' T (0, 0))) (hs : c'.size = c.size)
    (ho : ∀ k, k < w.heap.size → k ≠ b → w'.heap[k]? = w.heap[k]?) : Step ι (FF F0 ι) base w ι (FF F0 ι) base w' where
  prot b' o x hp := by
    have : b' ≠ b := by rintro rfl; exact hp.2 (.inr ⟨id, hb⟩)
    exact ⟨(cell_heap (ho b' (cell_lt hp.1) this) o).trans hp.1, hp.2⟩
  rdb b' o x hp := by
    have : b' ≠ b := by
      rintro rfl
      rcases hp.2 with h3 | h3
      · exact h3 (.inr ⟨id, hb⟩)
      · have := (h.low _ _ hb).1; omega
    exact ⟨(cell_heap (ho b' (cell_lt hp.1) this) o).trans hp.1, hp.2⟩
  ids _ _ h := h
  room i b' m _ hr := by
    have hlt := room_lt hr
    by_cases e : b' = b
    · subst e
      obtain ⟨c2, T2, e1, e2⟩ := hr
      rw [h1] at e1
      injection e1 with e1
      injection e1 with e1 e3
      subst e1
      exact ⟨c', T, h2, by rw [hs]; exact e2⟩
    · obtain ⟨c2, T2, e1, e2⟩ := hr
      exact ⟨c2, T2, (ho b' hlt e).trans e1, e2⟩
theorem Core.writeG (h : Core n base w0 F0 ι full ev a w) {id b : Nat} (hb : ι id = some b) {c c' : Array Value} {T : TypeId} (h1 : w.heap[b]? = some (.cells c T (0, 0))) (h2 : w'.heap[b]? = some (.cells c' T (0, 0))) (hs : c'.size = c.size)
    (ho : ∀ k, k < w.heap.size → k ≠ b → w'.heap[k]? = w.heap[k]?) (hos : w'.os = w.os) (htp : w'.tape = w.tape) (hou : w'.output = w.output) (hsz : w.heap.size ≤ w'.heap.size) {full' : Nat → Option Ob} {o : Ob} (hf : ∀ j, j ≠ id → full' j = full j) (hfi : full' id = some o)
    (hok : ObOk ι (FF F0 ι) base w' b o) : Core n base w0 F0 ι full' ev a w' where
  below := h.below.trans ⟨hos, htp, hou, by have := h.size; omega, fun k hk => by have h3 := h.size; have h4 := (h.low _ _ hb).1; exact ho k (by omega) (by omega)⟩
  lowF := h.lowF
  size := by have := h.size; omega
  inj := h.inj
  low i b' hi := by have := h.low i b' hi; omega
  obs i b' hi := by
    by_cases e : i = id
    · subst e
      rw [hb] at hi
      injection hi with hi
      subst hi
      exact ⟨o, hfi, hok⟩
    · obtain ⟨o', h3, h4⟩ := h.obs i b' hi
      refine ⟨o', (hf i e).trans h3, h4.mono (Step.writeG h hb h1 h2 hs ho) (ho b' (h.low _ _ hi).2 ?_)⟩
      rintro rfl
      exact e (h.inj _ _ _ hi hb)
  tms t := RepA.mono (Step.writeG h hb h1 h2 hs ho) _ _ (h.tms t)
  dfs := h.dfs
  nt := h.nt
theorem eI_rep {F : Nat → Nat → Prop} {pr : Nat → Value → Prop} : ∀ (zs : List Int) (o : Nat), (∀ j z, zs[j]? = some z → pr (o + j) (.int .i64 z)) → RepEs F w pr 1 (eI zs) o := by
  intro zs
  induction zs with
  | nil => intro o _; trivial
  | cons z r ih =>
    intro o h
    refine ⟨rfl, ⟨⟨rfl, _, by simpa using h 0 z rfl, rfl⟩, trivial⟩, ih (o + 1) fun j y hj => ?_⟩
    have := h (j + 1) y (by simpa using hj)
    rwa [show o + 1 + j = o + (j + 1) by omega]
theorem eI_read {F : Nat → Nat → Prop} {pr : Nat → Value → Prop} {zs : List Int} {o : Nat} (h : RepEs F w pr 1 (eI zs) o) (j : Nat) (z : Int) (hj : zs[j]? = some z) : pr (o + j) (.int .i64 z) := by
  obtain ⟨_, h2⟩ := h.at j [.v (.int .i64 z)] (by simp [eI, hj])
  obtain ⟨⟨_, y, h3, h4⟩, _⟩ := h2
  obtain rfl := h4
  simpa using h3
end

def AV.ret (id : Nat) : Option Nat → AV
  | none => .tp []
  | some m => .ms id 1 0 m
def stepX (P : Program) (o : Oper) (s : St) (K : St → Prop) : Prop :=
  o.guard = none ∧ ∃ f as ts, o.op = .call ⟨.value f, as, ts⟩ ∧
   ((∃ g xs args sz es len d, evO s.get f = .cl g [] ∧ passL (lk s.ob) (as.toList.map (evO s.get)) = some xs ∧ LeL xs args ∧ GoodN P g args sz es len ∧ o.dst = some d ∧ d < s.nt ∧ K (s.new (fun i => i == d) d (.ms d sz 0 len) (.arr sz es))) ∨
    (∃ g x id len es zs zs' k, evO s.get f = .cl g [] ∧ as = #[x] ∧ evO s.get x = .ms id 1 0 len ∧ lk s.ob id = some (.arr 1 es) ∧ es.take len = eI zs ∧ zs.length = len ∧ GoodI P g zs zs' k ∧ (∀ d, o.dst = some d → d < s.nt) ∧
      K (({ s with ob := ins id (.arr 1 (eI zs' ++ es.drop len)) s.ob } : St).put o.dst (AV.ret id k))))

section
variable {P : Program} {base : Nat} {w0 : World} {F0 : Nat → Nat → Prop} {a : Act} {w : World}
theorem RS.putV {s : St} {o : Oper} {x : AV} {v : Value} (hd : ∀ d, o.dst = some d → d < s.nt) {ι : Nat → Option Nat} (hc : Core s.nt base w0 F0 ι (lk s.ob) s.get a w) (hf : ∀ i o, lk s.ob i = some o → (ι i).isSome = true ∨ ∃ sz, o = .arr sz [])
    (hx : RepA ι (FF F0 ι) base w x v) : RS base w0 F0 (s.put o.dst x) (a.put o.dst v) w := by
  cases hdst : o.dst with
  | none => exact ⟨ι, hc, hf⟩
  | some d =>
    refine ⟨ι, ?_, hf⟩
    have := hc.put (hd d hdst) hx
    have e : (s.put (some d) x).get = fun t => if t = d then x else s.get t := by
      funext t
      show ((lk (ins d x s.tm) t).getD .un) = _
      rw [lk_ins]
      by_cases h : t = d
      · subst h; simp
      · rw [if_neg (fun e => h e.symm), if_neg h]; rfl
    show Core s.nt base w0 F0 ι (lk s.ob) (s.put (some d) x).get _ w
    rw [e]
    exact this
theorem stepX_sound {s : St} (hr : RS base w0 F0 s a w) {o : Oper} {K : St → Prop} (h : stepX P o s K)
    {next : Act → World → Prop} {Q : Exit → Act → World → Prop} (hn : ∀ s' a' w', K s' → RS base w0 F0 s' a' w' → next a' w') : o.wp P a w next Q := by
  obtain ⟨hg, f, as, ts, ho, h⟩ := h
  rcases h with ⟨g, xs, args, sz, es, len, d, h1, h2, h3, h4, hdst, hdn, hK⟩ | ⟨g, x, id, len, es, zs, zs', k, h1, rfl, h3, h4, h5, h6, h7, hdn, hK⟩
  · obtain ⟨ι, hc, hfull⟩ := hr
    have hfv := hc.evO f
    rw [h1] at hfv
    obtain ⟨vc, e1, e2⟩ := hfv
    obtain rfl : vc = [] := e2
    have hargs := passL_sound hc _ _ _ h2 (evs_rep hc as.toList)
    have he : (execOp a.eval o).run P w = .ok (.enter g (as.toList.map a.eval).toArray) w := by
      have hen := run_enter (w := w) (args := (as.toList.map a.eval).toArray) h4.1
      simp only [execOp, ho, Sem.run_bind, resolve, e1, Deferred.ofValue, Sem.run_pure, Result.andThen_ok, invoke]
      have : (#[] ++ as.map a.eval ++ (#[] : Array Value)) = (as.toList.map a.eval).toArray := by
        rw [← Array.toList_map, Array.toArray_toList, Array.empty_append, Array.append_empty]
      rw [this]
      exact hen
    unfold Oper.wp
    rw [he]
    rw [Oper.upon_enter]
    refine (h4.2 w (FF F0 ι) _ ?_ (h3.sound hargs)).mono ?_
    · rintro b o (h | ⟨id, h⟩)
      · exact Nat.lt_of_lt_of_le (hc.lowF b o h) hc.size
      · exact (hc.low _ _ h).2
    · rintro e w' ⟨v, rfl, hb, hv⟩
      refine hn _ _ _ hK ?_
      rw [hdst]
      have hp : (fun i => i == d) d = true := by simp
      have hc1 := hc.wipe (fun i => i == d) (g := fun _ => .un) (full' := lk (s.kill fun i => i == d).ob) (ev' := (s.kill fun i => i == d).get) (fun _ _ _ _ => trivial) (fun j hj => by unfold St.kill; rw [St.lk_sub, hj]; rfl) (fun t => St.get_sub s _ _ t)
      have heq : (s.new (fun i => i == d) d (.ms d sz 0 len) (.arr sz es)).get = fun t => if t = d then .ms d sz 0 len else (s.kill fun i => i == d).get t := by
        funext t
        rw [St.get_new]
        unfold St.kill
        rw [St.get_sub]
      rcases hv with ⟨rfl, rfl, A, rfl⟩ | ⟨b, cap, c, T, hb1, hb2, rfl, hl1, hl2, hl3, hes⟩
      · refine ⟨wipe ι (fun i => i == d), ?_, full_new (p := fun i => i == d) hp hfull (fun j hj => ?_) (.inr ⟨_, rfl⟩)⟩
        · have hc2 : Core s.nt base w0 F0 (wipe ι (fun i => i == d)) (lk (s.new (fun i => i == d) d (.ms d sz 0 0) (.arr sz [])).ob) (s.kill fun i => i == d).get a w' := by
            refine Core.later ?_ hb
            refine { hc1 with obs := fun i b hi => ?_ }
            obtain ⟨o', q1, q2⟩ := hc1.obs i b hi
            refine ⟨o', ?_, q2⟩
            show lk ((d, _) :: (s.kill _).ob) i = _
            simp only [lk]
            rw [if_neg (by rintro rfl; rw [wipe_new (p := fun i => i == d) hp] at hi; cases hi)]
            exact q1
          rw [heq]
          exact hc2.put hdn (.inr ⟨rfl, A, rfl⟩)
        · unfold wipe
          rw [if_neg (fun h => by replace h : (j == d) = true := h; rw [h] at hj; cases hj)]
      · have hbl : b < w'.heap.size := (Array.getElem?_eq_some_iff.1 hb2).1
        refine ⟨upd (wipe ι (fun i => i == d)) d b, ?_, full_new (p := fun i => i == d) hp hfull (fun j hj => ?_) (.inl (by simp [upd]))⟩
        · rw [heq]
          refine hc1.adopt (wipe_new (p := fun i => i == d) hp) hdn hb hb1 hbl (o := .arr sz es) (fun j b' hj => ?_) ?_ ⟨c, T, hb2, RepEs.mono (fun b' o x hx => ⟨hx.1, fun hF => hx.2 ?_⟩) (fun _ _ h => h) _ _ _ hes, hl3⟩ (.inl ⟨b, cap, by simp [upd], by simp, hl1, c, T, hb2, by simpa using hl2⟩)
          · show lk ((d, _) :: (s.kill _).ob) j = _
            simp only [lk]
            rw [if_neg]
            rintro rfl
            rw [wipe_new (p := fun i => i == d) hp] at hj
            cases hj
          · show lk ((d, _) :: (s.kill _).ob) d = _
            simp [lk]
          · rcases hF with hF | ⟨j, hj⟩
            · exact .inl (.inl hF)
            · unfold upd at hj
              split at hj
              · injection hj with hj; exact .inr hj.symm
              · unfold wipe at hj
                split at hj
                · cases hj
                · exact .inl (.inr ⟨j, hj⟩)
        · have hjd : j ≠ d := by rintro rfl; simp at hj
          unfold upd wipe
          rw [if_neg hjd, if_neg (fun h => by replace h : (j == d) = true := h; rw [h] at hj; cases hj)]
  · obtain ⟨ι, hc, hfull⟩ := hr
    have hfv := hc.evO f
    rw [h1] at hfv
    obtain ⟨vc, e1, e2⟩ := hfv
    obtain rfl : vc = [] := e2
    have he : (execOp a.eval o).run P w = .ok (.enter g #[a.eval x]) w := by
      have hen := run_enter (w := w) (args := #[a.eval x]) h7.1
      simp only [execOp, ho, Sem.run_bind, resolve, e1, Deferred.ofValue, Sem.run_pure, Result.andThen_ok, invoke]
      have : (#[] ++ (#[x] : Array Operand).map a.eval ++ (#[] : Array Value)) = #[a.eval x] := by simp
      rw [this]
      exact hen
    obtain ⟨_, hzl, hkl, hrun, hnil⟩ := h7
    have hx := hc.evO x
    rw [h3] at hx
    have hfull' : ∀ i o', lk (ins id (Ob.arr 1 (eI zs' ++ es.drop len)) s.ob) i = some o' → (i ≠ id → lk s.ob i = some o') := by
      intro i o' ho' hne
      rw [lk_ins, if_neg (fun e => hne e.symm)] at ho'
      exact ho'
    unfold Oper.wp
    rw [he]
    rw [Oper.upon_enter]
    rcases hx with ⟨b, cap, hib, hxe, h8, h9⟩ | ⟨rfl, A, hxe⟩
    · rw [Nat.zero_mul] at hxe
      rw [hxe]
      obtain ⟨o', ho', hob⟩ := hc.obs id b hib
      rw [h4] at ho'
      injection ho' with ho'
      subst ho'
      obtain ⟨c, T, hcb, hl, hsz⟩ := hob
      have hread := hl.take len
      rw [h5] at hread
      rw [← h6]
      refine (hrun w b cap c T hcb (fun j z hj => by simpa using eI_read hread j z hj) (by omega)).mono ?_
      rintro e w' ⟨rfl, c', r1, r2, r3, r4, r5, r6, r7, r8, r9⟩
      refine hn _ _ _ hK ?_
      have hst := Step.writeG hc hib hcb r1 r2 r9
      have hes : es.length = len + (es.drop len).length := by
        have := congrArg List.length h5
        simp [eI] at this ⊢
        omega
      have hcw := Core.writeG hc hib hcb r1 r2 r9 r5 r6 r7 r8 (full' := lk (ins id (Ob.arr 1 (eI zs' ++ es.drop len)) s.ob)) (o := .arr 1 (eI zs' ++ es.drop len)) (fun j hj => by rw [lk_ins, if_neg (fun e => hj e.symm)]) (by rw [lk_ins, if_pos rfl]) ⟨c', T, r1, by
          refine RepEs.append (eI_rep zs' 0 fun j z hj => by simpa using r3 j z hj) ?_
          have hd := hl.drop len
          have hlen : (eI zs').length = len := by simp [eI]; omega
          rw [hlen]
          -- the cells behind are as they were
          have hgen : ∀ (l : List (List D)) (o : Nat), len ≤ o → RepEs (FF F0 ι) w (fun o y => c[o]? = some y) 1 l o → RepEs (FF F0 ι) w' (fun o y => c'[o]? = some y) 1 l o := by
            have hgenC : ∀ (l : List D) (o : Nat), len ≤ o → RepCs (FF F0 ι) w (fun o y => c[o]? = some y) l o → RepCs (FF F0 ι) w' (fun o y => c'[o]? = some y) l o := by
              intro l
              induction l with
              | nil => intro o _ _; trivial
              | cons x r ih =>
                intro o ho h
                obtain ⟨⟨g0, y, g1, g2⟩, g3⟩ := h
                exact ⟨⟨g0, y, (r4 o (by omega)).trans g1, RepD.mono hst.prot _ _ g2⟩, ih (o + 1) (by omega) g3⟩
            intro l
            induction l with
            | nil => intro o _ _; trivial
            | cons x r ih =>
              intro o ho h
              exact ⟨h.1, hgenC x o ho h.2.1, ih (o + 1) (by omega) h.2.2⟩
          exact hgen _ _ (by omega) hd, by
          rw [List.length_append, r2]
          simp [eI] at hes hsz ⊢
          omega⟩
      refine RS.putV (s := { s with ob := ins id (.arr 1 (eI zs' ++ es.drop len)) s.ob }) (o := o) (ι := ι) hdn hcw ?_ ?_
      · intro i o' ho'
        by_cases e : i = id
        · subst e; left; rw [hib]; rfl
        · exact hfull i o' (hfull' i o' ho' e)
      · cases k with
        | none => exact ⟨[], rfl, rfl⟩
        | some m =>
          have hm := hkl m rfl
          refine .inl ⟨b, cap, hib, by rw [Nat.zero_mul], by omega, ?_⟩
          exact hst.room id b _ hib h9
    · obtain rfl : zs = [] := List.length_eq_zero_iff.1 h6
      obtain rfl : zs' = [] := List.length_eq_zero_iff.1 (by simpa using hzl)
      rw [hxe]
      refine (hnil rfl w A).mono ?_
      rintro e w' ⟨rfl, hb⟩
      refine hn _ _ _ hK ?_
      have hobs : ∀ i, lk (ins id (Ob.arr 1 (eI [] ++ es.drop 0)) s.ob) i = lk s.ob i := by
        intro i
        rw [lk_ins]
        split
        · rename_i e; subst e; rw [h4]; simp [eI]
        · rfl
      have hc2 := hc.later hb
      refine RS.putV (s := { s with ob := ins id (.arr 1 (eI [] ++ es.drop 0)) s.ob }) (o := o) (ι := ι) hdn (a := a) ?_ ?_ ?_
      · show Core s.nt base w0 F0 ι (lk (ins id (Ob.arr 1 (eI [] ++ es.drop 0)) s.ob)) s.get a w'
        rw [show lk (ins id (Ob.arr 1 (eI [] ++ es.drop 0)) s.ob) = lk s.ob from funext hobs]
        exact hc2
      · intro i o' ho'
        have ho' : lk (ins id (Ob.arr 1 (eI [] ++ es.drop 0)) s.ob) i = some o' := ho'
        rw [hobs] at ho'
        exact hfull i o' ho'
      · cases k with
        | none => exact ⟨[], rfl, rfl⟩
        | some m =>
          have hm := hkl m rfl
          simp at hm
          subst hm
          exact .inr ⟨rfl, A, rfl⟩
end
end Go.Proofs.Ab

namespace Go.Proofs.Ab
open Go Go.RowKit
set_option linter.unusedVariables false
set_option linter.unusedSimpArgs false

/-! ### One operation after the other -/
def St.fin (s : St) (dst : Option Nat) (x : AV) (ob : Option Ob) : St :=
  match ob, dst with
  | some o, some d => ⟨s.nt, ins d x s.tm, (d, o) :: s.ob⟩
  | _, _ => s.put dst x
def St.ready (s : St) (o : Oper) : St := if makes o then (match o.dst with | some d => s.kill fun i => i == d | none => s) else s
def dstOk (o : Oper) (s : St) : Prop := match o.dst with | some d => d < s.nt | none => True
def stepA (P : Program) (tt : TypeId → Option TI) (et : TypeId → Bool) (o : Oper) (s : St) (K : St → Prop) : Prop :=
  dstOk o s ∧
  match o.op with
  | .store t x y => storeA tt s t (evO s.get x) (evO s.get y) fun s' => dstOk o s' ∧ K (s'.put o.dst .un)
  | .call ⟨.builtin .append, as, ts⟩ => ∃ x y t t' d, as = #[x, y] ∧ ts = #[t, t'] ∧ o.dst = some d ∧ appA tt s t t' d (evO s.get x) (evO s.get y) K
  | _ => calm P tt et o (evO (s.ready o).get) (lk (s.ready o).ob) fun x ob => K ((s.ready o).fin o.dst x ob)
/-- What a guard reads: a bool, or that the operation it waits for was left out. -/
def gd : AV → Option (Option Bool)
  | .d (.v (.bool b)) => some (some b)
  | .d (.v (.tuple _)) => some none
  | _ => none
theorem gd_yields {ops : Array Oper} {ι : Nat → Option Nat} {F : Nat → Nat → Prop} {base : Nat} {w : World} {tmps : Array Value} {j d : Nat} {x : AV} {g : Option Bool} (h1 : (ops[j]?).bind (·.dst) = some d) (h2 : gd x = some g) (ht : RepA ι F base w x (tmps.getD d undef)) : yielded ops tmps j = g := by
  unfold yielded
  rw [h1]
  simp only [Option.bind_some]
  rw [Array.getD_eq_getD_getElem?] at ht
  unfold gd at h2
  split at h2
  · rename_i b
    injection h2 with h2
    subst h2
    have ht' : (tmps[d]?).getD undef = .bool b := ht
    cases e : tmps[d]? with
    | none => rw [e] at ht'; cases ht'
    | some v => rw [e] at ht'; simp only [Option.getD_some] at ht'; rw [ht']
  · rename_i b
    injection h2 with h2
    subst h2
    have ht' : (tmps[d]?).getD undef = .tuple b := ht
    cases e : tmps[d]? with
    | none => rfl
    | some v => rw [e] at ht'; simp only [Option.getD_some] at ht'; rw [ht']
  · cases h2
def stepG (P : Program) (tt : TypeId → Option TI) (et : TypeId → Bool) (ops : Array Oper) (o : Oper) (s : St) (K : St → Prop) : Prop :=
  match o.guard with
  | none => stepA P tt et o s K
  | some (j, want) => ∃ d g, (ops[j]?).bind (·.dst) = some d ∧ gd (s.get d) = some g ∧ dstOk o s ∧ (g = some want → stepA P tt et o s K) ∧ (g ≠ some want → K (s.put o.dst (.d (.v (.tuple #[])))))
def aops (P : Program) (tt : TypeId → Option TI) (et : TypeId → Bool) (ops : Array Oper) : List Oper → St → (St → Prop) → Prop
  | [], s, K => K s
  | o :: r, s, K => ∃ s0, Weak s s0 ∧ ((stepG P tt et ops o s0 fun s' => aops P tt et ops r s' K) ∨ stepX P o s0 fun s' => aops P tt et ops r s' K)

section
variable {P : Program} {base : Nat} {w0 : World} {F0 : Nat → Nat → Prop} {a : Act} {w : World} {tt : TypeId → Option TI} {et : TypeId → Bool}
theorem RS.put {s : St} (h : RS base w0 F0 s a w) {o : Oper} (hd : dstOk o s) : RS base w0 F0 (s.put o.dst .un) (a.put o.dst undef) w := by
  unfold dstOk at hd
  obtain ⟨ι, hc, hf⟩ := h
  cases hdst : o.dst with
  | none => exact ⟨ι, hc, hf⟩
  | some d =>
    rw [hdst] at hd
    refine ⟨ι, ?_, hf⟩
    have := hc.put (d := d) hd (x := .un) (v := undef) trivial
    have e : (s.put (some d) .un).get = fun t => if t = d then .un else s.get t := by
      funext t
      show ((lk (ins d .un s.tm) t).getD .un) = _
      rw [lk_ins]
      by_cases h : t = d
      · subst h; simp
      · rw [if_neg (fun e => h e.symm), if_neg h]; rfl
    show Core s.nt base w0 F0 ι (lk s.ob) (s.put (some d) .un).get _ w
    rw [e]
    exact this
theorem RS.putU {s : St} (h : RS base w0 F0 s a w) {o : Oper} (hd : dstOk o s) : RS base w0 F0 (s.put o.dst (.d (.v (.tuple #[])))) (a.put o.dst undef) w := by
  unfold dstOk at hd
  obtain ⟨ι, hc, hf⟩ := h
  refine RS.putV (x := .d (.v (.tuple #[]))) ?_ hc hf (by exact rfl)
  intro d hdst
  rw [hdst] at hd
  exact hd
theorem get_fin (s : St) (d : Nat) (x : AV) (ob : Option Ob) : (s.fin (some d) x ob).get = fun t => if t = d then x else s.get t := by
  funext t
  have : (s.fin (some d) x ob).tm = ins d x s.tm := by unfold St.fin; split <;> simp_all [St.put]
  show ((lk (s.fin (some d) x ob).tm t).getD .un) = _
  rw [this, lk_ins]
  by_cases h : t = d
  · subst h; simp
  · rw [if_neg (fun e => h e.symm), if_neg h]; rfl
theorem RS.after {s : St} {ι : Nat → Option Nat} (hc : Core s.nt base w0 F0 ι (lk s.ob) s.get a w) (hf : ∀ i o, lk s.ob i = some o → (ι i).isSome = true ∨ ∃ sz, o = .arr sz []) {dst : Option Nat} {x : AV} {ob : Option Ob} {a' : Act} {w' : World}
    (hn : ∀ o d, ob = some o → dst = some d → lk s.ob d = none ∧ ι d = none)
    (h : After s.nt base w0 F0 ι (lk s.ob) s.get dst x ob a' w') : RS base w0 F0 (s.fin dst x ob) a' w' := by
  cases ob with
  | none =>
    cases dst with
    | none => exact ⟨ι, h, hf⟩
    | some d =>
      refine ⟨ι, ?_, hf⟩
      have e := get_fin s d x none
      show Core s.nt base w0 F0 ι (lk s.ob) (s.fin (some d) x none).get _ _
      rw [e]
      exact h
  | some oo =>
    obtain ⟨d, b, rfl, hk⟩ := h
    obtain ⟨hl, hi⟩ := hn oo d rfl rfl
    refine ⟨upd ι d b, ?_, ?_⟩
    · have := hk (lk ((d, oo) :: s.ob)) (fun j b' hj => by
        simp only [lk]
        rw [if_neg]
        rintro rfl
        rw [hi] at hj; cases hj) (by simp [lk])
      have e := get_fin s d x (some oo)
      show Core s.nt base w0 F0 _ (lk ((d, oo) :: s.ob)) (s.fin (some d) x (some oo)).get _ _
      rw [e]
      exact this
    · intro i o ho
      have ho : lk ((d, oo) :: s.ob) i = some o := ho
      simp only [lk] at ho
      split at ho
      · rename_i e; subst e; left; simp [upd]
      · rename_i e
        rcases hf i o ho with h1 | h1
        · left; unfold upd; rw [if_neg (fun e' => e e'.symm)]; exact h1
        · exact .inr h1
theorem idxA_F {sz : Nat} {x : AV} {n : Nat} (h : idxA sz x n fun _ => False) : False := by
  revert h; unfold idxA; split <;> intro h <;> first | exact h.2.2 | (obtain ⟨_, e, _, h⟩ := h; exact h) | exact h
theorem strIdxA_F {x : AV} {n : Nat} (h : strIdxA x n fun _ => False) : False := by
  revert h; unfold strIdxA; split <;> intro h <;> first | exact h.2 | exact h
theorem cutA_F {x : AV} {lo hi : Option AV} {fl : Bool} (h : cutA x lo hi fl fun _ => False) : False := by
  have key : ∀ {len : Nat}, (cutL len lo hi fun _ _ => False) → False := fun h => by obtain ⟨_, _, h, _⟩ := cutL_at h; exact h
  cases x with
  | ms id sz off len => exact key h
  | bs sz es => exact key h
  | cp sz es => exact key h
  | d y =>
    cases y with
    | v z =>
      simp only [cutA] at h
      unfold cutV at h
      split at h
      · exact key h.2
      · exact key h
      · exact h
    | sl sz es => exact key h
    | rp cs => exact h
  | _ => exact h
theorem binA_F {op : BinOp} {x y : AV} (h : binA op x y fun _ => False) : False := by
  revert h
  unfold binA
  split
  · rintro ⟨_, h⟩
    cases op <;> first | exact h.2 | (obtain ⟨v, _, h⟩ := h; exact h)
  · intro h
    cases op <;> first | exact h.2 | (obtain ⟨v, _, h⟩ := h; exact h)
  · exact id
theorem eqA_F {t : TypeId} {i : TI} {neq : Bool} {x y : AV} (h : eqA et t i neq x y fun _ => False) : False := by
  revert h
  unfold eqA
  split
  · rintro ⟨p, q, _, _, h⟩; exact h
  · rintro ⟨_, h⟩
    revert h
    unfold nilA
    split <;> intro h <;> first | exact h.2 | exact h
  · rintro ⟨he, cs, ds, xs, ys, h1, h2, h3, h4, h5, h6, h7, h8, hK⟩; exact hK
  · exact id
theorem unA_F {op : UnOp} {x : AV} (h : unA op x fun _ => False) : False := by
  revert h; unfold unA; split <;> exact id
theorem lenA_F {x : AV} (h : lenA x fun _ => False) : False := by
  revert h; unfold lenA; split <;> exact id
theorem calm_makes {o : Oper} {ev : Operand → AV} {full : Nat → Option Ob} {x : AV} {ob : Ob} (h : calm P tt et o ev full fun x' ob' => x' = x ∧ ob' = some ob) : makes o = true := by
  unfold calm at h
  unfold makes
  have e : ∀ v : AV, (v = x ∧ (none : Option Ob) = some ob) = False := fun v => by simp
  cases ho : o.op <;> simp only [ho] at h ⊢
  case move => exact absurd h.2 (by simp)
  case assign => exact absurd h.2 (by simp)
  case pick => obtain ⟨_, _, h⟩ := h; exact absurd h.2 (by simp)
  case load => obtain ⟨_, _, _, _, h⟩ := h; exact absurd h.2 (by simp)
  case fieldAddr => obtain ⟨_, _, _, _, _, _, h⟩ := h; exact absurd h.2 (by simp)
  case field => obtain ⟨_, _, _, _, _, _, _, _, h⟩ := h; exact absurd h.2 (by simp)
  case indexAddr t x ix => obtain ⟨_, _, _, _, _, _, _, _, h⟩ := h; simp only [e] at h; exact (idxA_F h).elim
  case index t x ix => obtain ⟨_, _, _, _, _, h⟩ := h; simp only [e] at h; exact (strIdxA_F h).elim
  case slice t x lo hi mx =>
    obtain ⟨_, _, _, h⟩ := h
    split at h
    · simp only [e] at h; exact (cutA_F h).elim
    · obtain ⟨_, _, _, _, _, _, h⟩ := h; simp only [e] at h; exact (cutA_F h).elim
  case binOp op t x y yt =>
    rcases h with h | ⟨_, _, _, _, h⟩
    · simp only [e] at h; exact (binA_F h).elim
    · simp only [e] at h; exact (eqA_F h).elim
  case unOp => simp only [e] at h; exact (unA_F h).elim
  case convert => obtain ⟨_, _, _, _, _, _, _, _, h⟩ := h; exact absurd h.2 (by simp)
  case build => obtain ⟨_, _, _, _, _, _, _, _, h⟩ := h; exact absurd h.2 (by simp)
  case makeFunc => obtain ⟨_, _, _, h⟩ := h; exact absurd h.2 (by simp)
  case nilCheck => exact absurd h.2.2 (by simp)
  case extract => obtain ⟨_, _, _, _, h⟩ := h; exact absurd h.2 (by simp)
  case call c =>
    split at h
    · obtain ⟨_, _, _, _, _, _, _, _, _, h⟩ := h; exact absurd h.2 (by simp)
    · obtain ⟨_, _, _, _, _, _, _, h⟩ := h; simp only [e] at h; exact (lenA_F h).elim
    · obtain ⟨_, _, _, _, _, _, _, _, _, _, h⟩ := h; exact absurd h.2 (by simp)
    · obtain ⟨_, _, _, _, _, _, _, _, _, _, h⟩ := h; exact absurd h.2 (by simp)
    · exact h.elim
  all_goals first | rfl | exact h.elim
theorem RS.ready {s : St} (h : RS base w0 F0 s a w) (o : Oper) : RS base w0 F0 (s.ready o) a w := by
  unfold St.ready
  split
  · cases o.dst with
    | none => exact h
    | some d => exact Weak.kill s _ _ _ _ _ _ h
  · exact h
theorem calm_step (htt : TOK P tt) (hett : ETOK P tt et) {s : St} (hr : RS base w0 F0 s a w) {o : Oper} {K : St → Prop} (hd : dstOk o s) (h : calm P tt et o (evO (s.ready o).get) (lk (s.ready o).ob) fun x ob => K ((s.ready o).fin o.dst x ob))
    {next : Act → World → Prop} {Q : Exit → Act → World → Prop} (hn : ∀ s' a' w', K s' → RS base w0 F0 s' a' w' → next a' w') : o.wp P a w next Q := by
  have hnt : (s.ready o).nt = s.nt := by
    unfold St.ready
    split
    · cases o.dst <;> rfl
    · rfl
  obtain ⟨ι, hc, hf⟩ := hr.ready o
  have hd' : ∀ d, o.dst = some d → d < (s.ready o).nt := by
    intro d e
    unfold dstOk at hd
    rw [e] at hd
    rw [hnt]; exact hd
  have hkill : makes o = true → ∀ d, o.dst = some d → lk (s.ready o).ob d = none := by
    intro hm d e
    unfold St.ready
    rw [if_pos hm, e]
    show lk (s.sub (fun i => i == d) fun _ => .un).ob d = none
    rw [St.lk_sub]
    simp
  have hι : makes o = true → ∀ d, o.dst = some d → ι d = none := by
    intro hm d e
    cases hi : ι d with
    | none => rfl
    | some b =>
      obtain ⟨oo, h1, _⟩ := hc.obs d b hi
      rw [hkill hm d e] at h1
      cases h1
  obtain ⟨x, ob, hK, hcalm, hwp⟩ := calm_sound htt hett hc hd' hι h
  refine hwp next Q fun a' w' haf => hn _ a' w' hK (RS.after hc hf ?_ haf)
  rintro oo d rfl hdst
  exact ⟨hkill (calm_makes hcalm) d hdst, hι (calm_makes hcalm) d hdst⟩
theorem stepA_sound (htt : TOK P tt) (hett : ETOK P tt et) {s : St} (hr : RS base w0 F0 s a w) {o : Oper} {K : St → Prop} (h : stepA P tt et o s K)
    {next : Act → World → Prop} {Q : Exit → Act → World → Prop} (hn : ∀ s' a' w', K s' → RS base w0 F0 s' a' w' → next a' w') : o.wp P a w next Q := by
  obtain ⟨hd, h⟩ := h
  split at h
  · rename_i t x y ho
    obtain ⟨s', w', ⟨hd', hK⟩, hrun, hr'⟩ := storeA_sound htt hr h
    unfold Oper.wp
    simp only [execOp, ho, Sem.run_bind, hrun, Result.andThen_ok, Sem.run_pure, Oper.upon_skip]
    exact hn _ _ _ hK (hr'.put hd')
  · rename_i as ts ho
    obtain ⟨x, y, t, t', d, rfl, rfl, hdst, h⟩ := h
    obtain ⟨s', v, w', hK, hrun, hr'⟩ := appA_sound (ty := o.type) htt hr h
    unfold Oper.wp
    simp only [execOp, ho, resolve, Sem.run_bind, Sem.run_pure, Result.andThen_ok, invoke, builtin]
    have e1 : (#[x, y] : Array Operand).map a.eval = #[a.eval x, a.eval y] := by simp
    rw [e1, hrun]
    simp only [Result.andThen_ok, Oper.upon_value, hdst]
    exact hn _ _ _ hK hr'
  · exact calm_step htt hett hr hd h hn
theorem stepG_sound (htt : TOK P tt) (hett : ETOK P tt et) {ops : Array Oper} {s : St} (hr : RS base w0 F0 s a w) {i : Nat} {o : Oper} (hi : ops[i]? = some o) {K : St → Prop} (h : stepG P tt et ops o s K)
    {next : Act → World → Prop} {Q : Exit → Act → World → Prop} (hn : ∀ s' a' w', K s' → RS base w0 F0 s' a' w' → next a' w') : wpOp P ops Q i next a w := by
  unfold wpOp
  simp only [hi]
  unfold stepG at h
  cases hg : o.guard with
  | none =>
    rw [hg] at h
    rw [if_pos (by simp [Region.wanted, hg])]
    exact .inl (stepA_sound htt hett hr h hn)
  | some q =>
    obtain ⟨j, want⟩ := q
    rw [hg] at h
    obtain ⟨d, g, h1, h2, h3, h4, h5⟩ := h
    have hy : yielded ops a.tmps j = g := by
      obtain ⟨ι, hc, _⟩ := hr
      exact gd_yields h1 h2 (hc.tms d)
    have hw : Region.wanted o (yielded ops a.tmps) = decide (g = some want) := by
      simp only [Region.wanted, hg, hy]
      cases g with
      | none => rfl
      | some b => cases b <;> cases want <;> rfl
    rw [hw]
    by_cases e : g = some want
    · rw [if_pos (by simpa using e)]
      exact .inl (stepA_sound htt hett hr (h4 e) hn)
    · rw [if_neg (by simpa using e)]
      exact hn _ _ _ (h5 e) (hr.putU h3)
theorem stepT_sound (htt : TOK P tt) (hett : ETOK P tt et) {ops : Array Oper} {s : St} (hr : RS base w0 F0 s a w) {i : Nat} {o : Oper} (hi : ops[i]? = some o) {K : St → Prop} (h : stepG P tt et ops o s K ∨ stepX P o s K)
    {next : Act → World → Prop} {Q : Exit → Act → World → Prop} (hn : ∀ s' a' w', K s' → RS base w0 F0 s' a' w' → next a' w') : wpOp P ops Q i next a w := by
  rcases h with h | h
  · exact stepG_sound htt hett hr hi h hn
  · unfold wpOp
    simp only [hi]
    rw [if_pos (by simp [Region.wanted, h.1])]
    exact .inl (stepX_sound hr h hn)
theorem aops_sound (htt : TOK P tt) (hett : ETOK P tt et) {ops : Array Oper} {Q : Exit → Act → World → Prop} {K : St → Prop} (hQ : ∀ s a w, K s → RS base w0 F0 s a w → Q .normal a w) :
    ∀ (l : List Oper) (k : Nat) (s : St) (a : Act) (w : World), ops.toList.drop k = l → aops P tt et ops l s K → RS base w0 F0 s a w → wpOps P ops Q (List.range' k l.length) a w := by
  intro l
  induction l with
  | nil => intro k s a w _ h hr; exact hQ _ _ _ h hr
  | cons o r ih =>
    intro k s a w hl h hr
    simp only [List.length_cons, List.range'_succ]
    rw [wpOps_cons]
    have hi : ops[k]? = some o := by
      rw [← Array.getElem?_toList]
      have := congrArg List.head? hl
      simpa [List.head?_drop] using this
    have hdr : ops.toList.drop (k + 1) = r := by
      rw [← List.drop_drop, hl]
      rfl
    obtain ⟨s0, hw, h⟩ := h
    exact stepT_sound htt hett (hw _ _ _ _ _ hr) hi h fun s' a' w' hK hr' => ih (k + 1) s' a' w' hdr hK hr'
end

/-! ### Code -/
def AW (P : Program) (c : Code) (s : St) (Q : Exit → St → Prop) : Prop :=
  ∀ base w0 F0 a w, RS base w0 F0 s a w → c.wp P (fun e a' w' => ∃ s', Q e s' ∧ RS base w0 F0 s' a' w') a w
section
variable {P : Program} {tt : TypeId → Option TI} {et : TypeId → Bool} {s : St} {Q : Exit → St → Prop}
theorem AW.weak {c : Code} {s' : St} (h : Weak s s') (k : AW P c s' Q) : AW P c s Q := fun base w0 F0 a w hr => k base w0 F0 a w (h _ _ _ _ _ hr)
theorem AW.mono {c : Code} {Q' : Exit → St → Prop} (h : AW P c s Q) (k : ∀ e s, Q e s → Q' e s) : AW P c s Q' := fun base w0 F0 a w hr =>
  wp_mono (h base w0 F0 a w hr) fun e a w ⟨s', q, r⟩ => ⟨s', k _ _ q, r⟩
theorem AW.skip (h : Q .normal s) : AW P .skip s Q := fun base w0 F0 a w hr => wp_skip ⟨s, h, hr⟩
theorem AW.ret (h : Q .ret s) : AW P .ret s Q := fun base w0 F0 a w hr => wp_ret ⟨s, h, hr⟩
theorem AW.exit {id : Nat} (h : Q (.exit id) s) : AW P (.exit id) s Q := fun base w0 F0 a w hr => wp_exit ⟨s, h, hr⟩
def andThen (K : St → Prop) (Q : Exit → St → Prop) : Exit → St → Prop
  | .normal, s => K s
  | e, s => Q e s
theorem AW.seq {x y : Code} (h : AW P x s (andThen (fun s' => AW P y s' Q) Q)) : AW P (.seq x y) s Q := fun base w0 F0 a w hr =>
  wp_seq (wp_mono (h base w0 F0 a w hr) fun e a w ⟨s', q, r⟩ => by
    cases e with
    | normal => exact q base w0 F0 a w r
    | _ => exact ⟨s', q, r⟩)
theorem AW.cond {c : Operand} {x y : Code} (b : Bool) (hc : evO s.get c = .d (.v (.bool b))) (ht : b = true → AW P x s Q) (hf : b = false → AW P y s Q) : AW P (.cond c x y) s Q := fun base w0 F0 a w hr => by
  obtain ⟨ι, hcore, hfull⟩ := id hr
  have := hcore.evO c
  rw [hc] at this
  obtain this : a.eval c = .bool b := this
  exact wp_cond_split this (fun e => ht e base w0 F0 a w hr) (fun e => hf e base w0 F0 a w hr)
def inBlk (id : Nat) (Q : Exit → St → Prop) : Exit → St → Prop
  | .exit id', s => if id' = id then Q .normal s else Q (.exit id') s
  | e, s => Q e s
theorem AW.block {id : Nat} {c : Code} (h : AW P c s (inBlk id Q)) : AW P (.block id c) s Q := fun base w0 F0 a w hr =>
  wp_block (wp_mono (h base w0 F0 a w hr) fun e a w ⟨s', q, r⟩ => by
    cases e with
    | exit id' =>
      simp only [inBlk] at q
      simp only [Exit.inBlock]
      split
      · rename_i e; rw [if_pos e] at q; exact ⟨s', q, r⟩
      · rename_i e; rw [if_neg e] at q; exact ⟨s', q, r⟩
    | _ => exact ⟨s', q, r⟩)
theorem AW.loop {c : Code} (I : Nat → St → Prop) (n : Nat) {s₀ : St} (h0 : Weak s s₀) (h1 : I n s₀) (hround : ∀ n s, I n s → AW P c s (andThen (fun s' => ∃ m s'', m < n ∧ Weak s' s'' ∧ I m s'') Q)) : AW P (.loop c) s Q := fun base w0 F0 a w hr =>
  wp_loop_ghost (fun n a w => ∃ s, I n s ∧ RS base w0 F0 s a w) n ⟨s₀, h1, h0 _ _ _ _ _ hr⟩ fun n a w ⟨s, hI, hr⟩ =>
    wp_mono (hround n s hI base w0 F0 a w hr) fun e a w ⟨s', q, r⟩ => by
      cases e with
      | normal =>
        obtain ⟨m, s'', hm, hw, hI'⟩ := q
        exact ⟨m, hm, s'', hI', hw _ _ _ _ _ r⟩
      | _ => exact ⟨s', q, r⟩
theorem AW.region (htt : TOK P tt) (hett : ETOK P tt et) {id : Nat} {ops : Array Oper} (h : aops P tt et ops ops.toList s (Q .normal)) : AW P (.region id ops false) s Q := fun base w0 F0 a w hr => by
  refine wp_region ?_
  have := aops_sound (Q := fun e a' w' => ∃ s', Q e s' ∧ RS base w0 F0 s' a' w') htt hett (fun s a w h hr => ⟨s, h, hr⟩) ops.toList 0 s a w rfl h hr
  rw [List.range_eq_range']
  simpa using this

end
end Go.Proofs.Ab
