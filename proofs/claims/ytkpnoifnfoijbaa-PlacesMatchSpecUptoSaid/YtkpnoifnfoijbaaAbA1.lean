/- What a value of the program stands for: data, arrays and variables of a call, as abstract values; definitions and that they stay true in later worlds. -/
import Derived.Calls
import Derived.Orders
import Derived.Below
namespace Go.Proofs.Ab
open Go Go.RowKit

/-- Data that nobody writes. -/
inductive D where
  | v (x : Value)
  | sl (sz : Nat) (es : List (List D))
  | rp (cs : List D)

/-- What a slot holds. -/
inductive AV where
  | un
  | d (x : D)
  | bs (sz : Nat) (es : List (List D))
  | cp (sz : Nat) (es : List (List D))
  | bp (cs : List D)
  | pt (id off : Nat)
  | pe (id sz i off : Nat)
  | ms (id sz off len : Nat)
  | cl (f : FuncId) (caps : List AV)
  | ag (cs : List AV)
  | tp (vs : List AV)

/-- A variable of the call's own: a struct's cells, or an array's elements. -/
inductive Ob where
  | var (cs : List AV)
  | arr (sz : Nat) (es : List (List D))

/-- One cell holds it. -/
def D.one : D → Bool
  | .v x => x.oneCell'
  | _ => true
def Prot (F : Nat → Nat → Prop) (w : World) (b o : Nat) (x : Value) : Prop := w.cell? ⟨b, o, none⟩ = some x ∧ ¬ F b o
def Rdb (F : Nat → Nat → Prop) (base : Nat) (w : World) (b o : Nat) (x : Value) : Prop := w.cell? ⟨b, o, none⟩ = some x ∧ (¬ F b o ∨ b < base)
def Room (w : World) (b n : Nat) : Prop := ∃ c T, w.heap[b]? = some (.cells c T (0, 0)) ∧ n ≤ c.size

mutual
def RepD (F : Nat → Nat → Prop) (w : World) : D → Value → Prop
  | .v x, y => y = x
  | .sl sz es, y => ∃ a cap b o, y = .slice a es.length cap ∧ es.length ≤ cap ∧ (es ≠ [] → a = some ⟨b, o, none⟩) ∧ RepEs F w (Prot F w b) sz es o
  | .rp cs, y => ∃ b o, y = .pointer (some ⟨b, o, none⟩) ∧ RepCs F w (Prot F w b) cs o
def RepCs (F : Nat → Nat → Prop) (w : World) (pr : Nat → Value → Prop) : List D → Nat → Prop
  | [], _ => True
  | x :: r, o => (x.one = true ∧ ∃ y, pr o y ∧ RepD F w x y) ∧ RepCs F w pr r (o + 1)
def RepEs (F : Nat → Nat → Prop) (w : World) (pr : Nat → Value → Prop) (sz : Nat) : List (List D) → Nat → Prop
  | [], _ => True
  | e :: r, o => e.length = sz ∧ RepCs F w pr e o ∧ RepEs F w pr sz r (o + sz)
end

mutual
def RepA (ι : Nat → Option Nat) (F : Nat → Nat → Prop) (base : Nat) (w : World) : AV → Value → Prop
  | .un, _ => True
  | .d x, y => RepD F w x y
  | .bs sz es, y => ∃ a cap b o, y = .slice a es.length cap ∧ es.length ≤ cap ∧ (es ≠ [] → a = some ⟨b, o, none⟩) ∧ RepEs F w (Rdb F base w b) sz es o
  | .cp sz es, y => ∃ a b o, y = .slice a es.length es.length ∧ (es ≠ [] → a = some ⟨b, o, none⟩) ∧ RepEs F w (Rdb F base w b) sz es o
  | .bp cs, y => ∃ b o, y = .pointer (some ⟨b, o, none⟩) ∧ RepCs F w (Rdb F base w b) cs o
  | .pt id off, y => ∃ b, ι id = some b ∧ y = .pointer (some ⟨b, off, none⟩)
  | .pe id sz i off, y => ∃ b, ι id = some b ∧ y = .pointer (some ⟨b, i * sz + off, none⟩)
  | .ms id sz off len, y => (∃ b cap, ι id = some b ∧ y = .slice (some ⟨b, off * sz, none⟩) len cap ∧ len ≤ cap ∧ Room w b ((off + cap) * sz)) ∨ (len = 0 ∧ ∃ a, y = .slice a 0 0)
  | .cl f caps, y => ∃ vs : List Value, y = .func (.func f) #[] vs.toArray ∧ RepL ι F base w caps vs
  | .ag cs, y => ∃ vs : List Value, y = .agg vs.toArray ∧ RepL ι F base w cs vs
  | .tp cs, y => ∃ vs : List Value, y = .tuple vs.toArray ∧ RepL ι F base w cs vs
def RepL (ι : Nat → Option Nat) (F : Nat → Nat → Prop) (base : Nat) (w : World) : List AV → List Value → Prop
  | [], vs => vs = []
  | x :: r, vs => ∃ y ys, vs = y :: ys ∧ RepA ι F base w x y ∧ RepL ι F base w r ys
end

section mono
variable {F F' : Nat → Nat → Prop} {w w' : World}
mutual
theorem RepD.mono (hk : ∀ b o x, Prot F w b o x → Prot F' w' b o x) : ∀ (x : D) (y : Value), RepD F w x y → RepD F' w' x y
  | .v _, _, h => h
  | .sl sz es, y, h => by
    obtain ⟨a, cap, b, o, e, h1, h2, h3⟩ := h
    exact ⟨a, cap, b, o, e, h1, h2, RepEs.mono hk (fun o y => hk b o y) sz es o h3⟩
  | .rp cs, y, h => by
    obtain ⟨b, o, e, h3⟩ := h
    exact ⟨b, o, e, RepCs.mono hk (fun o y => hk b o y) cs o h3⟩
theorem RepCs.mono {pr pr' : Nat → Value → Prop} (hk : ∀ b o x, Prot F w b o x → Prot F' w' b o x) (hp : ∀ o y, pr o y → pr' o y) : ∀ (l : List D) (o : Nat), RepCs F w pr l o → RepCs F' w' pr' l o
  | [], _, _ => trivial
  | x :: r, o, h => by
    obtain ⟨⟨h0, y, h1, h2⟩, h3⟩ := h
    exact ⟨⟨h0, y, hp _ _ h1, RepD.mono hk x y h2⟩, RepCs.mono hk hp r (o + 1) h3⟩
theorem RepEs.mono {pr pr' : Nat → Value → Prop} (hk : ∀ b o x, Prot F w b o x → Prot F' w' b o x) (hp : ∀ o y, pr o y → pr' o y) (sz : Nat) : ∀ (l : List (List D)) (o : Nat), RepEs F w pr sz l o → RepEs F' w' pr' sz l o
  | [], _, _ => trivial
  | e :: r, o, h => by
    obtain ⟨h1, h2, h3⟩ := h
    exact ⟨h1, RepCs.mono hk hp e o h2, RepEs.mono hk hp sz r (o + sz) h3⟩
end

structure Step (ι : Nat → Option Nat) (F : Nat → Nat → Prop) (base : Nat) (w : World) (ι' : Nat → Option Nat) (F' : Nat → Nat → Prop) (base' : Nat) (w' : World) : Prop where
  prot : ∀ b o x, Prot F w b o x → Prot F' w' b o x
  rdb : ∀ b o x, Rdb F base w b o x → Rdb F' base' w' b o x
  ids : ∀ id b, ι id = some b → ι' id = some b
  room : ∀ id b n, ι id = some b → Room w b n → Room w' b n

variable {ι ι' : Nat → Option Nat} {base base' : Nat}
mutual
theorem RepA.mono (s : Step ι F base w ι' F' base' w') : ∀ (x : AV) (y : Value), RepA ι F base w x y → RepA ι' F' base' w' x y
  | .un, _, _ => trivial
  | .d x, y, h => RepD.mono s.prot x y h
  | .bs sz es, y, h => by
    obtain ⟨a, cap, b, o, e, h1, h2, h3⟩ := h
    exact ⟨a, cap, b, o, e, h1, h2, RepEs.mono s.prot (s.rdb b) sz es o h3⟩
  | .cp sz es, y, h => by
    obtain ⟨a, b, o, e, h2, h3⟩ := h
    exact ⟨a, b, o, e, h2, RepEs.mono s.prot (s.rdb b) sz es o h3⟩
  | .bp cs, y, h => by
    obtain ⟨b, o, e, h3⟩ := h
    exact ⟨b, o, e, RepCs.mono s.prot (s.rdb b) cs o h3⟩
  | .pt id off, y, h => by
    obtain ⟨b, e, h⟩ := h
    exact ⟨b, s.ids _ _ e, h⟩
  | .pe id sz i off, y, h => by
    obtain ⟨b, e, h⟩ := h
    exact ⟨b, s.ids _ _ e, h⟩
  | .ms id sz off len, y, h => by
    rcases h with ⟨b, cap, e, h1, h2, h3⟩ | h
    · exact .inl ⟨b, cap, s.ids _ _ e, h1, h2, s.room _ _ _ e h3⟩
    · exact .inr h
  | .cl f caps, y, h => by
    obtain ⟨vs, e, h⟩ := h
    exact ⟨vs, e, RepL.mono s caps vs h⟩
  | .ag cs, y, h => by
    obtain ⟨vs, e, h⟩ := h
    exact ⟨vs, e, RepL.mono s cs vs h⟩
  | .tp cs, y, h => by
    obtain ⟨vs, e, h⟩ := h
    exact ⟨vs, e, RepL.mono s cs vs h⟩
theorem RepL.mono (s : Step ι F base w ι' F' base' w') : ∀ (l : List AV) (ys : List Value), RepL ι F base w l ys → RepL ι' F' base' w' l ys
  | [], _, h => h
  | x :: r, vs, h => by
    obtain ⟨y, ys, e, h1, h2⟩ := h
    exact ⟨y, ys, e, RepA.mono s x y h1, RepL.mono s r ys h2⟩
end
end mono
end Go.Proofs.Ab
