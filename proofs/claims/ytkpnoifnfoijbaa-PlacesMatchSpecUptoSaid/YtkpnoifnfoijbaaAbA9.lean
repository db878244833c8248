/- A part of the proof of the law: it holds for all states of the abstract kind told in the first of these texts; no condition besides those its statements name. -/
import Derived.Test.YtkpnoifnfoijbaaAbA8
namespace Go.Proofs.Ab
open Go Go.RowKit
set_option linter.unusedVariables false
set_option linter.unusedSimpArgs false

/-! ### A call -/
mutual
/-- What a callee sees of a value: no place that may be written. -/
def passA (full : Nat → Option Ob) : AV → Option AV
  | .un => some .un
  | .d x => some (.d x)
  | .bs sz es => some (.bs sz es)
  | .cp sz es => some (.bs sz es)
  | .bp cs => some (.bp cs)
  | .pt id off => match full id with
    | some (.var cs) => (toDs (cs.drop off)).map .bp
    | _ => none
  | .pe id sz k off => match full id with
    | some (.arr sz' es) => if sz = sz' then (es[k]?).map (fun e => .bp (e.drop off)) else none
    | _ => none
  | .ms id sz off len => match full id with
    | some (.arr sz' es) => if sz = sz' ∧ off + len ≤ es.length then some (.bs sz ((es.drop off).take len)) else none
    | _ => none
  | .cl f caps => (passL full caps).map (.cl f)
  | .ag cs => (passL full cs).map .ag
  | .tp _ => none
def passL (full : Nat → Option Ob) : List AV → Option (List AV)
  | [] => some []
  | x :: r => match passA full x, passL full r with
    | some y, some ys => some (y :: ys)
    | _, _ => none
end
inductive Le : AV → AV → Prop
  | refl (x : AV) : Le x x
  | un (x : AV) : Le x .un
  | bs (sz : Nat) (es : List (List D)) : Le (.d (.sl sz es)) (.bs sz es)
  | bp (cs : List D) : Le (.d (.rp cs)) (.bp cs)
  | nilb (sz : Nat) : Le (.d (.v (.slice none 0 0))) (.bs sz [])
  | nild (sz : Nat) : Le (.d (.v (.slice none 0 0))) (.d (.sl sz []))
inductive LeL : List AV → List AV → Prop
  | nil : LeL [] []
  | cons {x y : AV} {r s : List AV} : Le x y → LeL r s → LeL (x :: r) (y :: s)

def none' : Nat → Option Nat := fun _ => none
def Good (P : Program) (f : FuncId) (args : List AV) (r : AV) : Prop :=
  (∃ fn, P.funcs[f]? = some fn ∧ (fn.name == "runtime.NumGoroutine") = false ∧ fn.body.isNone = false) ∧
  ∀ (w : World) (F : Nat → Nat → Prop) (vs : List Value), (∀ b o, F b o → b < w.heap.size) → RepL none' F w.heap.size w args vs →
    Calls P f vs.toArray w fun e w' => ∃ v, e = .returned v ∧ Below w.heap.size w w' ∧ RepA none' F 0 w' r v

section
variable {P : Program} {n base : Nat} {w0 : World} {F0 : Nat → Nat → Prop} {ι : Nat → Option Nat} {full : Nat → Option Ob} {ev : Nat → AV} {a : Act} {w : World}
mutual
theorem passA_sound (hc : Core n base w0 F0 ι full ev a w) : ∀ (x y : AV) (v : Value), passA full x = some y → RepA ι (FF F0 ι) base w x v → RepA none' (FF F0 ι) w.heap.size w y v
  | .un, y, v, h, hx => by simp only [passA, Option.some.injEq] at h; subst h; trivial
  | .d x, y, v, h, hx => by simp only [passA, Option.some.injEq] at h; subst h; exact hx
  | .bs sz es, y, v, h, hx => by
    simp only [passA, Option.some.injEq] at h; subst h
    obtain ⟨A, cap, b, o, e, h1, h2, h3⟩ := hx
    exact ⟨A, cap, b, o, e, h1, h2, RepEs.mono (fun _ _ _ h => h) (fun o y hy => ⟨hy.1, .inr (cell_lt hy.1)⟩) _ _ _ h3⟩
  | .cp sz es, y, v, h, hx => by
    simp only [passA, Option.some.injEq] at h; subst h
    obtain ⟨A, b, o, e, h2, h3⟩ := hx
    exact ⟨A, _, b, o, e, Nat.le_refl _, h2, RepEs.mono (fun _ _ _ h => h) (fun o y hy => ⟨hy.1, .inr (cell_lt hy.1)⟩) _ _ _ h3⟩
  | .bp cs, y, v, h, hx => by
    simp only [passA, Option.some.injEq] at h; subst h
    obtain ⟨b, o, e, h3⟩ := hx
    exact ⟨b, o, e, RepCs.mono (fun _ _ _ h => h) (fun o y hy => ⟨hy.1, .inr (cell_lt hy.1)⟩) _ _ h3⟩
  | .pt id off, y, v, h, hx => by
    obtain ⟨b, hb, rfl⟩ := hx
    obtain ⟨o, ho, hob⟩ := hc.obs id b hb
    simp only [passA, ho] at h
    cases o with
    | arr sz es => simp at h
    | var cs =>
      simp only [Option.map_eq_some_iff] at h
      obtain ⟨ds, h1, rfl⟩ := h
      obtain ⟨c, T, e, hl⟩ := hob
      have hd := (toDs_sound (pr := Rdb (FF F0 ι) w.heap.size w b) h1 (hl.drop off) off (by
        intro j u hj
        have h2 : w.cell? ⟨b, off + j, none⟩ = some u := by
          rw [cell_of e]; simpa using hj
        exact ⟨h2, .inr (cell_lt h2)⟩)).2
      exact ⟨b, off, rfl, hd⟩
  | .pe id sz k off, y, v, h, hx => by
    obtain ⟨b, hb, rfl⟩ := hx
    obtain ⟨o, ho, hob⟩ := hc.obs id b hb
    simp only [passA, ho] at h
    cases o with
    | var cs => simp at h
    | arr sz' es =>
      simp only at h
      split at h
      · rename_i hsz
        subst hsz
        simp only [Option.map_eq_some_iff] at h
        obtain ⟨q, h1, rfl⟩ := h
        obtain ⟨c, T, e, hl, _⟩ := hob
        have h2 := (hl.at k q h1).2.drop off
        rw [Nat.zero_add] at h2
        refine ⟨b, _, rfl, RepCs.mono (fun _ _ _ h => h) ?_ _ _ h2⟩
        intro o u hu
        have h3 : w.cell? ⟨b, o, none⟩ = some u := by rw [cell_of e]; exact hu
        exact ⟨h3, .inr (cell_lt h3)⟩
      · cases h
  | .ms id sz off len, y, v, h, hx => by
    rcases hx with ⟨b, cap, hb, rfl, h1, h2⟩ | ⟨rfl, A, rfl⟩
    · obtain ⟨o, ho, hob⟩ := hc.obs id b hb
      simp only [passA, ho] at h
      cases o with
      | var cs => simp at h
      | arr sz' es =>
        simp only at h
        split at h
        · rename_i hsz
          obtain ⟨rfl, hlen⟩ := hsz
          simp only [Option.some.injEq] at h; subst h
          obtain ⟨c, T, e, hl, _⟩ := hob
          have h3 := (hl.drop off).take len
          rw [Nat.zero_add] at h3
          have h4 : ((es.drop off).take len).length = len := by simp; omega
          refine ⟨_, cap, b, _, by rw [h4], by rw [h4]; exact h1, fun _ => rfl, RepEs.mono (fun _ _ _ h => h) ?_ _ _ _ h3⟩
          intro o u hu
          have h3 : w.cell? ⟨b, o, none⟩ = some u := by rw [cell_of e]; exact hu
          exact ⟨h3, .inr (cell_lt h3)⟩
        · cases h
    · simp only [passA] at h
      split at h
      · split at h
        · simp only [Option.some.injEq] at h; subst h
          simp only [List.take_zero]
          exact ⟨A, 0, 0, 0, rfl, Nat.le_refl _, fun h => absurd rfl h, trivial⟩
        · cases h
      · cases h
  | .cl f caps, y, v, h, hx => by
    simp only [passA, Option.map_eq_some_iff] at h
    obtain ⟨ys, h1, rfl⟩ := h
    obtain ⟨vs, e, h2⟩ := hx
    exact ⟨vs, e, passL_sound hc _ _ _ h1 h2⟩
  | .ag cs, y, v, h, hx => by
    simp only [passA, Option.map_eq_some_iff] at h
    obtain ⟨ys, h1, rfl⟩ := h
    obtain ⟨vs, e, h2⟩ := hx
    exact ⟨vs, e, passL_sound hc _ _ _ h1 h2⟩
  | .tp vs, y, v, h, hx => by simp [passA] at h
theorem passL_sound (hc : Core n base w0 F0 ι full ev a w) : ∀ (l l' : List AV) (vs : List Value), passL full l = some l' → RepL ι (FF F0 ι) base w l vs → RepL none' (FF F0 ι) w.heap.size w l' vs
  | [], l', vs, h, hx => by simp only [passL, Option.some.injEq] at h; subst h; exact hx
  | x :: r, l', vs, h, hx => by
    obtain ⟨y, ys, rfl, h1, h2⟩ := hx
    unfold passL at h
    split at h
    · rename_i u us e1 e2
      simp only [Option.some.injEq] at h; subst h
      exact ⟨y, ys, rfl, passA_sound hc _ _ _ e1 h1, passL_sound hc _ _ _ e2 h2⟩
    · cases h
end
theorem Le.sound {F : Nat → Nat → Prop} {B : Nat} {x y : AV} {v : Value} (h : Le x y) (hx : RepA ι F B w x v) : RepA ι F B w y v := by
  cases h with
  | refl => exact hx
  | un => trivial
  | bs sz es =>
    obtain ⟨A, cap, b, o, e, h1, h2, h3⟩ := hx
    exact ⟨A, cap, b, o, e, h1, h2, RepEs.mono (fun _ _ _ h => h) (fun o y hy => ⟨hy.1, .inl hy.2⟩) _ _ _ h3⟩
  | bp cs =>
    obtain ⟨b, o, e, h3⟩ := hx
    exact ⟨b, o, e, RepCs.mono (fun _ _ _ h => h) (fun o y hy => ⟨hy.1, .inl hy.2⟩) _ _ h3⟩
  | nilb sz =>
    obtain rfl := hx
    exact ⟨none, 0, 0, 0, rfl, Nat.le_refl _, fun h => absurd rfl h, trivial⟩
  | nild sz =>
    obtain rfl := hx
    exact ⟨none, 0, 0, 0, rfl, Nat.le_refl _, fun h => absurd rfl h, trivial⟩
theorem LeL.sound {F : Nat → Nat → Prop} {B : Nat} {l l' : List AV} {vs : List Value} (h : LeL l l') (hx : RepL ι F B w l vs) : RepL ι F B w l' vs := by
  induction h generalizing vs with
  | nil => exact hx
  | cons h1 _ ih => obtain ⟨y, ys, rfl, h2, h3⟩ := hx; exact ⟨y, ys, rfl, h1.sound h2, ih h3⟩
/-- A callee's result in the caller's eyes. -/
theorem RepA.back {F : Nat → Nat → Prop} {x : AV} {v : Value} (h : RepA none' F 0 w x v) : RepA ι F base w x v := by
  have s : Step none' F 0 w ι F base w := {
    prot := fun _ _ _ h => h
    rdb := fun b o x h => ⟨h.1, .inl (h.2.resolve_right (by omega))⟩
    ids := fun i b h => by cases h
    room := fun i b n h _ => by cases h }
  exact RepA.mono s x v h
end
end Go.Proofs.Ab
