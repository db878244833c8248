/- A part of the proof of the law: it holds for all states of the abstract kind told in the first of these texts; no condition besides those its statements name. -/
import Derived.Test.YtkpnoifnfoijbaaAbA24
namespace Go.Proofs.Ab
open Go Go.RowKit
set_option linter.unusedVariables false
set_option linter.unusedSimpArgs false
section
variable {base : Nat} {w : World} {ι : Nat → Option Nat} {F : Nat → Nat → Prop}
theorem RepL.setN : ∀ (cs : List AV) (vs : List Value) (k : Nat) (x : AV), RepL ι F base w cs vs → (∀ y v, cs[k]? = some y → RepA ι F base w y v → RepA ι F base w x v) → RepL ι F base w (cs.set k x) vs := by
  intro cs
  induction cs with
  | nil => intro vs k x h _; exact h
  | cons c r ih =>
    intro vs k x h hx
    obtain ⟨y, ys, rfl, h1, h2⟩ := h
    cases k with
    | zero => exact ⟨y, ys, rfl, hx c y rfl h1, h2⟩
    | succ k => exact ⟨y, ys, rfl, h1, ih ys k x h2 (fun y v hy => hx y v (by simpa using hy))⟩
/-- A nil slice in a variable is an array of the call's own, empty as yet. -/
theorem Weak.ownV (s : St) (id k d sz : Nat) {cs : List AV} (hid : lk s.ob id = some (.var cs)) (hk : cs[k]? = some (.d (.v (.slice none 0 0)))) (hd : lk s.ob d = none) :
    Weak s { s with ob := (d, .arr sz []) :: ins id (.var (cs.set k (.ms d sz 0 0))) s.ob } := by
  rintro base w0 F0 a w ⟨ι, hc, hfull⟩
  have hn : ι d = none := by
    cases hi : ι d with
    | none => rfl
    | some b => obtain ⟨o, h1, _⟩ := hc.obs d b hi; rw [hd] at h1; cases h1
  have hne : d ≠ id := by rintro rfl; rw [hid] at hd; cases hd
  refine ⟨ι, { hc with obs := ?_ }, ?_⟩
  · intro i b hi
    obtain ⟨o, h1, h2⟩ := hc.obs i b hi
    have hdi : d ≠ i := by rintro rfl; rw [hn] at hi; cases hi
    simp only [lk, if_neg hdi, lk_ins]
    by_cases e : id = i
    · subst e
      rw [if_pos rfl]
      rw [hid] at h1
      injection h1 with h1
      subst h1
      obtain ⟨c, T, e1, e2⟩ := h2
      refine ⟨_, rfl, c, T, e1, RepL.setN _ _ _ _ e2 ?_⟩
      intro y v hy hv
      rw [hk] at hy
      injection hy with hy
      subst hy
      obtain rfl : v = .slice none 0 0 := hv
      exact .inr ⟨rfl, none, rfl⟩
    · rw [if_neg e]
      exact ⟨o, h1, h2⟩
  · intro i o ho
    simp only [lk] at ho
    split at ho
    · injection ho with ho; exact .inr ⟨sz, ho.symm⟩
    · rw [lk_ins] at ho
      split at ho
      · rename_i e
        subst e
        left
        rcases hfull _ _ hid with h | ⟨_, h⟩
        · exact h
        · cases h
      · exact hfull i o ho
end
/-- Lists of ints as an array's elements. -/
def eG (l : List (List Int)) : List (List D) := l.map fun g => [.sl 1 (eI g)]
@[simp] theorem eG_length (l : List (List Int)) : (eG l).length = l.length := by simp [eG]
theorem eG_get (l : List (List Int)) (n : Nat) : (eG l)[n]? = (l[n]?).map fun g => [D.sl 1 (eI g)] := by simp [eG]
@[simp] theorem eG_getE (l : List (List Int)) (n : Nat) (h : n < (eG l).length) : (eG l)[n] = [D.sl 1 (eI (l[n]'(by simpa using h)))] := by simp [eG]
theorem eG_append (l m : List (List Int)) : eG l ++ eG m = eG (l ++ m) := by simp [eG]
theorem eG_one (g : List Int) : [[D.sl 1 (eI g)]] = eG [g] := rfl
theorem eG_take (l : List (List Int)) (n : Nat) : (eG l).take n = eG (l.take n) := by simp [eG, List.map_take]
@[simp] theorem eI_takeAll (l : List Int) : List.take l.length (eI l) = eI l := by rw [List.take_of_length_le (by simp)]
@[simp] theorem eG_takeAll (l : List (List Int)) : List.take l.length (eG l) = eG l := by rw [List.take_of_length_le (by simp)]
end Go.Proofs.Ab
namespace Go.Proofs.Ab
open Go
theorem Weak.to2 {nt : Nat} {tm tm' : List (Nat × AV)} {ob ob' : List (Nat × Ob)} (ho : ob = ob') (h : allLe ⟨nt, tm, ob⟩ tm') : Weak ⟨nt, tm, ob⟩ ⟨nt, tm', ob'⟩ := by
  subst ho; exact Weak.to h
theorem Weak.to3 {nt : Nat} {tm tm' : List (Nat × AV)} {ob ob' : List (Nat × Ob)} (ho : ∀ i, lk ob i = lk ob' i) (h : allLe ⟨nt, tm, ob⟩ tm') : Weak ⟨nt, tm, ob⟩ ⟨nt, tm', ob'⟩ :=
  Weak.trans (Weak.to h) (Weak.obs ho)
theorem AW.anyG {P : Program} (hm : P.follows .mixedOrders = true) {id : Nat} {ops : Array Oper} (L : List Bool) (hL : List.replicate ops.size false = L) {s : St} (Sf : St) {Q : Exit → St → Prop}
    (h : ∀ (ops' : Array Oper) (Q' : Exit → St → Prop), ops' = ops → (∀ s', Weak s' Sf → Q' .normal s') → AnyW P ops' L s Q') (k : ∀ s', Weak s' Sf → Q .normal s') : AW P (.region id ops true) s Q :=
  AW.any hm L hL (h ops Q rfl k)
end Go.Proofs.Ab
