/- A part of the proof of the law: it holds for all states of the abstract kind told in the first of these texts; no condition besides those its statements name. -/
import Derived.Test.YtkpnoifnfoijbaaAbA6
import Derived.Laws.StructEq
import Derived.Laws.Cover3
import Derived.Laws.Small
import Derived.Lib.SliceRun
namespace Go.Proofs.Ab
open Go Go.RowKit
set_option linter.unusedVariables false
set_option linter.unusedSimpArgs false

def eqVal : Value → Value → Bool
  | .int _ a, .int _ b => a == b
  | .bool a, .bool b => a == b
  | .string a, .string b => a.toList == b.toList
  | _, _ => false
def eqShape : Value → Value → Bool
  | .int k _, .int k' _ => decide (k = k')
  | .bool _, .bool _ => true
  | .string _, .string _ => true
  | _, _ => false
def eqCells : List Value → List Value → Bool
  | [], [] => true
  | x :: xs, y :: ys => eqVal x y && eqCells xs ys
  | _, _ => false
def shapeCells : List Value → List Value → Bool
  | [], [] => true
  | x :: xs, y :: ys => eqShape x y && shapeCells xs ys
  | _, _ => false
def AV.v? : AV → Option Value
  | .d (.v x) => some x
  | _ => none
def toVs : List AV → Option (List Value)
  | [] => some []
  | x :: r => match x.v?, toVs r with
    | some y, some ys => some (y :: ys)
    | _, _ => none
def LenOk (i : TI) (x : AV) : Prop :=
  match i with
  | .sl _ => ∀ s : ByteArray, x ≠ AV.d (D.v (.string s))
  | .str => ∃ s : ByteArray, x = AV.d (D.v (.string s))
  | _ => False
structure EqTok (P : Program) (t : TypeId) (zs : List Value) : Prop where
  guard : P.eqGuardType P.depth t = false
  eq : ∀ (xs ys : List Value) (w : World), shapeCells zs xs = true → shapeCells zs ys = true → (Op.equal t (.agg xs.toArray) (.agg ys.toArray)).run P w = .ok (eqCells xs ys) w
def ETOK (P : Program) (tt : TypeId → Option TI) (et : TypeId → Bool) : Prop := ∀ t, et t = true → ∃ i, tt t = some i ∧ i.row = true ∧ EqTok P t i.zeros

/-- '==' and '!=' of what is no number and no string. -/
def eqA (et : TypeId → Bool) (t : TypeId) (i : TI) (neq : Bool) (x y : AV) (K : AV → Prop) : Prop :=
  match i with
  | .bl => ∃ a b, x = .d (.v (.bool a)) ∧ y = .d (.v (.bool b)) ∧ K (.d (.v (.bool (if neq then !(a == b) else a == b))))
  | .sl _ => y = .d (.v (.slice none 0 0)) ∧ nilA x fun b => K (.d (.v (.bool (if neq then !b else b))))
  | .st _ _ _ zs => et t = true ∧ ∃ cs ds xs ys, x.cells = some cs ∧ y.cells = some ds ∧ toVs cs = some xs ∧ toVs ds = some ys ∧ shapeCells zs xs = true ∧ shapeCells zs ys = true ∧
      (match x with | .ag _ => True | .d (.v (.agg _)) => True | _ => False) ∧ (match y with | .ag _ => True | .d (.v (.agg _)) => True | _ => False) ∧
      K (.d (.v (.bool (if neq then !(eqCells xs ys) else eqCells xs ys))))
  | _ => False

section
variable {P : Program} {n base : Nat} {w0 : World} {F0 : Nat → Nat → Prop} {ι : Nat → Option Nat} {full : Nat → Option Ob} {ev : Nat → AV} {a : Act} {w : World}
theorem AV.cells_sound {x : AV} {y : Value} {cs : List AV} (hx : RepA ι (FF F0 ι) base w x y) (h : x.cells = some cs) :
    ∃ vs : List Value, y.cells = vs.toArray ∧ RepL ι (FF F0 ι) base w cs vs ∧ (y = .agg vs.toArray ∨ (vs = [y] ∧ ∀ a, y ≠ .agg a)) := by
  have one : (∀ a, y ≠ .agg a) → cs = [x] → ∃ vs : List Value, y.cells = vs.toArray ∧ RepL ι (FF F0 ι) base w cs vs ∧ (y = .agg vs.toArray ∨ (vs = [y] ∧ ∀ a, y ≠ .agg a)) := by
    rintro h1 rfl
    refine ⟨[y], ?_, ⟨y, [], rfl, hx, rfl⟩, .inr ⟨rfl, h1⟩⟩
    cases y <;> first | rfl | exact absurd rfl (h1 _)
  cases x with
  | un => cases h
  | tp vs => cases h
  | ag l =>
    simp only [AV.cells, Option.some.injEq] at h; subst h
    obtain ⟨vs, rfl, h2⟩ := hx
    exact ⟨vs, rfl, h2, .inl rfl⟩
  | d x =>
    cases x with
    | v z =>
      obtain rfl : y = z := hx
      unfold AV.cells at h
      split at h
      · cases h
      · cases h
      · rename_i e; cases e
      · rename_i a e
        simp only [AV.d.injEq, D.v.injEq] at e
        simp only [Option.some.injEq] at h
        subst h; subst e
        refine ⟨a.toList, rfl, ?_, .inl rfl⟩
        have : ∀ l : List Value, RepL ι (FF F0 ι) base w (l.map fun x => .d (.v x)) l := by
          intro l
          induction l with
          | nil => rfl
          | cons z r ih => exact ⟨z, r, rfl, rfl, ih⟩
        exact this _
      · cases h
      · rename_i hne hne2
        simp only [Option.some.injEq] at h
        refine one ?_ h.symm
        rintro a rfl
        exact hne _ rfl
    | sl sz es =>
      obtain ⟨a', cap, b, o, rfl, _⟩ := hx
      simp only [AV.cells, Option.some.injEq] at h
      exact one (by simp) h.symm
    | rp cs' =>
      obtain ⟨b, o, rfl, _⟩ := hx
      simp only [AV.cells, Option.some.injEq] at h
      exact one (by simp) h.symm
  | bs sz es =>
    obtain ⟨a', cap, b, o, rfl, _⟩ := hx
    simp only [AV.cells, Option.some.injEq] at h
    exact one (by simp) h.symm
  | cp sz es =>
    obtain ⟨a', b, o, rfl, _⟩ := hx
    simp only [AV.cells, Option.some.injEq] at h
    exact one (by simp) h.symm
  | bp cs' =>
    obtain ⟨b, o, rfl, _⟩ := hx
    simp only [AV.cells, Option.some.injEq] at h
    exact one (by simp) h.symm
  | pt id o =>
    obtain ⟨b, _, rfl⟩ := hx
    simp only [AV.cells, Option.some.injEq] at h
    exact one (by simp) h.symm
  | pe id sz i o =>
    obtain ⟨b, _, rfl⟩ := hx
    simp only [AV.cells, Option.some.injEq] at h
    exact one (by simp) h.symm
  | ms id sz o len =>
    simp only [AV.cells, Option.some.injEq] at h
    refine one ?_ h.symm
    rcases hx with ⟨b, cap, _, rfl, _⟩ | ⟨_, a', rfl⟩ <;> simp
  | cl f caps =>
    obtain ⟨vs, rfl, _⟩ := hx
    simp only [AV.cells, Option.some.injEq] at h
    exact one (by simp) h.symm
theorem toVs_sound {cs : List AV} {xs vs : List Value} (h : toVs cs = some xs) (hr : RepL ι (FF F0 ι) base w cs vs) : vs = xs := by
  induction cs generalizing xs vs with
  | nil => simp only [toVs, Option.some.injEq] at h; rw [← h]; exact hr
  | cons x r ih =>
    obtain ⟨y, ys, rfl, h1, h2⟩ := hr
    unfold toVs at h
    split at h
    · rename_i u us e1 e2
      simp only [Option.some.injEq] at h; subst h
      rw [ih e2 h2]
      unfold AV.v? at e1
      split at e1
      · simp only [Option.some.injEq] at e1; subst e1
        obtain rfl := h1
        rfl
      · cases e1
    · cases h
theorem intBin_run {op : BinOp} {k : IntKind} {m m' : Int} {v : Value} (h : intBin op k m m' = some v) (t : TypeId) : (binOp op t (.int k m) (.int k m')).run P w = .ok v w := by
  cases op <;> simp only [intBin, Option.some.injEq] at h <;> first | (subst h; simp [binOp, Op.intArith, Op.intCmp]) | cases h
theorem strBin_run {op : BinOp} {p q : ByteArray} {v : Value} (h : strBin op p q = some v) (t : TypeId) : (binOp op t (.string p) (.string q)).run P w = .ok v w := by
  cases op <;> simp only [strBin, Option.some.injEq] at h <;> first | (subst h; simp [binOp, Op.stringOp]) | cases h
theorem eqGuard_int (op : BinOp) (t : TypeId) (x y : Operand) (k : IntKind) (m : Int) (v : Value) : eqGuard op t x y (.int k m) v = pure () := by cases op <;> rfl
theorem eqGuard_string (op : BinOp) (t : TypeId) (x y : Operand) (s : ByteArray) (v : Value) : eqGuard op t x y (.string s) v = pure () := by cases op <;> rfl
theorem binA_sound {op : BinOp} {t : TypeId} {ox oy : Operand} {x y : AV} {vx vy : Value} {K : AV → Prop} (hx : RepA ι (FF F0 ι) base w x vx) (hy : RepA ι (FF F0 ι) base w y vy) (h : binA op x y K) :
    ∃ v, K v ∧ ∃ u, (do eqGuard op t ox oy vx vy; binOp op t vx vy : Sem Value).run P w = .ok u w ∧ RepA ι (FF F0 ι) base w v u := by
  unfold binA at h
  split at h
  · rename_i k m k' m'
    obtain ⟨rfl, h⟩ := h
    obtain rfl := hx
    obtain rfl := hy
    simp only [eqGuard_int, Sem.run_bind, Sem.run_pure, Result.andThen_ok]
    split at h
    · obtain ⟨h0, hK⟩ := h
      exact ⟨_, hK, _, by simp [binOp, Op.intDiv, h0], rfl⟩
    · obtain ⟨h0, hK⟩ := h
      exact ⟨_, hK, _, by simp [binOp, Op.intDiv, h0], rfl⟩
    · obtain ⟨v, h1, hK⟩ := h
      exact ⟨_, hK, _, intBin_run h1 t, rfl⟩
  · rename_i p q
    obtain rfl := hx
    obtain rfl := hy
    simp only [eqGuard_string, Sem.run_bind, Sem.run_pure, Result.andThen_ok]
    split at h
    · obtain ⟨h0, hK⟩ := h
      refine ⟨_, hK, .string (p ++ q), ?_, rfl⟩
      have : ¬ ((p.size : Int) + q.size > 9223372036854775807) := by omega
      have e : IntKind.i64.max = 9223372036854775807 := by decide
      simp [binOp, Op.stringOp, e, this]
    · obtain ⟨v, h1, hK⟩ := h
      exact ⟨_, hK, _, strBin_run h1 t, rfl⟩
  · exact h.elim
theorem nilA_sound {x : AV} {vx : Value} {K : Bool → Prop} (hx : RepA ι (FF F0 ι) base w x vx) (h : nilA x K) : ∃ (A : Option Addr) (l c : Nat), vx = .slice A l c ∧ K A.isNone := by
  unfold nilA at h
  split at h
  · obtain rfl := hx; exact ⟨none, 0, 0, rfl, h⟩
  · obtain ⟨A, cap, b, o, rfl, h1, h2, _⟩ := hx
    exact ⟨A, _, _, rfl, by rw [h2 h.1]; exact h.2⟩
  · obtain ⟨A, cap, b, o, rfl, h1, h2, _⟩ := hx
    exact ⟨A, _, _, rfl, by rw [h2 h.1]; exact h.2⟩
  · obtain ⟨A, b, o, rfl, h2, _⟩ := hx
    exact ⟨A, _, _, rfl, by rw [h2 h.1]; exact h.2⟩
  · rcases hx with ⟨b, cap, h1, rfl, h2, h3⟩ | ⟨h0, _⟩
    · exact ⟨_, _, _, rfl, h.2⟩
    · exact absurd h0 h.1
  · exact h.elim
theorem eqA_sound {tt : TypeId → Option TI} {et : TypeId → Bool} (hett : ETOK P tt et) {t : TypeId} {i : TI} (hti : tt t = some i) (ht : Tok P t i) {op : BinOp} {neq : Bool} (hop : op = if neq then .neq else .eql) {ox oy : Operand} {x y : AV} {vx vy : Value} {K : AV → Prop}
    (hx : RepA ι (FF F0 ι) base w x vx) (hy : RepA ι (FF F0 ι) base w y vy) (h : eqA et t i neq x y K) :
    ∃ v, K v ∧ ∃ u, (do eqGuard op t ox oy vx vy; binOp op t vx vy : Sem Value).run P w = .ok u w ∧ RepA ι (FF F0 ι) base w v u := by
  unfold eqA at h
  cases i with
  | bl =>
    obtain ⟨p, q, rfl, rfl, hK⟩ := h
    obtain rfl := hx
    obtain rfl := hy
    have hu : P.underlying t = some .bool := ht.2
    refine ⟨_, hK, _, ?_, rfl⟩
    have hg : eqGuard op t ox oy (.bool p) (.bool q) = pure () := by cases op <;> rfl
    simp only [hg, Sem.run_bind, Sem.run_pure, Result.andThen_ok]
    subst hop
    cases neq
    · exact run_eql_bool w t p q hu
    · exact run_neq_bool w t p q hu
  | sl e =>
    obtain ⟨rfl, h⟩ := h
    obtain rfl := hy
    obtain ⟨A, l, c, rfl, hK⟩ := nilA_sound hx h
    have hu : P.underlying t = some (.slice e) := ht.2
    refine ⟨_, hK, _, ?_, rfl⟩
    have hg : eqGuard op t ox oy (.slice A l c) (.slice none 0 0) = pure () := by cases op <;> rfl
    simp only [hg, Sem.run_bind, Sem.run_pure, Result.andThen_ok]
    subst hop
    cases neq
    · exact Lib.run_eql_slice_nil w t e A l c 0 0 hu
    · exact run_neq_slice_nil w t e A l c hu
  | st n b fs zs =>
    obtain ⟨he, cs, ds, xs, ys, h1, h2, h3, h4, h5, h6, h7, h8, hK⟩ := h
    obtain ⟨i', hi', _, hE⟩ := hett t he
    rw [hti] at hi'
    injection hi' with hi'
    subst hi'
    obtain ⟨us, _, hus, hu'⟩ := AV.cells_sound hx h1
    obtain ⟨us', _, hus', hu''⟩ := AV.cells_sound hy h2
    have ex : vx = .agg xs.toArray := by
      rw [← toVs_sound h3 hus]
      rcases hu' with h | ⟨_, h⟩
      · exact h
      · split at h7
        · obtain ⟨vs, rfl, _⟩ := hx; exact absurd rfl (h _)
        · obtain rfl := hx; exact absurd rfl (h _)
        · exact h7.elim
    have ey : vy = .agg ys.toArray := by
      rw [← toVs_sound h4 hus']
      rcases hu'' with h | ⟨_, h⟩
      · exact h
      · split at h8
        · obtain ⟨vs, rfl, _⟩ := hy; exact absurd rfl (h _)
        · obtain rfl := hy; exact absurd rfl (h _)
        · exact h8.elim
    subst ex
    subst ey
    have hq := hE.eq xs ys w h5 h6
    refine ⟨_, hK, _, ?_, rfl⟩
    subst hop
    cases neq
    · simp [eqGuard, hE.guard, binOp, hq]
    · simp [eqGuard, hE.guard, binOp, hq]
  | _ => exact h.elim
theorem lenA_sound {t : TypeId} {i : TI} (ht : Tok P t i) {x : AV} {vx : Value} {K : Nat → Prop} (hk : LenOk i x)
    (hx : RepA ι (FF F0 ι) base w x vx) (h : lenA x K) (ty : TypeId) : ∃ m, K m ∧ (Builtin.len_ #[t] ty #[vx]).run P w = .ok (.int .i64 m) w := by
  cases i with
  | str =>
    obtain ⟨s, rfl⟩ := hk
    obtain rfl := hx
    have hu : P.underlying t = some .string := ht.2
    exact ⟨_, h, by simp [Builtin.len_, run_underlying hu, goInt]⟩
  | sl e =>
    have hu : P.underlying t = some (.slice e) := ht.2
    have key : ∀ (A : Option Addr) (m c : Nat), vx = .slice A m c → K m → ∃ m, K m ∧ (Builtin.len_ #[t] ty #[vx]).run P w = .ok (.int .i64 m) w := by
      rintro A m c rfl hK
      exact ⟨m, hK, by simp [Builtin.len_, run_underlying hu, goInt]⟩
    unfold lenA at h
    split at h
    · exact absurd rfl (hk _)
    · obtain rfl := hx; exact key _ _ _ rfl h
    · obtain ⟨A, cap, b, o, rfl, _⟩ := hx; exact key _ _ _ rfl h
    · obtain ⟨A, cap, b, o, rfl, _⟩ := hx; exact key _ _ _ rfl h
    · obtain ⟨A, b, o, rfl, _⟩ := hx; exact key _ _ _ rfl h
    · rcases hx with ⟨b, cap, _, rfl, _⟩ | ⟨rfl, A, rfl⟩
      · exact key _ _ _ rfl h
      · exact key _ _ _ rfl h
    · exact h.elim
  | _ => exact hk.elim
end
end Go.Proofs.Ab
