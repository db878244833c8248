/- A part of the proof of the law: it holds for all states of the abstract kind told in the first of these texts; no condition besides those its statements name. -/
import Derived.Test.YtkpnoifnfoijbaaAbA4
import Derived.Laws.Slices
namespace Go.Proofs.Ab
open Go Go.RowKit
set_option linter.unusedVariables false
set_option linter.unusedSimpArgs false

/-- An element's place. -/
def idxA (sz : Nat) (x : AV) (n : Nat) (K : AV → Prop) : Prop :=
  match x with
  | .ms id sz' off len => sz' = sz ∧ n < len ∧ K (.pe id sz (off + n) 0)
  | .d (.sl sz' es) => sz' = sz ∧ ∃ e, es[n]? = some e ∧ K (.d (.rp e))
  | .bs sz' es => sz' = sz ∧ ∃ e, es[n]? = some e ∧ K (.bp e)
  | .cp sz' es => sz' = sz ∧ ∃ e, es[n]? = some e ∧ K (.bp e)
  | _ => False
def strIdxA (x : AV) (n : Nat) (K : AV → Prop) : Prop :=
  match x with
  | .d (.v (.string s)) => ∃ h : n < s.size, K (.d (.v (.int .u8 (s[n].toNat))))
  | _ => False
def optInt (o : Option AV) (dflt : Nat) (K : Nat → Prop) : Prop :=
  match o with
  | none => K dflt
  | some x => ∃ k n, x.int? = some (k, n) ∧ 0 ≤ n ∧ K n.toNat
def cutL (len : Nat) (lo hi : Option AV) (K : Nat → Nat → Prop) : Prop := optInt hi len fun h => h ≤ len ∧ optInt lo 0 fun l => l ≤ h ∧ K l h
def cutV (x : Value) (lo hi : Option AV) (full : Bool) (K : AV → Prop) : Prop :=
  match x with
  | .string s => full = false ∧ cutL s.size lo hi fun l h => K (.d (.v (.string (s.extract l h))))
  | .slice none 0 0 => cutL 0 lo hi fun l h => K (.d (.v (.slice none 0 0)))
  | _ => False
/-- A cut from l up to h. -/
def cutA (x : AV) (lo hi : Option AV) (full : Bool) (K : AV → Prop) : Prop :=
  match x with
  | .ms id sz off len => cutL len lo hi fun l h => K (.ms id sz (off + l) (h - l))
  | .d y => match y with
    | .v z => cutV z lo hi full K
    | .sl sz es => cutL es.length lo hi fun l h => K (if full then .cp sz ((es.take h).drop l) else .d (.sl sz ((es.take h).drop l)))
    | .rp _ => False
  | .bs sz es => cutL es.length lo hi fun l h => K (if full then .cp sz ((es.take h).drop l) else .bs sz ((es.take h).drop l))
  | .cp sz es => cutL es.length lo hi fun l h => K (if full then .cp sz ((es.take h).drop l) else .bs sz ((es.take h).drop l))
  | _ => False
def AV.sizeOk (sz : Nat) : AV → Prop
  | .ms _ s _ _ => s = sz
  | .d (.sl s _) => s = sz
  | .bs s _ => s = sz
  | .cp s _ => s = sz
  | _ => True
def CutOk (tt : TypeId → Option TI) (i : TI) (x : AV) : Prop :=
  match i with
  | .sl e => (∃ ei, tt e = some ei ∧ AV.sizeOk ei.size x) ∧ ∀ s : ByteArray, x ≠ AV.d (D.v (.string s))
  | .str => ∃ s : ByteArray, x = AV.d (D.v (.string s))
  | _ => False
def intBin (op : BinOp) (k : IntKind) (a b : Int) : Option Value :=
  match op with
  | .add => some (.int k (k.wrap (a + b)))
  | .sub => some (.int k (k.wrap (a - b)))
  | .mul => some (.int k (k.wrap (a * b)))
  | .eql => some (.bool (a == b))
  | .neq => some (.bool (a != b))
  | .lss => some (.bool (a < b))
  | .leq => some (.bool (a ≤ b))
  | .gtr => some (.bool (a > b))
  | .geq => some (.bool (a ≥ b))
  | _ => none
def strBin (op : BinOp) (a b : ByteArray) : Option Value :=
  match op with
  | .eql => some (.bool (a.toList == b.toList))
  | .neq => some (.bool (!(a.toList == b.toList)))
  | .lss => some (.bool (Op.bytesLess a.toList b.toList))
  | .leq => some (.bool (Op.bytesLess a.toList b.toList || a.toList == b.toList))
  | .gtr => some (.bool (!(Op.bytesLess a.toList b.toList || a.toList == b.toList)))
  | .geq => some (.bool (!(Op.bytesLess a.toList b.toList)))
  | _ => none
def binA (op : BinOp) (x y : AV) (K : AV → Prop) : Prop :=
  match x, y with
  | .d (.v (.int k a)), .d (.v (.int k' b)) => k = k' ∧
    match op with
    | .quo => b ≠ 0 ∧ K (.d (.v (.int k (k.wrap (a.tdiv b)))))
    | .rem => b ≠ 0 ∧ K (.d (.v (.int k (a.tmod b))))
    | _ => ∃ v, intBin op k a b = some v ∧ K (.d (.v v))
  | .d (.v (.string a)), .d (.v (.string b)) =>
    match op with
    | .add => a.size + b.size ≤ 9223372036854775807 ∧ K (.d (.v (.string (a ++ b))))
    | _ => ∃ v, strBin op a b = some v ∧ K (.d (.v v))
  | _, _ => False
/-- Is a slice nil? -/
def nilA (x : AV) (K : Bool → Prop) : Prop :=
  match x with
  | .d (.v (.slice none 0 0)) => K true
  | .d (.sl _ es) => es ≠ [] ∧ K false
  | .bs _ es => es ≠ [] ∧ K false
  | .cp _ es => es ≠ [] ∧ K false
  | .ms _ _ _ len => len ≠ 0 ∧ K false
  | _ => False
def unA (op : UnOp) (x : AV) (K : AV → Prop) : Prop :=
  match op, x with
  | .not, .d (.v (.bool b)) => K (.d (.v (.bool (!b))))
  | .neg, .d (.v (.int k n)) => K (.d (.v (.int k (k.wrap (0 - n)))))
  | _, _ => False
def lenA (x : AV) (K : Nat → Prop) : Prop :=
  match x with
  | .d (.v (.string s)) => K s.size
  | .d (.v (.slice none 0 0)) => K 0
  | .d (.sl _ es) => K es.length
  | .bs _ es => K es.length
  | .cp _ es => K es.length
  | .ms _ _ _ len => K len
  | _ => False

section
variable {P : Program} {n base : Nat} {w0 : World} {F0 : Nat → Nat → Prop} {ι : Nat → Option Nat} {full : Nat → Option Ob} {ev : Nat → AV} {a : Act} {w : World}
theorem AV.int?_spec {x : AV} {k : IntKind} {m : Int} (h : x.int? = some (k, m)) : x = .d (.v (.int k m)) := by
  unfold AV.int? at h
  split at h
  · simp only [Option.some.injEq, Prod.mk.injEq] at h; obtain ⟨rfl, rfl⟩ := h; rfl
  · cases h
theorem run_indexAt_tok {t e : TypeId} {ei : TI} (hu : P.underlying t = some (.slice e)) (he : Tok P e ei) (b o len cap : Nat) (k : IntKind) (m : Int) (h0 : 0 ≤ m) (h1 : m.toNat < len) :
    (Instr.indexAt t (.slice (some ⟨b, o, none⟩) len cap) (.int k m)).run P w = .ok (.pointer (some ⟨b, o + m.toNat * ei.size, none⟩)) w := by
  have : m < (len : Int) := by omega
  simp [Instr.indexAt, run_underlying hu, asIntOf, h0, this, run_sizeOf_tok he, add_plain]
theorem idxA_sound {t e : TypeId} {ei : TI} (hu : P.underlying t = some (.slice e)) (he : Tok P e ei) {x : AV} {y : Value} {k : IntKind} {m : Int} (h0 : 0 ≤ m) {K : AV → Prop}
    (hx : RepA ι (FF F0 ι) base w x y) (h : idxA ei.size x m.toNat K) : ∃ v, K v ∧ ∃ u, (Instr.indexAt t y (.int k m)).run P w = .ok u w ∧ RepA ι (FF F0 ι) base w v u := by
  have low : ∀ {es : List (List D)} {q : List D}, es[m.toNat]? = some q → m.toNat < es.length ∧ es ≠ [] := by
    intro es q hq
    have := (List.getElem?_eq_some_iff.1 hq).1
    exact ⟨this, by rintro rfl; simp at this⟩
  cases x with
  | ms id sz off len =>
    obtain ⟨rfl, hl, hK⟩ := h
    rcases hx with ⟨b, cap, h1, rfl, h2, h3⟩ | ⟨h1, _⟩
    · exact ⟨_, hK, _, run_indexAt_tok hu he b _ len cap k m h0 hl, b, h1, by rw [Nat.add_mul, Nat.add_zero]⟩
    · omega
  | bs sz es =>
    obtain ⟨rfl, q, hq, hK⟩ := h
    obtain ⟨a', cap, b, o, rfl, h1, h2, h3⟩ := hx
    obtain ⟨hl, hne⟩ := low hq
    rw [h2 hne]
    exact ⟨_, hK, _, run_indexAt_tok hu he b o _ cap k m h0 hl, b, _, rfl, (h3.at _ _ hq).2⟩
  | cp sz es =>
    obtain ⟨rfl, q, hq, hK⟩ := h
    obtain ⟨a', b, o, rfl, h2, h3⟩ := hx
    obtain ⟨hl, hne⟩ := low hq
    rw [h2 hne]
    exact ⟨_, hK, _, run_indexAt_tok hu he b o _ _ k m h0 hl, b, _, rfl, (h3.at _ _ hq).2⟩
  | d x =>
    cases x with
    | sl sz es =>
      obtain ⟨rfl, q, hq, hK⟩ := h
      obtain ⟨a', cap, b, o, rfl, h1, h2, h3⟩ := hx
      obtain ⟨hl, hne⟩ := low hq
      rw [h2 hne]
      exact ⟨_, hK, _, run_indexAt_tok hu he b o _ cap k m h0 hl, b, _, rfl, (h3.at _ _ hq).2⟩
    | _ => exact h.elim
  | _ => exact h.elim
theorem strIdxA_sound {t : TypeId} (hu : P.underlying t = some .string) {x : AV} {y : Value} {k : IntKind} {m : Int} (h0 : 0 ≤ m) {K : AV → Prop}
    (hx : RepA ι (FF F0 ι) base w x y) (h : strIdxA x m.toNat K) : ∃ v, K v ∧ ∃ u, (Instr.index t y (.int k m)).run P w = .ok u w ∧ RepA ι (FF F0 ι) base w v u := by
  unfold strIdxA at h
  split at h
  · rename_i s
    obtain ⟨hl, hK⟩ := h
    obtain rfl := hx
    refine ⟨_, hK, _, ?_, rfl⟩
    simp [Instr.index, run_underlying hu, asIntOf, h0, getElem?_pos, hl]
  · exact h.elim
theorem optInt_some {o : Option AV} {d : Nat} {K : Nat → Prop} (h : optInt o d K) : (o = none ∧ K d) ∨ ∃ k m, o = some (.d (.v (.int k m))) ∧ 0 ≤ m ∧ K m.toNat := by
  unfold optInt at h
  split at h
  · exact .inl ⟨rfl, h⟩
  · obtain ⟨k, m, h1, h2, h3⟩ := h
    exact .inr ⟨k, m, by rw [AV.int?_spec h1], h2, h3⟩
/-- The bounds of a cut. -/
theorem run_bounds {isSlice : Bool} {len cap : Nat} (hlc : len ≤ cap) {lo hi : Option AV} {mx : Option Value} {vlo vhi : Option Value} {K : Nat → Nat → Prop}
    (hlo : ∀ x, lo = some x → ∃ y, vlo = some y ∧ RepA ι (FF F0 ι) base w x y) (hlo' : lo = none → vlo = none)
    (hhi : ∀ x, hi = some x → ∃ y, vhi = some y ∧ RepA ι (FF F0 ι) base w x y) (hhi' : hi = none → vhi = none)
    (hmx : mx = none ∨ (mx = vhi ∧ vhi ≠ none))
    (h : cutL len lo hi K) :
    ∃ l h m, (Instr.sliceBounds isSlice len cap vlo vhi mx).run P w = .ok (l, h, m) w ∧ l ≤ h ∧ h ≤ len ∧ h ≤ m ∧ m ≤ cap ∧ (mx ≠ none → m = h) ∧ (mx = none → m = cap) ∧ K l h := by
  unfold cutL at h
  rcases optInt_some h with ⟨rfl, hle, h⟩ | ⟨kh, mh, rfl, hm0, hle, h⟩
  · obtain rfl := hhi' rfl
    have hmx' : mx = none := by rcases hmx with h | h <;> simp_all
    subst hmx'
    rcases optInt_some h with ⟨rfl, hl, h⟩ | ⟨kl, ml, rfl, hl0, hl, h⟩
    · obtain rfl := hlo' rfl
      exact ⟨0, len, cap, by simp [Instr.sliceBounds], hl, Nat.le_refl _, hlc, Nat.le_refl _, by simp, by simp, h⟩
    · obtain ⟨y, rfl, hy⟩ := hlo _ rfl
      obtain rfl := hy
      refine ⟨ml.toNat, len, cap, ?_, hl, Nat.le_refl _, hlc, Nat.le_refl _, by simp, by simp, h⟩
      simp [Instr.sliceBounds, Sem.run_bind, run_sliceBound, hl0, show ml ≤ (len : Int) by omega]
  · obtain ⟨y, rfl, hy⟩ := hhi _ rfl
    obtain rfl := hy
    have hh : mh ≤ (len : Int) := by omega
    have hh' : mh ≤ (cap : Int) := by omega
    have hee : (mh.toNat : Int) = mh := by omega
    rcases hmx with rfl | ⟨rfl, _⟩
    · rcases optInt_some h with ⟨rfl, hl, h⟩ | ⟨kl, ml, rfl, hl0, hl, h⟩
      · obtain rfl := hlo' rfl
        exact ⟨0, mh.toNat, cap, by simp [Instr.sliceBounds, run_sliceBound, hm0, hh'], hl, hle, by omega, Nat.le_refl _, by simp, by simp, h⟩
      · obtain ⟨y, rfl, hy⟩ := hlo _ rfl
        obtain rfl := hy
        refine ⟨ml.toNat, mh.toNat, cap, ?_, hl, hle, by omega, Nat.le_refl _, by simp, by simp, h⟩
        simp [Instr.sliceBounds, run_sliceBound, hm0, hh', hl0, hee, show ml ≤ mh by omega]
    · rcases optInt_some h with ⟨rfl, hl, h⟩ | ⟨kl, ml, rfl, hl0, hl, h⟩
      · obtain rfl := hlo' rfl
        exact ⟨0, mh.toNat, mh.toNat, by simp [Instr.sliceBounds, run_sliceBound, hm0, hh', hee], hl, hle, Nat.le_refl _, by omega, by simp, by simp, h⟩
      · obtain ⟨y, rfl, hy⟩ := hlo _ rfl
        obtain rfl := hy
        refine ⟨ml.toNat, mh.toNat, mh.toNat, ?_, hl, hle, Nat.le_refl _, by omega, by simp, by simp, h⟩
        simp [Instr.sliceBounds, run_sliceBound, hm0, hh', hl0, hee, show ml ≤ mh by omega]
end
end Go.Proofs.Ab
