/- A part of the proof of the law: it holds for all states of the abstract kind told in the first of these texts; no condition besides those its statements name. -/
import Derived.Test.YtkpnoifnfoijbaaAbA3
namespace Go.Proofs.Ab
open Go Go.RowKit
set_option linter.unusedVariables false
set_option linter.unusedSimpArgs false

/-! ### What the operations make of abstract values -/
def AV.int? : AV → Option (IntKind × Int)
  | .d (.v (.int k n)) => some (k, n)
  | _ => none
def AV.cells : AV → Option (List AV)
  | .un => none
  | .tp _ => none
  | .ag cs => some cs
  | .d (.v (.agg a)) => some (a.toList.map fun x => .d (.v x))
  | .d (.v (.tuple _)) => none
  | x => some [x]
def AV.d? : AV → Option D
  | .d x => some x
  | _ => none
def toDs : List AV → Option (List D)
  | [] => some []
  | x :: r => match x.d?, toDs r with
    | some y, some ys => if y.one then some (y :: ys) else none
    | _, _ => none
def pick (i : TI) (l : List AV) : Option AV := if i.row then (if i.size ≤ l.length then some (.ag (l.take i.size)) else none) else l.head?

def loadA (full : Nat → Option Ob) (i : TI) : AV → Option AV
  | .pt id off => match full id with
    | some (.var cs) => pick i (cs.drop off)
    | _ => none
  | .pe id sz k off => match full id with
    | some (.arr sz' es) => if sz = sz' then (match es[k]? with | some e => pick i ((e.drop off).map .d) | none => none) else none
    | _ => none
  | .bp cs => pick i (cs.map .d)
  | .d (.rp cs) => pick i (cs.map .d)
  | _ => none

section
variable {P : Program} {ι : Nat → Option Nat} {F : Nat → Nat → Prop} {base : Nat} {w : World}
/-- Cells in memory that read as abstract values. -/
def CellsAt (ι : Nat → Option Nat) (F : Nat → Nat → Prop) (base : Nat) (w : World) (b o : Nat) (l : List AV) : Prop :=
  ∃ vs : List Value, w.rangeAt b o vs ∧ RepL ι F base w l vs
theorem CellsAt.load {b o : Nat} {l : List AV} (h : CellsAt ι F base w b o l) {t : TypeId} {i : TI} (ht : Tok P t i) {x : AV} (hp : pick i l = some x) :
    ∃ v, (loadVar t ⟨b, o, none⟩).run P w = .ok v w ∧ RepA ι F base w x v := by
  obtain ⟨vs, h1, h2⟩ := h
  unfold pick at hp
  cases hr : i.row with
  | true =>
    rw [hr, if_pos rfl] at hp
    split at hp
    · rename_i hle
      injection hp with hp
      subst hp
      refine ⟨.agg (vs.take i.size).toArray, run_loadVar_row' ht hr w b o _ ?_ ?_, _, rfl, h2.take _⟩
      · rw [List.length_take, h2.length]; omega
      · intro j v hj
        refine h1 j v ?_
        rw [List.getElem?_take] at hj
        split at hj
        · exact hj
        · cases hj
    · cases hp
  | false =>
    rw [hr] at hp
    simp only [Bool.false_eq_true, if_false] at hp
    cases l with
    | nil => simp at hp
    | cons z r =>
      simp at hp
      subst hp
      obtain ⟨y, ys, rfl, h3, _⟩ := h2
      exact ⟨y, run_loadVar_one ht hr w b o y (by have := h1 0 y rfl; simpa using this), h3⟩
theorem CellsAt.of_cs {b o : Nat} {cs : List D} {pr : Nat → Value → Prop} (hp : ∀ o y, pr o y → w.cell? ⟨b, o, none⟩ = some y) (h : RepCs F w pr cs o) : CellsAt ι F base w b o (cs.map .d) := by
  obtain ⟨vs, e1, e2, e3⟩ := h.vals ι base
  exact ⟨vs, fun j v hj => hp _ _ (e2 j v hj), e3⟩
theorem CellsAt.of_var {b o : Nat} {c : Array Value} {T : TypeId} {fz : Nat × Nat} {cs : List AV} (hb : w.heap[b]? = some (.cells c T fz)) (h : RepL ι F base w cs c.toList) : CellsAt ι F base w b o (cs.drop o) := by
  refine ⟨c.toList.drop o, ?_, h.drop o⟩
  intro j v hj
  rw [cell_of hb]
  simpa using hj
end

section ops
variable {P : Program} {n base : Nat} {w0 : World} {F0 : Nat → Nat → Prop} {ι : Nat → Option Nat} {full : Nat → Option Ob} {ev : Nat → AV} {a : Act} {w : World}

theorem loadA_sound (hc : Core n base w0 F0 ι full ev a w) {t : TypeId} {i : TI} (ht : Tok P t i) {x v : AV} {y : Value} (hx : RepA ι (FF F0 ι) base w x y) (h : loadA full i x = some v) :
    ∃ u, (Instr.loadAt t y).run P w = .ok u w ∧ RepA ι (FF F0 ι) base w v u := by
  have key : ∀ b o l, y = .pointer (some ⟨b, o, none⟩) → CellsAt ι (FF F0 ι) base w b o l → pick i l = some v → ∃ u, (Instr.loadAt t y).run P w = .ok u w ∧ RepA ι (FF F0 ι) base w v u := by
    rintro b o l rfl hl hp
    obtain ⟨u, h1, h2⟩ := hl.load ht hp
    exact ⟨u, by simp only [Instr.loadAt, Instr.sureAddr, Sem.run_bind, Sem.run_pure, Result.andThen_ok, h1], h2⟩
  cases x with
  | pt id off =>
    obtain ⟨b, hb, rfl⟩ := hx
    obtain ⟨o, ho, hob⟩ := hc.obs id b hb
    simp only [loadA, ho] at h
    cases o with
    | var cs =>
      obtain ⟨c, T, e, hl⟩ := hob
      exact key b off _ rfl (CellsAt.of_var e hl) h
    | arr sz es => simp at h
  | pe id sz k off =>
    obtain ⟨b, hb, rfl⟩ := hx
    obtain ⟨o, ho, hob⟩ := hc.obs id b hb
    simp only [loadA, ho] at h
    cases o with
    | var cs => simp at h
    | arr sz' es =>
      simp only at h
      split at h
      · rename_i hsz
        subst hsz
        cases he : es[k]? with
        | none => rw [he] at h; simp at h
        | some e =>
          rw [he] at h
          obtain ⟨c, T, eh, hl, _⟩ := hob
          have h2 := (hl.at k e he).2.drop off
          rw [Nat.zero_add] at h2
          refine key b _ _ rfl (CellsAt.of_cs (fun o y hy => ?_) h2) h
          rw [cell_of eh]; exact hy
      · cases h
  | bp cs =>
    obtain ⟨b, o, rfl, hl⟩ := hx
    exact key b o _ rfl (CellsAt.of_cs (fun o y hy => hy.1) hl) h
  | d x =>
    cases x with
    | rp cs =>
      obtain ⟨b, o, rfl, hl⟩ := hx
      exact key b o _ rfl (CellsAt.of_cs (fun o y hy => hy.1) hl) h
    | _ => simp [loadA] at h
  | _ => simp [loadA] at h

/-! fields -/
def fieldA (tt : TypeId → Option TI) (i : TI) (f : Nat) : Option (Nat × TI) :=
  match i with
  | .st _ _ fs _ => match fs[f]? with
    | some (off, ft) => match tt ft with
      | some fi => if fi.size = 0 then none else some (off, fi)
      | none => none
    | none => none
  | _ => none
def fieldAddrA (off : Nat) : AV → Option AV
  | .pt id o => some (.pt id (o + off))
  | .pe id sz k o => some (.pe id sz k (o + off))
  | .bp cs => some (.bp (cs.drop off))
  | .d (.rp cs) => some (.d (.rp (cs.drop off)))
  | _ => none
theorem fieldA_spec {tt : TypeId → Option TI} (htt : TOK P tt) {t : TypeId} {i : TI} (ht : Tok P t i) {f off : Nat} {fi : TI} (h : fieldA tt i f = some (off, fi)) :
    ∃ (fa : Array Field) (fd : Field), P.underlying t = some (.struct fa) ∧ fa[f]? = some fd ∧ fd.offset = off ∧ Tok P fd.type fi ∧ fi.size ≠ 0 := by
  unfold fieldA at h
  cases i with
  | st n b fs z =>
    simp only at h
    obtain ⟨_, _, _, fa, hu, hf⟩ := ht
    cases hff : fs[f]? with
    | none => rw [hff] at h; simp at h
    | some p =>
      obtain ⟨o, ft⟩ := p
      rw [hff] at h
      simp only at h
      cases htf : tt ft with
      | none => rw [htf] at h; simp at h
      | some fi' =>
        rw [htf] at h
        simp only at h
        split at h
        · cases h
        · rename_i hz
          injection h with h
          injection h with h1 h2
          subst h1; subst h2
          rw [← hf, List.getElem?_map] at hff
          cases hfd : fa.toList[f]? with
          | none => rw [hfd] at hff; simp at hff
          | some fd =>
            rw [hfd] at hff
            simp at hff
            exact ⟨fa, fd, hu, by simpa using hfd, hff.1, by rw [hff.2]; exact htt _ _ htf, hz⟩
  | _ => simp at h
theorem add_plain (b o k : Nat) : (⟨b, o, none⟩ : Addr).add k = ⟨b, o + k, none⟩ := by unfold Addr.add; split <;> simp_all
theorem fieldAddrA_sound {tt : TypeId → Option TI} (htt : TOK P tt) {t : TypeId} {i : TI} (ht : Tok P t i) {f off : Nat} {fi : TI} (h : fieldA tt i f = some (off, fi)) {x v : AV} {y : Value}
    (hx : RepA ι (FF F0 ι) base w x y) (hv : fieldAddrA off x = some v) : ∃ u, (Instr.fieldAt t y f).run P w = .ok u w ∧ RepA ι (FF F0 ι) base w v u := by
  obtain ⟨fa, fd, hu, hf, rfl, htf, hz⟩ := fieldA_spec htt ht h
  have key : ∀ b o, y = .pointer (some ⟨b, o, none⟩) → (Instr.fieldAt t y f).run P w = .ok (.pointer (some ⟨b, o + fd.offset, none⟩)) w := by
    rintro b o rfl
    simp only [Instr.fieldAt, Sem.run_bind, run_underlying hu, Result.andThen_ok, hf, Instr.sureAddr, Sem.run_pure, fieldPlace, run_sizeOf_tok htf, hz, if_false, add_plain]
  cases x with
  | pt id o =>
    obtain ⟨b, hb, rfl⟩ := hx
    simp only [fieldAddrA, Option.some.injEq] at hv; subst hv
    exact ⟨_, key _ _ rfl, b, hb, rfl⟩
  | pe id sz k o =>
    obtain ⟨b, hb, rfl⟩ := hx
    simp only [fieldAddrA, Option.some.injEq] at hv; subst hv
    exact ⟨_, key _ _ rfl, b, hb, by rw [Nat.add_assoc]⟩
  | bp cs =>
    obtain ⟨b, o, rfl, hl⟩ := hx
    simp only [fieldAddrA, Option.some.injEq] at hv; subst hv
    exact ⟨_, key _ _ rfl, b, _, rfl, hl.drop _⟩
  | d x =>
    cases x with
    | rp cs =>
      obtain ⟨b, o, rfl, hl⟩ := hx
      simp only [fieldAddrA, Option.some.injEq] at hv; subst hv
      exact ⟨_, key _ _ rfl, b, _, rfl, hl.drop _⟩
    | _ => simp [fieldAddrA] at hv
  | _ => simp [fieldAddrA] at hv
theorem partA_sound {tt : TypeId → Option TI} (htt : TOK P tt) {t : TypeId} {i : TI} (ht : Tok P t i) {f off : Nat} {fi : TI} (h : fieldA tt i f = some (off, fi)) {cs : List AV} {v : AV} {y : Value}
    (hx : RepA ι (FF F0 ι) base w (.ag cs) y) (hv : pick fi (cs.drop off) = some v) : ∃ u, (Instr.field t y f).run P w = .ok u w ∧ RepA ι (FF F0 ι) base w v u := by
  obtain ⟨fa, fd, hu, hf, rfl, htf, hz⟩ := fieldA_spec htt ht h
  obtain ⟨vs, rfl, hl⟩ := hx
  simp only [Instr.field, Sem.run_bind, run_underlying hu, Result.andThen_ok, hf, asAgg, Sem.run_pure, part, run_isAgg_tok htf]
  unfold pick at hv
  cases hr : fi.row with
  | true =>
    rw [hr, if_pos rfl] at hv
    split at hv
    · injection hv with hv
      subst hv
      refine ⟨.agg (vs.toArray.extract fd.offset (fd.offset + fi.size)), ?_, (vs.drop fd.offset).take fi.size, ?_, (hl.drop _).take _⟩
      · simp only [if_true, Sem.run_bind, run_sizeOf_tok htf, Result.andThen_ok, Sem.run_pure]
      · simp [List.extract_eq_take_drop]
    · cases hv
  | false =>
    rw [hr] at hv
    simp only [Bool.false_eq_true, if_false] at hv
    have h0 : cs[fd.offset]? = some v := by rw [← hv, List.head?_drop]
    obtain ⟨u, h1, h2⟩ := hl.at _ _ h0
    refine ⟨u, ?_, h2⟩
    simp [h1]
end ops
end Go.Proofs.Ab
