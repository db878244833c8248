/- A part of the proof of the law: it holds for all states of the abstract kind told in the first of these texts; no condition besides those its statements name. -/
import Derived.Test.YtkpnoifnfoijbaaAbA21
namespace Go.Proofs.Ab
open Go Go.RowKit
set_option linter.unusedVariables false
set_option linter.unusedSimpArgs false

/-! ### The api's data -/
structure Val where
  kind : Int
  num : Int
  text : ByteArray
structure Node where
  kind : Int
  num : Int
  value : Val
structure Key where
  col : Int
  falls : Bool
  nulls : Bool
structure Agg where
  kind : Int
  col : Int
  name : ByteArray
structure PStep where
  kind : Int
  num : Int
  skip : Int
  name : ByteArray
  exprs : List (List Node)
  names : List ByteArray
  cols : List Int
  keys : List Key
  aggs : List Agg
attribute [simp] dI dB dS
def eS (l : List ByteArray) : List (List D) := l.map fun n => [.v (.string n)]
def valC (v : Val) : List D := [dI v.kind, dI v.num, dS v.text]
def nodeC (n : Node) : List D := [dI n.kind, dI n.num, dI n.value.kind, dI n.value.num, dS n.value.text]
def exprC (e : List Node) : List D := [.sl 5 (e.map nodeC)]
def keyC (k : Key) : List D := [dI k.col, dB k.falls, dB k.nulls]
def aggC (a : Agg) : List D := [dI a.kind, dI a.col, dS a.name]
def stepC (s : PStep) : List D := [dI s.kind, dI s.num, dI s.skip, dS s.name, .sl 1 (s.exprs.map exprC), .sl 1 (eS s.names), .sl 1 (eI s.cols), .sl 3 (s.keys.map keyC), .sl 3 (s.aggs.map aggC)]
abbrev aStep (s : PStep) : AV := .ag ((stepC s).map .d)
abbrev aPlan (p : List PStep) : AV := .ag [.d (.sl 9 (p.map stepC))]
attribute [simp] valC nodeC exprC keyC aggC stepC
theorem get_of_drop {α : Type} {l r : List α} {k : Nat} {x : α} (h : l.drop k = x :: r) : l[k]? = some x ∧ l.drop (k + 1) = r ∧ k < l.length := by
  have h1 : (l.drop k)[0]? = some x := by rw [h]; rfl
  rw [List.getElem?_drop] at h1
  have h2 : k < l.length := (List.getElem?_eq_some_iff.1 h1).1
  refine ⟨h1, ?_, h2⟩
  rw [← List.drop_drop, h]
  rfl
end Go.Proofs.Ab
namespace Go.Proofs.Ab
open Go
@[simp] theorem eqlIf (b : Bool) : (BinOp.eql = if b = true then BinOp.neq else BinOp.eql) ↔ b = false := by cases b <;> simp
@[simp] theorem neqIf (b : Bool) : (BinOp.neq = if b = true then BinOp.neq else BinOp.eql) ↔ b = true := by cases b <;> simp
@[simp] theorem othIf (o : BinOp) (h1 : o ≠ .eql) (h2 : o ≠ .neq) (b : Bool) : (o = if b = true then BinOp.neq else BinOp.eql) ↔ False := by cases b <;> simp [h1, h2]
attribute [simp] eqA strBin
end Go.Proofs.Ab
namespace Go.Proofs.Ab
open Go
theorem AW.weakE {P : Program} {c : Code} {s s1 s2 : St} {Q : Exit → St → Prop} (h : Weak s s1) (e : s1 = s2) (k : AW P c s2 Q) : AW P c s Q := AW.weak (e ▸ h) k
theorem Weak.thenE {s s1 s2 s3 : St} (h : Weak s s1) (e : s1 = s2) (k : Weak s2 s3) : Weak s s3 := Weak.trans (e ▸ h) k
theorem Weak.killE (s : St) (i : Nat) : Weak s (s.kill fun j => j == i) := Weak.kill s _
end Go.Proofs.Ab
namespace Go.Proofs.Ab
open Go
theorem callA {P : Program} {f : FuncId} {args xs : List AV} {r : AV} {K : AV → Prop} (h : Good P f args r) (hl : LeL xs args) (k : K r) : ∃ a, LeL xs a ∧ ∃ r, Good P f a r ∧ K r := ⟨args, hl, r, h, k⟩
end Go.Proofs.Ab
namespace Go.Proofs.Ab
open Go
theorem AW.join {P : Program} {c z : Code} {s : St} {Q Q0 : Exit → St → Prop} (S : St) (h : AW P c s (andThen (fun s' => Weak s' S) Q)) (k : AW P z S Q0) : AW P c s (andThen (fun s' => AW P z s' Q0) Q) :=
  AW.mono h fun e s' q => by
    cases e with
    | normal => exact AW.weak q k
    | _ => exact q
end Go.Proofs.Ab
namespace Go.Proofs.Ab
open Go
@[simp] theorem eI_getE (l : List Int) (n : Nat) (h : n < (eI l).length) : (eI l)[n] = [D.v (.int .i64 (l[n]'(by simpa using h)))] := by simp [eI]
@[simp] theorem eS_length (l : List ByteArray) : (eS l).length = l.length := by simp [eS]
@[simp] theorem eS_getE (l : List ByteArray) (n : Nat) (h : n < (eS l).length) : (eS l)[n] = [D.v (.string (l[n]'(by simpa using h)))] := by simp [eS]
end Go.Proofs.Ab
attribute [simp] Go.Proofs.Ab.AV.d?
