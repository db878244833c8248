/- A part of the proof of the law: it holds for all states of the abstract kind told in the first of these texts; no condition besides those its statements name. -/
import Derived.Test.YtkpnoifnfoijbaaAbA22
namespace Go.Proofs.Ab
open Go Go.RowKit
set_option linter.unusedVariables false
set_option linter.unusedSimpArgs false
mutual
theorem AV.sub_no (g : AV → AV) : ∀ x : AV, x.sub (fun _ => false) g = x
  | .un => rfl
  | .d _ => rfl
  | .bs .. => rfl
  | .cp .. => rfl
  | .bp .. => rfl
  | .pt .. => rfl
  | .pe .. => rfl
  | .ms .. => rfl
  | .cl f caps => by simp [AV.subL_no g caps]
  | .ag cs => by simp [AV.subL_no g cs]
  | .tp cs => by simp [AV.subL_no g cs]
theorem AV.subL_no (g : AV → AV) : ∀ l : List AV, AV.subL (fun _ => false) g l = l
  | [] => rfl
  | x :: r => by simp [AV.sub_no g x, AV.subL_no g r]
end
theorem del_no {α : Type} (l : List (Nat × α)) : del (fun _ => false) l = l := by
  induction l with
  | nil => rfl
  | cons p r ih => obtain ⟨j, y⟩ := p; simp [ih]
theorem Ob.sub_no (g : AV → AV) (o : Ob) : o.sub (fun _ => false) g = o := by cases o <;> simp [Ob.sub, AV.subL_no]
theorem killC_no {ops : Array Oper} (h : ops.toList.all (fun o => !makes o) = true) (s : St) : killC ops s = s := by
  have : creates ops = fun _ => false := by
    funext d
    unfold creates
    rw [List.any_eq_false]
    intro o ho
    have := List.all_eq_true.1 h o ho
    simp only [Bool.not_eq_true'] at this
    rw [this]; simp
  unfold killC
  rw [this]
  obtain ⟨nt, tm, ob⟩ := s
  show St.mk nt (mapT (AV.sub _ _) tm) (mapO (Ob.sub _ _) (del _ ob)) = _
  rw [del_no]
  congr 1
  · unfold mapT
    rw [List.map_congr_left (g := id)]
    · simp
    · intro q _; rw [AV.sub_no]; rfl
  · unfold mapO
    rw [List.map_congr_left (g := id)]
    · simp
    · intro q _; rw [Ob.sub_no]; rfl
def isCalm (o : Oper) : Bool := match o.op with | .store .. => false | .call ⟨.builtin .append, _, _⟩ => false | _ => true
def calmCount : List Oper → Nat
  | [] => 0
  | o :: r => if isCalm o then calmCount r + 1 else 0
section
variable {P : Program} {tt : TypeId → Option TI} {et : TypeId → Bool}
theorem runD.nil {ops : Array Oper} {s : St} {K : St → Prop} (h : K s) : runD P tt et ops [] s K := h
theorem runD.cons {ops : Array Oper} {o : Oper} {r : List Oper} {s : St} {K : St → Prop} (h : ∀ K' : AV → Option Ob → Prop, (∀ x ob, runD P tt et ops r (s.fin o.dst x ob) K → K' x ob) → dstOk o s ∧ calmG P tt et ops o s.get (lk s.ob) K') : runD P tt et ops (o :: r) s K :=
  h _ fun _ _ h => h
theorem runD.eqs {ops : Array Oper} {r : List Oper} {s s' : St} {K : St → Prop} (e : s = s') (h : runD P tt et ops r s' K) : runD P tt et ops r s K := e ▸ h
theorem AW.lastD (htt : TOK P tt) (hett : ETOK P tt et) (hm : P.follows .mixedOrders = true) {id : Nat} {l : List Oper} (k : Nat) (hk : calmCount l = k) (hk2 : decide (k ≤ l.length) = true) (hok : orderOk ⟨l⟩ = true) (ht : tailOk ⟨l⟩ k = true) (hn : l.all (fun o => !makes o) = true) {s : St} {Q : Exit → St → Prop}
    (h : runD P tt et ⟨l⟩ (l.take k) s fun s' => aops P tt et ⟨l⟩ (l.drop k) s' (Q .normal)) : AW P (.region id ⟨l⟩ true) s Q :=
  AW.regionD htt hett hm k (by simpa using hk2) hok ht (by rw [killC_no hn]; exact h)
theorem AW.seqD (htt : TOK P tt) (hett : ETOK P tt et) (hm : P.follows .mixedOrders = true) {id : Nat} {l : List Oper} {y : Code} (k : Nat) (hk : calmCount l = k) (hk2 : decide (k ≤ l.length) = true) (hok : orderOk ⟨l⟩ = true) (ht : tailOk ⟨l⟩ k = true) (hn : l.all (fun o => !makes o) = true) {s : St} {Q : Exit → St → Prop}
    (h : runD P tt et ⟨l⟩ (l.take k) s fun s' => aops P tt et ⟨l⟩ (l.drop k) s' fun s' => AW P y s' Q) : AW P (.seq (.region id ⟨l⟩ true) y) s Q :=
  AW.seq (AW.lastD htt hett hm k hk hk2 hok ht hn h)
/-- With operations that make something. -/
theorem AW.lastDM (htt : TOK P tt) (hett : ETOK P tt et) (hm : P.follows .mixedOrders = true) {id : Nat} {l : List Oper} (k : Nat) (hk : calmCount l = k) (hk2 : decide (k ≤ l.length) = true) (hok : orderOk ⟨l⟩ = true) (ht : tailOk ⟨l⟩ k = true) {s s0 : St} {Q : Exit → St → Prop} (hs : killC ⟨l⟩ s = s0)
    (h : runD P tt et ⟨l⟩ (l.take k) s0 fun s' => aops P tt et ⟨l⟩ (l.drop k) s' (Q .normal)) : AW P (.region id ⟨l⟩ true) s Q :=
  AW.regionD htt hett hm k (by simpa using hk2) hok ht (by rw [hs]; exact h)
theorem AW.seqDM (htt : TOK P tt) (hett : ETOK P tt et) (hm : P.follows .mixedOrders = true) {id : Nat} {l : List Oper} {y : Code} (k : Nat) (hk : calmCount l = k) (hk2 : decide (k ≤ l.length) = true) (hok : orderOk ⟨l⟩ = true) (ht : tailOk ⟨l⟩ k = true) {s s0 : St} {Q : Exit → St → Prop} (hs : killC ⟨l⟩ s = s0)
    (h : runD P tt et ⟨l⟩ (l.take k) s0 fun s' => aops P tt et ⟨l⟩ (l.drop k) s' fun s' => AW P y s' Q) : AW P (.seq (.region id ⟨l⟩ true) y) s Q :=
  AW.seq (AW.lastDM htt hett hm k hk hk2 hok ht hs h)
end
attribute [simp] calmG creates killC
end Go.Proofs.Ab
