/- A part of the proof of the law: it holds for all states of the abstract kind told in the first of these texts; no condition besides those its statements name. -/
import Derived.Test.YtkpnoifnfoijbaaAbA20
import Derived.IntWalk
namespace Go.Proofs.Ab
open Go Go.RowKit
set_option linter.unusedVariables false
set_option linter.unusedSimpArgs false

/-! ### Stepping by hand -/
def resL (tt : TypeId → Option TI) (vs : List ResultVar) (r : AV) (e : Exit) (s : St) : Prop :=
  match e with
  | .normal => resA tt s vs r
  | .ret => resA tt s vs r
  | _ => False
section
variable {P : Program} {tt : TypeId → Option TI} {et : TypeId → Bool}
theorem goodF (htt : TOK P tt) {f : FuncId} {fn : Func} {c : Code} {args : List AV} {r : AV} {nt : Nat} {vs : List ResultVar} (hf : P.funcs[f]? = some fn) (hb : fn.body = some c) (hnt : fn.ntmps = nt) (hres : fn.results.toList = vs)
    (hnm : (fn.name == "runtime.NumGoroutine") = false) (hn : args.length ≤ nt) (hr : dataA r) (h : AW P c (start nt args) (resL tt vs r)) : Good P f args r := by
  subst hnt hres
  refine good_of htt hf hb hnm hn hr (AW.mono h ?_)
  intro e s q
  cases e <;> first | exact q | exact q.elim
theorem aops.nil {ops : Array Oper} {s : St} {K : St → Prop} (h : K s) : aops P tt et ops [] s K := h
theorem aops.cons {ops : Array Oper} {o : Oper} {r : List Oper} {s : St} {K : St → Prop} (h : ∀ K' : St → Prop, (∀ s', aops P tt et ops r s' K → K' s') → stepG P tt et ops o s K') : aops P tt et ops (o :: r) s K := h _ fun _ h => h
theorem AW.seqR (htt : TOK P tt) (hett : ETOK P tt et) {id : Nat} {ops : List Oper} {y : Code} {s : St} {Q : Exit → St → Prop} (h : aops P tt et ⟨ops⟩ ops s fun s' => AW P y s' Q) : AW P (.seq (.region id ⟨ops⟩ false) y) s Q := AW.seq (AW.region htt hett h)
theorem AW.lastR (htt : TOK P tt) (hett : ETOK P tt et) {id : Nat} {ops : List Oper} {s : St} {Q : Exit → St → Prop} (h : aops P tt et ⟨ops⟩ ops s (Q .normal)) : AW P (.region id ⟨ops⟩ false) s Q := AW.region htt hett h
theorem AW.seqSkip {y : Code} {s : St} {Q : Exit → St → Prop} (h : AW P y s Q) : AW P (.seq .skip y) s Q := AW.seq (AW.skip h)
theorem AW.condE {c : Operand} {x y : Code} {s : St} {Q : Exit → St → Prop} (b : Bool) (hc : evO s.get c = .d (.v (.bool b))) (ht : b = true → AW P x s Q) (hf : b = false → AW P y s Q) : AW P (.cond c x y) s Q := AW.cond b hc ht hf
/-- Both arms meet, or leave. -/
theorem AW.seqCond {c : Operand} {x y z : Code} {s : St} {Q : Exit → St → Prop} (b : Bool) (hc : evO s.get c = .d (.v (.bool b)))
    (ht : b = true → ∀ Q', (∀ s', AW P z s' Q → Q' .normal s') → (∀ e s', e ≠ .normal → Q e s' → Q' e s') → AW P x s Q')
    (hf : b = false → ∀ Q', (∀ s', AW P z s' Q → Q' .normal s') → (∀ e s', e ≠ .normal → Q e s' → Q' e s') → AW P y s Q') : AW P (.seq (.cond c x y) z) s Q := by
  refine AW.seq (AW.cond b hc (fun h => ht h _ (fun s' h => h) ?_) (fun h => hf h _ (fun s' h => h) ?_)) <;>
  · intro e s' he hq
    cases e <;> first | exact absurd rfl he | exact hq
theorem AW.iter {c : Code} {s : St} {Q : Exit → St → Prop} (st : Nat → St) (N : Nat) (h0 : Weak s (st 0)) (hr : ∀ k, k ≤ N → AW P c (st k) (andThen (fun s' => k < N ∧ Weak s' (st (k + 1))) Q)) : AW P (.loop c) s Q :=
  AW.loop (fun n s' => ∃ k, k ≤ N ∧ n = N - k ∧ s' = st k) N h0 ⟨0, Nat.zero_le _, rfl, rfl⟩ fun n s' ⟨k, hk, hn, he⟩ => by
    subst he
    refine AW.mono (hr k hk) ?_
    intro e s'' q
    cases e with
    | normal => exact ⟨N - (k + 1), st (k + 1), by have := q.1; omega, q.2, k + 1, by have := q.1; omega, rfl, rfl⟩
    | _ => exact q
/-- As 'iter', with what has been seen so far. -/
theorem AW.iterI {c : Code} {s : St} {Q : Exit → St → Prop} (I : Nat → St → Prop) (N : Nat) {s₀ : St} (h0 : Weak s s₀) (h1 : I 0 s₀) (hr : ∀ k s, k ≤ N → I k s → AW P c s (andThen (fun s' => k < N ∧ ∃ s'', Weak s' s'' ∧ I (k + 1) s'') Q)) : AW P (.loop c) s Q :=
  AW.loop (fun n s' => ∃ k, k ≤ N ∧ n = N - k ∧ I k s') N h0 ⟨0, Nat.zero_le _, rfl, h1⟩ fun n s' ⟨k, hk, hn, he⟩ => by
    refine AW.mono (hr k s' hk he) ?_
    intro e s'' q
    cases e with
    | normal =>
      obtain ⟨q1, s3, q2, q3⟩ := q
      exact ⟨N - (k + 1), s3, by omega, q2, k + 1, by omega, rfl, q3⟩
    | _ => exact q
/-- What an ending must give, with the normal one aside. -/
theorem andThen_of {K : St → Prop} {Q : Exit → St → Prop} {e : Exit} {s : St} (he : e ≠ .normal) (h : Q e s) : andThen K Q e s := by
  cases e <;> first | exact absurd rfl he | exact h
end

/-! ### Weakening between states written out -/
def allLe (s : St) : List (Nat × AV) → Prop
  | [] => True
  | (t, x) :: r => Le (s.get t) x ∧ allLe s r
theorem allLe.at {s : St} : ∀ {l : List (Nat × AV)}, allLe s l → ∀ t x, lk l t = some x → Le (s.get t) x := by
  intro l
  induction l with
  | nil => intro _ t x h; cases h
  | cons p r ih =>
    obtain ⟨j, y⟩ := p
    intro h t x e
    simp only [lk] at e
    split at e
    · rename_i hj; injection e with e; subst hj e; exact h.1
    · exact ih h.2 t x e
theorem Weak.to {nt : Nat} {tm tm' : List (Nat × AV)} {ob : List (Nat × Ob)} (h : allLe ⟨nt, tm, ob⟩ tm') : Weak ⟨nt, tm, ob⟩ ⟨nt, tm', ob⟩ :=
  Weak.less ⟨nt, tm, ob⟩ tm' (fun t x e => h.at t x e)
theorem Weak.obs {nt : Nat} {tm : List (Nat × AV)} {ob ob' : List (Nat × Ob)} (h : ∀ i, lk ob i = lk ob' i) : Weak ⟨nt, tm, ob⟩ ⟨nt, tm, ob'⟩ := by
  have h' : lk ob = lk ob' := funext h
  rintro base w0 F0 a w ⟨ι, hc, hfull⟩
  refine ⟨ι, ?_, ?_⟩
  · show Core nt base w0 F0 ι (lk ob') _ a w
    rw [← h']; exact hc
  · intro i o ho
    exact hfull i o (by show lk ob i = _; rw [h']; exact ho)
theorem Le.of {x y : AV} (h : x = y) : Le x y := h ▸ Le.refl x
@[simp] theorem Le.refl' (x : AV) : Le x x ↔ True := ⟨fun _ => trivial, fun _ => Le.refl x⟩
theorem wrap64 {n : Int} (h1 : -9223372036854775808 ≤ n) (h2 : n ≤ 9223372036854775807) : IntKind.i64.wrap n = n := IntWalk.i64_in n ⟨h1, h2⟩

def dI (n : Int) : D := .v (.int .i64 n)
def dB (b : Bool) : D := .v (.bool b)
def dS (s : ByteArray) : D := .v (.string s)
abbrev aI (n : Int) : AV := .d (.v (.int .i64 n))
abbrev aB (b : Bool) : AV := .d (.v (.bool b))
abbrev aNil : AV := .d (.v (.slice none 0 0))
/-- Ints as an array's elements. -/
def eI (l : List Int) : List (List D) := l.map fun n => [.v (.int .i64 n)]
@[simp] theorem eI_length (l : List Int) : (eI l).length = l.length := by simp [eI]
theorem eI_get (l : List Int) (n : Nat) : (eI l)[n]? = (l[n]?).map fun n => [D.v (.int .i64 n)] := by simp [eI]
theorem eI_take (l : List Int) (n : Nat) : (eI l).take n = eI (l.take n) := by simp [eI, List.map_take]
theorem eI_drop (l : List Int) (n : Nat) : (eI l).drop n = eI (l.drop n) := by simp [eI, List.map_drop]
theorem eI_append (l m : List Int) : eI l ++ eI m = eI (l ++ m) := by simp [eI]
theorem eI_nil : ([] : List (List D)) = eI [] := rfl
theorem eI_one (n : Int) : [[D.v (.int .i64 n)]] = eI [n] := rfl

attribute [simp] stepG stepA calm dstOk start numbered St.ready St.fin St.put makes evO St.get lk ins del
attribute [simp] St.new St.kill St.sub mapT mapO AV.sub AV.subL Ob.sub loadA fieldA fieldAddrA Ab.pick idxA cutA cutV cutL optInt AV.sizeOk CutOk intBin binA nilA unA lenA LenOk storeA appA elemsOf baseOf AV.cells AV.one D.one toDs setR passA passL fillA elemsA frzA frzV AV.int? TI.size TI.row TI.bytes TI.zeros TI.zero allLe Value.oneCell'
end Go.Proofs.Ab
namespace Go.Proofs.Ab
theorem lk_mem {α : Type} {x : α} {t : Nat} : ∀ {l : List (Nat × α)}, lk l t = some x → (t, x) ∈ l := by
  intro l
  induction l with
  | nil => intro h; cases h
  | cons p r ih =>
    obtain ⟨j, y⟩ := p
    intro h
    simp only [lk] at h
    split at h
    · rename_i e; injection h with h; subst e h; exact List.mem_cons_self ..
    · exact List.mem_cons_of_mem _ (ih h)
end Go.Proofs.Ab
