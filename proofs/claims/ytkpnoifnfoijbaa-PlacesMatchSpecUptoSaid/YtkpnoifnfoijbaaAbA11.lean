/- A part of the proof of the law: it holds for all states of the abstract kind told in the first of these texts; no condition besides those its statements name. -/
import Derived.Test.YtkpnoifnfoijbaaAbA10
import Derived.IntWalk
namespace Go.Proofs.Ab
open Go Go.RowKit
set_option linter.unusedVariables false
set_option linter.unusedSimpArgs false

section
variable {P : Program} {n base : Nat} {w0 : World} {F0 : Nat → Nat → Prop} {ι : Nat → Option Nat} {full : Nat → Option Ob} {ev : Nat → AV} {a : Act} {w : World}
def makes (o : Oper) : Bool := match o.op with
  | .box .. => true
  | .alloc .. => true
  | .buildSlice .. => true
  | .makeSlice .. => true
  | _ => false
theorem evs_rep (hc : Core n base w0 F0 ι full ev a w) (l : List Operand) : RepL ι (FF F0 ι) base w (l.map (evO ev)) (l.map a.eval) := by
  induction l with
  | nil => rfl
  | cons x r ih => exact ⟨_, _, rfl, hc.evO x, ih⟩
theorem parts_rep (hc : Core n base w0 F0 ι full ev a w) (l : List (Nat × Operand)) : RepPs ι (FF F0 ι) base w (l.map fun p => (p.1, evO ev p.2)) (l.map fun p => (p.1, a.eval p.2)) := by
  induction l with
  | nil => rfl
  | cons x r ih => exact ⟨_, _, rfl, hc.evO _, ih⟩
theorem run_enter {g : FuncId} {args : Array Value} (hf : ∃ fn, P.funcs[g]? = some fn ∧ (fn.name == "runtime.NumGoroutine") = false ∧ fn.body.isNone = false) : (callFunc g args).run P w = .ok (.enter g args) w := by
  obtain ⟨fn, h1, h2, h3⟩ := hf
  have h2' : fn.name ≠ "runtime.NumGoroutine" := by simpa using h2
  have h3' : fn.body ≠ none := by intro e; rw [e] at h3; cases h3
  simp [callFunc, h1, h2', h3']
theorem repv (u : Value) : RepA ι (FF F0 ι) base w (.d (.v u)) u := rfl
theorem cutL_at {len : Nat} {lo hi : Option AV} {K : Nat → Nat → Prop} (h : cutL len lo hi K) : ∃ l h, K l h ∧ ∀ K' : Nat → Nat → Prop, K' l h → cutL len lo hi K' := by
  have opt : ∀ (o : Option AV) (d : Nat) (A : Nat → Prop), optInt o d A → ∃ m, A m ∧ ∀ B : Nat → Prop, B m → optInt o d B := by
    intro o d A h
    unfold optInt at h ⊢
    split at h
    · exact ⟨_, h, fun B hB => hB⟩
    · obtain ⟨k, m, q1, q2, q3⟩ := h; exact ⟨_, q3, fun B hB => ⟨k, m, q1, q2, hB⟩⟩
  obtain ⟨m, ⟨h1, h2⟩, h3⟩ := opt _ _ _ h
  obtain ⟨l, ⟨h4, h5⟩, h6⟩ := opt _ _ _ h2
  exact ⟨l, m, h5, fun K' hK => h3 _ ⟨h1, h6 _ ⟨h4, hK⟩⟩⟩
theorem cutA_both {x : AV} {lo hi : Option AV} {fl : Bool} {K : AV → Prop} (h : cutA x lo hi fl K) : cutA x lo hi fl fun v => K v ∧ cutA x lo hi fl fun v' => v' = v := by
  have key : ∀ {len : Nat} {f : Nat → Nat → AV}, (cutL len lo hi fun l h => K (f l h)) → cutL len lo hi fun l h => K (f l h) ∧ cutL len lo hi fun l' h' => f l' h' = f l h := by
    intro len f h
    obtain ⟨l, h', h1, h2⟩ := cutL_at h
    exact h2 _ ⟨h1, h2 _ rfl⟩
  cases x with
  | ms id sz off len => exact key h
  | bs sz es => exact key h
  | cp sz es => exact key h
  | d y =>
    cases y with
    | v z =>
      simp only [cutA] at h ⊢
      unfold cutV at h ⊢
      split at h
      · exact ⟨h.1, by obtain ⟨l, h', h1, h2⟩ := cutL_at h.2; exact h2 _ ⟨h1, h.1, h2 _ rfl⟩⟩
      · exact key h
      · exact h.elim
    | sl sz es => exact key h
    | rp cs => exact h.elim
  | _ => exact h.elim
theorem binA_both {op : BinOp} {x y : AV} {K : AV → Prop} (h : binA op x y K) : binA op x y fun v => K v ∧ binA op x y fun v' => v' = v := by
  revert h
  unfold binA
  split
  · intro ⟨h0, h⟩
    refine ⟨h0, ?_⟩
    cases op <;> first | exact ⟨h.1, h.2, h0, h.1, rfl⟩ | (obtain ⟨v, q1, q2⟩ := h; exact ⟨v, q1, q2, h0, v, q1, rfl⟩)
  · intro h
    cases op <;> first | exact ⟨h.1, h.2, h.1, rfl⟩ | (obtain ⟨v, q1, q2⟩ := h; exact ⟨v, q1, q2, v, q1, rfl⟩)
  · exact id
theorem eqA_both {et : TypeId → Bool} {t : TypeId} {i : TI} {neq : Bool} {x y : AV} {K : AV → Prop} (h : eqA et t i neq x y K) : eqA et t i neq x y fun v => K v ∧ eqA et t i neq x y fun v' => v' = v := by
  revert h
  unfold eqA
  split
  · rintro ⟨p, q, rfl, rfl, h⟩; exact ⟨p, q, rfl, rfl, h, p, q, rfl, rfl, rfl⟩
  · rintro ⟨rfl, h⟩
    refine ⟨rfl, ?_⟩
    revert h
    unfold nilA
    split <;> intro h <;> first | exact ⟨h, rfl, rfl⟩ | exact ⟨h.1, h.2, rfl, h.1, rfl⟩ | exact h
  · rintro ⟨he, cs, ds, xs, ys, h1, h2, h3, h4, h5, h6, h7, h8, hK⟩
    exact ⟨he, cs, ds, xs, ys, h1, h2, h3, h4, h5, h6, h7, h8, hK, he, cs, ds, xs, ys, h1, h2, h3, h4, h5, h6, h7, h8, rfl⟩
  · exact id
theorem make_es (zs : List Value) (m : Nat) (hz : zs ≠ []) (hone : ∀ z ∈ zs, z.oneCell' = true) : RepEs (FF F0 ι) w (fun o y => ((Array.range (m * zs.length)).map fun j => zs.toArray[j % zs.toArray.size]!)[o]? = some y) zs.length (List.replicate m (zs.map .v)) 0 := by
  have hpos : 0 < zs.length := List.length_pos_iff.2 hz
  have gen : ∀ k, k ≤ m → RepEs (FF F0 ι) w (fun o y => ((Array.range (m * zs.length)).map fun j => zs.toArray[j % zs.toArray.size]!)[o]? = some y) zs.length (List.replicate k (zs.map .v)) ((m - k) * zs.length) := by
    intro k
    induction k with
    | zero => intro _; trivial
    | succ k ih =>
      intro hk
      have h1 := ih (by omega)
      refine ⟨by simp, ?_, by rw [show (m - (k + 1)) * zs.length + zs.length = (m - k) * zs.length by rw [show m - k = (m - (k + 1)) + 1 by omega, Nat.add_mul, Nat.one_mul]]; exact h1⟩
      have cs : ∀ (l : List Value) (j : Nat), zs.drop j = l → RepCs (FF F0 ι) w (fun o y => ((Array.range (m * zs.length)).map fun j => zs.toArray[j % zs.toArray.size]!)[o]? = some y) (l.map .v) ((m - (k + 1)) * zs.length + j) := by
        intro l
        induction l with
        | nil => intro j _; trivial
        | cons z r ih2 =>
          intro j hj
          have hjl : j < zs.length := by
            rcases Nat.lt_or_ge j zs.length with h | h
            · exact h
            · rw [List.drop_eq_nil_of_le h] at hj; cases hj
          have hz : zs[j]? = some z := by
            have := congrArg List.head? hj
            simpa [List.head?_drop] using this
          refine ⟨⟨hone z (List.mem_of_getElem? hz), z, ?_, rfl⟩, ih2 (j + 1) (by rw [← List.drop_drop, hj]; rfl)⟩
          have hlt : (m - (k + 1)) * zs.length + j < m * zs.length := by
            have : (m - (k + 1)) * zs.length + zs.length ≤ m * zs.length := by
              rw [← Nat.succ_mul]; exact Nat.mul_le_mul_right _ (by omega)
            omega
          have hmod : ((m - (k + 1)) * zs.length + j) % zs.length = j := by
            rw [Nat.mul_comm, Nat.mul_add_mod, Nat.mod_eq_of_lt hjl]
          simp only [Array.getElem?_map, Array.getElem?_range, hlt, if_true, Option.map_some, List.size_toArray, hmod]
          simp [hz]
      exact cs zs 0 rfl
  have := gen m (Nat.le_refl _)
  simpa using this

set_option maxHeartbeats 1000000 in
theorem calm_sound {tt : TypeId → Option TI} {et : TypeId → Bool} (htt : TOK P tt) (hett : ETOK P tt et) (hc : Core n base w0 F0 ι full ev a w) {o : Oper} (hd : ∀ d, o.dst = some d → d < n) (hf : makes o = true → ∀ d, o.dst = some d → ι d = none)
    {K : AV → Option Ob → Prop} (h : calm P tt et o (evO ev) full K) :
    ∃ x ob, K x ob ∧ calm P tt et o (evO ev) full (fun x' ob' => x' = x ∧ ob' = ob) ∧
      ∀ (next : Act → World → Prop) (Q : Exit → Act → World → Prop), (∀ a' w', After n base w0 F0 ι full ev o.dst x ob a' w' → next a' w') → o.wp P a w next Q := by
  unfold makes at hf
  unfold calm at h ⊢
  cases ho : o.op with
  | move x =>
    simp only [ho] at h hf ⊢
    exact ⟨_, _, h, ⟨rfl, rfl⟩, fun next Q hn => fin_val hc hd (s := pure (a.eval x)) (by simp [execOp, ho]) (by simp) (hc.evO x) hn⟩
  | assign x =>
    simp only [ho] at h hf ⊢
    exact ⟨_, _, h, ⟨rfl, rfl⟩, fun next Q hn => fin_val hc hd (s := pure (a.eval x)) (by simp [execOp, ho]) (by simp) (hc.evO x) hn⟩
  | pick c x y =>
    simp only [ho] at h hf ⊢
    obtain ⟨q, h1, h2⟩ := h
    have hq := hc.evO c
    rw [h1] at hq
    obtain hq : a.eval c = .bool q := hq
    refine ⟨_, _, h2, ⟨q, h1, rfl, rfl⟩, fun next Q hn => fin_val hc hd (s := do pure (if ← asBool (a.eval c) then a.eval x else a.eval y)) (u := if q then a.eval x else a.eval y) (by simp [execOp, ho]) (by simp [hq, asBool]) ?_ hn⟩
    cases q
    · exact hc.evO y
    · exact hc.evO x
  | box t x =>
    simp only [ho] at h hf ⊢
    obtain ⟨cs, d, h1, h2, h3⟩ := h
    obtain ⟨us, e1, e2, _⟩ := AV.cells_sound (hc.evO x) h1
    refine ⟨_, _, h3, ⟨cs, d, h1, h2, rfl, rfl⟩, fun next Q hn => ?_⟩
    refine fin_new hc h2 (hd d h2) (hf trivial d h2) (s := Instr.box t (a.eval x)) (c := us.toArray) (T := t) (u := .pointer (some ⟨w.heap.size, 0, none⟩)) (by simp [execOp, ho]) ?_ (by simpa [ObNew] using e2) (x := .pt d 0) ⟨w.heap.size, by simp [upd], rfl⟩ hn
    simp [Instr.box, newVar, newRow, newObj, Sem.run, e1]
  | alloc t =>
    simp only [ho] at h hf ⊢
    obtain ⟨i, d, h1, h2, h3⟩ := h
    have ht := htt _ _ h1
    refine ⟨_, _, h3, ⟨i, d, h1, h2, rfl, rfl⟩, fun next Q hn => ?_⟩
    have hz : i.zero.cells = i.zeros.toArray := by
      cases i with
      | sc b z => have := ht.2.1; cases z <;> first | rfl | cases this
      | _ => rfl
    refine fin_new hc h2 (hd d h2) (hf trivial d h2) (s := Instr.alloc t true (.tuple #[])) (c := i.zeros.toArray) (T := t) (u := .pointer (some ⟨w.heap.size, 0, none⟩)) (by simp [execOp, ho]) ?_ (by simpa [ObNew] using zeros_rep _) (x := .pt d 0) ⟨w.heap.size, by simp [upd], rfl⟩ hn
    simp [Instr.alloc, run_zeroValue_tok ht, newVar, newRow, newObj, Sem.run, hz]
  | load t x =>
    simp only [ho] at h hf ⊢
    obtain ⟨i, v, h1, h2, h3⟩ := h
    obtain ⟨u, e1, e2⟩ := loadA_sound hc (htt _ _ h1) (hc.evO x) h2
    exact ⟨_, _, h3, ⟨i, v, h1, h2, rfl, rfl⟩, fun next Q hn => fin_val hc hd (s := Instr.loadAt t (a.eval x)) (by simp [execOp, ho]) e1 e2 hn⟩
  | fieldAddr t x f =>
    simp only [ho] at h hf ⊢
    obtain ⟨i, ⟨off, fi⟩, v, h1, h2, h3, h4⟩ := h
    obtain ⟨u, e1, e2⟩ := fieldAddrA_sound htt (htt _ _ h1) h2 (hc.evO x) h3
    exact ⟨_, _, h4, ⟨i, _, v, h1, h2, h3, rfl, rfl⟩, fun next Q hn => fin_val hc hd (s := Instr.fieldAt t (a.eval x) f) (by simp [execOp, ho]) e1 e2 hn⟩
  | field t x f =>
    simp only [ho] at h hf ⊢
    obtain ⟨i, ⟨off, fi⟩, cs, v, h1, h2, h3, h4, h5⟩ := h
    have hx := hc.evO x
    rw [h3] at hx
    obtain ⟨u, e1, e2⟩ := partA_sound htt (htt _ _ h1) h2 hx h4
    exact ⟨_, _, h5, ⟨i, _, cs, v, h1, h2, h3, h4, rfl, rfl⟩, fun next Q hn => fin_val hc hd (s := Instr.field t (a.eval x) f) (by simp [execOp, ho]) e1 e2 hn⟩
  | indexAddr t x ix =>
    simp only [ho] at h hf ⊢
    obtain ⟨e, ei, k, m, h1, h2, h3, h4, h5⟩ := h
    obtain ⟨v, hK, u, e1, e2⟩ := idxA_sound (K := fun v => K v none ∧ idxA ei.size (evO ev x) m.toNat fun v' => v' = v) (htt _ _ h1).2 (htt _ _ h2) h4 (hc.evO x) (by
      revert h5; unfold idxA; split <;> intro h <;> first | exact ⟨h.1, h.2.1, h.2.2, h.1, h.2.1, rfl⟩ | (obtain ⟨q1, e, q2, q3⟩ := h; exact ⟨q1, e, q2, q3, q1, e, q2, rfl⟩) | exact h)
    have hi := hc.evO ix
    rw [h3] at hi
    obtain hi : a.eval ix = .int k m := hi
    exact ⟨_, _, hK.1, ⟨e, ei, k, m, h1, h2, h3, h4, by simpa using hK.2⟩, fun next Q hn => fin_val hc hd (s := Instr.indexAt t (a.eval x) (a.eval ix)) (by simp [execOp, ho]) (by rw [hi]; exact e1) e2 hn⟩
  | index t x ix =>
    simp only [ho] at h hf ⊢
    obtain ⟨k, m, h1, h3, h4, h5⟩ := h
    obtain ⟨v, hK, u, e1, e2⟩ := strIdxA_sound (K := fun v => K v none ∧ strIdxA (evO ev x) m.toNat fun v' => v' = v) (htt _ _ h1).2 h4 (hc.evO x) (by
      revert h5; unfold strIdxA; split <;> intro h <;> first | (obtain ⟨q1, q2⟩ := h; exact ⟨q1, q2, q1, rfl⟩) | exact h)
    have hi := hc.evO ix
    rw [h3] at hi
    obtain hi : a.eval ix = .int k m := hi
    exact ⟨_, _, hK.1, ⟨k, m, h1, h3, h4, by simpa using hK.2⟩, fun next Q hn => fin_val hc hd (s := Instr.index t (a.eval x) (a.eval ix)) (by simp [execOp, ho]) (by rw [hi]; exact e1) e2 hn⟩
  | slice t x lo hi mx =>
    simp only [ho] at h hf ⊢
    obtain ⟨i, h1, h2, h3⟩ := h
    have hlo : ∀ x, lo.map (evO ev) = some x → ∃ y, lo.map a.eval = some y ∧ RepA ι (FF F0 ι) base w x y := by
      intro x hx
      cases lo with
      | none => cases hx
      | some l => simp only [Option.map_some, Option.some.injEq] at hx; subst hx; exact ⟨_, rfl, hc.evO l⟩
    have hhi : ∀ x, hi.map (evO ev) = some x → ∃ y, hi.map a.eval = some y ∧ RepA ι (FF F0 ι) base w x y := by
      intro x hx
      cases hi with
      | none => cases hx
      | some l => simp only [Option.map_some, Option.some.injEq] at hx; subst hx; exact ⟨_, rfl, hc.evO l⟩
    have cutK : ∀ (x : AV) (lo hi : Option AV) (fl : Bool) (K K' : AV → Prop), cutA x lo hi fl K → (∀ v, K v → K v ∧ K' v) ∨ True := fun _ _ _ _ _ _ _ => .inr trivial
    have hlo' : lo.map (evO ev) = none → lo.map a.eval = none := by cases lo <;> simp
    have hhi' : hi.map (evO ev) = none → hi.map a.eval = none := by cases hi <;> simp
    cases mx with
    | none =>
      obtain ⟨v, hK, u, e1, e2⟩ := cutA_sound (htt _ _ h1) htt (vmx := none) h2 hlo hlo' hhi hhi' (.inl ⟨rfl, rfl⟩) (hc.evO x) (cutA_both h3)
      exact ⟨_, _, hK.1, ⟨i, h1, h2, by simpa using hK.2⟩, fun next Q hn => fin_val hc hd (s := Instr.sliceAt t (a.eval x) (lo.map a.eval) (hi.map a.eval) none) (by simp [execOp, ho]) e1 e2 hn⟩
    | some m =>
      obtain ⟨hh, k, q, rfl, q1, q2, h3⟩ := h3
      have r1 := hc.evO hh
      have r2 := hc.evO m
      rw [q1] at r1
      rw [q2] at r2
      obtain r1 : a.eval hh = .int k q := r1
      obtain r2 : a.eval m = .int k q := r2
      obtain ⟨v, hK, u, e1, e2⟩ := cutA_sound (htt _ _ h1) htt (vmx := some (a.eval m)) h2 hlo hlo' hhi hhi' (.inr ⟨rfl, by simp [r1, r2], by simp⟩) (hc.evO x) (cutA_both h3)
      exact ⟨_, _, hK.1, ⟨i, h1, h2, hh, k, q, rfl, q1, q2, by simpa using hK.2⟩, fun next Q hn => fin_val hc hd (s := Instr.sliceAt t (a.eval x) (lo.map a.eval) ((some hh).map a.eval) (some (a.eval m))) (by simp [execOp, ho]) e1 e2 hn⟩
  | binOp op t x y yt =>
    simp only [ho] at h hf ⊢
    rcases h with h | ⟨i, neq, h1, h2, h3⟩
    · obtain ⟨v, hK, u, e1, e2⟩ := binA_sound (op := op) (t := t) (ox := x) (oy := y) (hc.evO x) (hc.evO y) (binA_both h)
      exact ⟨_, _, hK.1, .inl (by simpa using hK.2), fun next Q hn => fin_val hc hd (s := do eqGuard op t x y (a.eval x) (a.eval y); binOp op t (a.eval x) (a.eval y)) (by simp [execOp, ho]) e1 e2 hn⟩
    · obtain ⟨v, hK, u, e1, e2⟩ := eqA_sound hett h1 (htt _ _ h1) h2 (ox := x) (oy := y) (hc.evO x) (hc.evO y) (eqA_both h3)
      exact ⟨_, _, hK.1, .inr ⟨i, neq, h1, h2, by simpa using hK.2⟩, fun next Q hn => fin_val hc hd (s := do eqGuard op t x y (a.eval x) (a.eval y); binOp op t (a.eval x) (a.eval y)) (by simp [execOp, ho]) e1 e2 hn⟩
  | unOp op t x =>
    simp only [ho] at h hf ⊢
    have hx := hc.evO x
    unfold unA at h ⊢
    split at h
    · rename_i b e
      rw [e] at hx
      obtain hx : a.eval x = .bool b := hx
      exact ⟨_, _, h, by simp [e], fun next Q hn => fin_val hc hd (s := Op.unary .not (a.eval x)) (u := .bool (!b)) (by simp [execOp, ho]) (by simp [hx, Op.unary]) (repv _) hn⟩
    · rename_i k m e
      rw [e] at hx
      obtain hx : a.eval x = .int k m := hx
      exact ⟨_, _, h, by simp [e], fun next Q hn => fin_val hc hd (s := Op.unary .neg (a.eval x)) (u := .int k (k.wrap (0 - m))) (by simp [execOp, ho]) (by simp [hx, Op.unary, Op.intArith]) (repv _) hn⟩
    · exact h.elim
  | convert s t x =>
    simp only [ho] at h hf ⊢
    obtain ⟨i, k, k', m, q, h1, h2, h3, h4⟩ := h
    have hx := hc.evO x
    rw [h3] at hx
    obtain hx : a.eval x = .int k' m := hx
    exact ⟨_, _, h4, ⟨i, k, k', m, q, h1, h2, h3, rfl, rfl⟩, fun next Q hn => fin_val hc hd (s := convert s t (a.eval x)) (u := .int k (k.wrap m)) (by simp [execOp, ho]) (by rw [hx]; exact convert_run htt h1 h2) (repv _) hn⟩
  | build t parts =>
    simp only [ho] at h hf ⊢
    obtain ⟨sz, b, fs, zs, out, h1, h2, h3, h4⟩ := h
    obtain ⟨u, e1, e2⟩ := buildA_sound htt (htt _ _ h1) h2 (pv := parts.map fun p => (p.1, a.eval p.2)) (by simpa using parts_rep hc parts.toList) h3
    exact ⟨_, _, h4, ⟨sz, b, fs, zs, out, h1, h2, h3, rfl, rfl⟩, fun next Q hn => fin_val hc hd (s := Instr.build t (parts.map fun p => (p.1, a.eval p.2))) (by simp [execOp, ho]) e1 e2 hn⟩
  | makeFunc fn first caps =>
    simp only [ho] at h hf ⊢
    obtain ⟨f, rfl, rfl, h3⟩ := h
    exact ⟨_, _, h3, ⟨f, rfl, rfl, rfl, rfl⟩, fun next Q hn => fin_val hc hd (s := Instr.makeFunc (.func f) #[] (caps.map a.eval)) (u := .func (.func f) #[] (caps.map a.eval)) (x := .cl f (caps.toList.map (evO ev))) (by simp [execOp, ho]) (by simp [Instr.makeFunc]) ⟨caps.toList.map a.eval, by rw [← Array.toList_map, Array.toArray_toList], evs_rep hc _⟩ hn⟩
  | nilCheck x =>
    simp only [ho] at h hf ⊢
    obtain ⟨h1, h2⟩ := h
    have hx := hc.evO x
    refine ⟨_, _, h2, ⟨h1, rfl, rfl⟩, fun next Q hn => fin_val hc hd (s := pure (a.eval x)) (u := a.eval x) ?_ (by simp) hx hn⟩
    simp only [execOp, ho]
    split at h1
    · rename_i e; rw [e] at hx; obtain ⟨b, _, e2⟩ := hx; rw [e2]; rfl
    · rename_i e; rw [e] at hx; obtain ⟨b, _, e2⟩ := hx; rw [e2]; rfl
    · rename_i e; rw [e] at hx; obtain ⟨b, _, e2, _⟩ := hx; rw [e2]; rfl
    · rename_i e; rw [e] at hx; obtain ⟨b, _, e2, _⟩ := hx; rw [e2]; rfl
    · rename_i e; rw [e] at hx; obtain ⟨b, e2, _⟩ := hx; rw [e2]; rfl
    · exact h1.elim
  | extract x i =>
    simp only [ho] at h hf ⊢
    obtain ⟨vs, v, h1, h2, h3⟩ := h
    have hx := hc.evO x
    rw [h1] at hx
    obtain ⟨us, e1, e2⟩ := hx
    obtain ⟨u, e3, e4⟩ := e2.at _ _ h2
    exact ⟨_, _, h3, ⟨vs, v, h1, h2, rfl, rfl⟩, fun next Q hn => fin_val hc hd (s := Instr.extract (a.eval x) i) (u := u) (by simp [execOp, ho]) (by rw [e1]; simp [Instr.extract, e3]) e4 hn⟩
  | buildSlice t len parts =>
    simp only [ho] at h hf ⊢
    obtain ⟨e, ei, es, d, h1, h2, h3, h4, h5, h6, h7⟩ := h
    have hu : P.underlying t = some (.slice e) := (htt _ _ h1).2
    have hei := htt _ _ h2
    have hps := parts_rep hc parts.toList
    obtain ⟨arr, f1, f2, _, f4, f5⟩ := fill_ordered ei.size _ _ 0 ((Array.range (len * ei.size)).map fun i => (if len * ei.size = 0 then #[] else ei.zero.cells)[i % (if len * ei.size = 0 then #[] else ei.zero.cells).size]!) es hps h6 (by simp [h4])
    simp only [List.length_map, h4] at f4
    simp only [Nat.zero_mul] at f5
    simp only [Array.size_map, Array.size_range] at f2
    refine ⟨_, _, h7, ⟨e, ei, es, d, h1, h2, h3, h4, h5, h6, rfl, rfl⟩, fun next Q hn => ?_⟩
    refine fin_new hc h3 (hd d h3) (hf trivial d h3) (s := Instr.buildSlice t len (parts.map fun p => (p.1, a.eval p.2))) (c := arr) (T := e) (u := .slice (some ⟨w.heap.size, 0, none⟩) len len) (ob := .arr ei.size es) (by simp [execOp, ho]) ?_ ⟨f5, by rw [f4, f2]; exact Nat.le_refl _⟩
      (x := .ms d ei.size 0 len) (.inl ⟨w.heap.size, len, by simp [upd], by simp, Nat.le_refl _, arr, e, heap_alloc_new w _, by rw [f2]; simp⟩) hn
    have hpt : (parts.map fun p => (p.1, a.eval p.2)).toList = parts.toList.map fun p => (p.1, a.eval p.2) := by simp
    have hno : ¬ len * ei.size > 2 ^ 24 := by simp; omega
    by_cases e0 : len * ei.size = 0
    · simp only [if_pos e0] at f1
      simp only [Instr.buildSlice, Sem.run_bind, run_underlying hu, Result.andThen_ok, run_sizeOf_tok hei, if_neg hno, if_pos e0, Sem.run_pure, hpt, f1]
      simp [newRow, newObj, Sem.run]
    · simp only [if_neg e0] at f1
      simp only [Instr.buildSlice, Sem.run_bind, run_underlying hu, Result.andThen_ok, run_sizeOf_tok hei, if_neg hno, if_neg e0, Sem.run_pure, run_zeroValue_tok hei, hpt, f1]
      simp [newRow, newObj, Sem.run]
  | makeSlice t l c =>
    simp only [ho] at h hf ⊢
    obtain ⟨e, ei, k, k', m, d, h1, h2, h3, h4, h5, h6, h7, h8, h9, hK⟩ := h
    have hu : P.underlying t = some (.slice e) := (htt _ _ h1).2
    have hei := htt _ _ h2
    have hl := hc.evO l
    rw [h4] at hl
    obtain hl : a.eval l = .int k m := hl
    have hcp := hc.evO c
    rw [h5] at hcp
    obtain hcp : a.eval c = .int k' m := hcp
    have hz0 : ei.zero.cells = ei.zeros.toArray := by
      cases ei with
      | sc b z => have := hei.2.1; cases z <;> first | rfl | cases this
      | _ => rfl
    have hzl : ei.zeros.length = ei.size := by
      cases ei with
      | st n b fs z => exact hei.2.1
      | _ => rfl
    have hzne : ei.zeros ≠ [] := by intro e; rw [e] at hzl; simp at hzl; omega
    have hz1 : ∀ z ∈ ei.zeros, z.oneCell' = true := by
      cases ei with
      | st n b fs z => have := hei.2.2.1; rw [List.all_eq_true] at this; exact this
      | sc b z => have := hei.2.1; simpa [TI.zeros, TI.zero] using this
      | _ => simp [TI.zeros, TI.zero, Value.oneCell']
    have hes := make_es (F0 := F0) (ι := ι) (w := w) ei.zeros m.toNat hzne hz1
    rw [hzl] at hes
    refine ⟨_, _, hK, ⟨e, ei, k, k', m, d, h1, h2, h3, h4, h5, h6, h7, h8, h9, rfl, rfl⟩, fun next Q hn => ?_⟩
    refine fin_new hc h3 (hd d h3) (hf trivial d h3) (s := Instr.makeSlice t (a.eval l) (a.eval c)) (c := (Array.range (m.toNat * ei.size)).map fun j => ei.zeros.toArray[j % ei.zeros.toArray.size]!) (T := e) (u := .slice (some ⟨w.heap.size, 0, none⟩) m.toNat m.toNat) (ob := .arr ei.size (List.replicate m.toNat (ei.zeros.map .v))) (by simp [execOp, ho]) ?_ ⟨hes, by simp⟩
      (x := .ms d ei.size 0 m.toNat) (.inl ⟨w.heap.size, m.toNat, by simp [upd], by simp, Nat.le_refl _, _, e, heap_alloc_new w _, by simp⟩) hn
    obtain ⟨x, ti1, ti2, ti3, ti4⟩ := run_typeInfo_tok hei w
    have hw : IntKind.i64.wrap m = m := IntWalk.i64_in m (by omega)
    have hb : (ei.bytes : Int) * m ≤ 140737488355328 := by rw [Int.mul_comm]; exact h7
    have c1 : ¬ (m < 0) := by omega
    have c2 : ¬ ((x.bytes : Int) * m > 2 ^ 48) := by rw [ti4]; omega
    have c3 : ¬ (m.toNat * x.bytes > roomBytes) := by
      have : ((m.toNat * x.bytes : Nat) : Int) = m * ei.bytes := by rw [ti4, Int.natCast_mul, Int.toNat_of_nonneg h6]
      simp only [roomBytes]
      omega
    simp only [hl, hcp, Instr.makeSlice, Sem.run_bind, run_underlying hu, Result.andThen_ok, asInt, asIntOf, Sem.run_pure, ti1, hw]
    simp only [c1, c2, decide_false, Bool.or_false, Bool.false_eq_true, if_false, Int.lt_irrefl, gt_iff_lt, askRoom]
    have c3' : ¬ roomBytes < m.toNat * x.bytes := c3
    simp only [if_neg c3', Sem.run_bind, Sem.run_pure, Result.andThen_ok, run_sizeOf_tok hei]
    by_cases e0 : m.toNat * ei.size = 0
    · have er : Array.range 0 = #[] := rfl
      simp only [if_pos e0, e0, er]
      simp [newRow, newObj, Sem.run]
    · simp only [if_neg e0, Sem.run_bind, run_zeroValue_tok hei, Result.andThen_ok, hz0]
      simp [newRow, newObj, Sem.run]
  | call c =>
    simp only [ho] at h hf ⊢
    cases hcal : c.callee with
    | value f =>
      simp only [hcal] at h ⊢
      obtain ⟨g, caps, xs, args, r, h1, h2, h3, h4, h5⟩ := h
      refine ⟨_, _, h5, ⟨g, caps, xs, args, r, h1, h2, h3, h4, rfl, rfl⟩, fun next Q hn => ?_⟩
      have hfv := hc.evO f
      rw [h1] at hfv
      obtain ⟨vc, e1, e2⟩ := hfv
      have hargs := passL_sound hc _ _ _ h2 ((evs_rep hc c.args.toList).append e2)
      refine fin_call hc hd h4 h3 hargs ?_ hn
      have hen := run_enter (w := w) (args := (c.args.toList.map a.eval ++ vc).toArray) h4.1
      simp only [execOp, ho, Sem.run_bind, resolve, hcal, e1, Deferred.ofValue, Sem.run_pure, Result.andThen_ok, invoke]
      have : (#[] ++ c.args.map a.eval ++ vc.toArray) = (c.args.toList.map a.eval ++ vc).toArray := by
        rw [← List.append_toArray, ← Array.toList_map, Array.toArray_toList, Array.empty_append]
      rw [this]
      exact hen
    | builtin b =>
      simp only [hcal] at h ⊢
      cases b with
      | len =>
        obtain ⟨t, x, i, h1, h2, h3, h4, h5⟩ := h
        obtain ⟨m, ⟨hK, hK'⟩, e1⟩ := lenA_sound (K := fun m => K (.d (.v (.int .i64 m))) none ∧ lenA (evO ev x) fun m' => m' = m) (htt _ _ h3) h4 (hc.evO x) (by
          revert h5; unfold lenA; split <;> intro h <;> first | exact ⟨h, rfl⟩ | exact h) o.type
        refine ⟨_, _, hK, ⟨t, x, i, h1, h2, h3, h4, ?_⟩, fun next Q hn => fin_val hc hd (s := Builtin.len_ c.argTypes o.type #[a.eval x]) (by simp [execOp, ho, resolve, hcal, h2, invoke, builtin]) (by rw [h1]; exact e1) (repv _) hn⟩
        revert hK'
        unfold lenA
        split <;> intro h <;> first | (subst h; exact ⟨rfl, rfl⟩) | exact h
      | min =>
        obtain ⟨x, y, k, m, k', m', h1, h2, h3, rfl, h5⟩ := h
        have hx := hc.evO x
        rw [h2] at hx
        obtain hx : a.eval x = .int k m := hx
        have hy := hc.evO y
        rw [h3] at hy
        obtain hy : a.eval y = .int k m' := hy
        exact ⟨_, _, h5, ⟨x, y, k, m, k, m', h1, h2, h3, rfl, rfl, rfl⟩, fun next Q hn => fin_val hc hd (s := Builtin.min_ c.argTypes o.type #[.int k m, .int k m']) (by simp [execOp, ho, resolve, hcal, h1, hx, hy, invoke, builtin]) (run_min2 _ _ _ _ _) (repv _) hn⟩
      | max =>
        obtain ⟨x, y, k, m, k', m', h1, h2, h3, rfl, h5⟩ := h
        have hx := hc.evO x
        rw [h2] at hx
        obtain hx : a.eval x = .int k m := hx
        have hy := hc.evO y
        rw [h3] at hy
        obtain hy : a.eval y = .int k m' := hy
        exact ⟨_, _, h5, ⟨x, y, k, m, k, m', h1, h2, h3, rfl, rfl, rfl⟩, fun next Q hn => fin_val hc hd (s := Builtin.max_ c.argTypes o.type #[.int k m, .int k m']) (by simp [execOp, ho, resolve, hcal, h1, hx, hy, invoke, builtin]) (run_max2 _ _ _ _ _) (repv _) hn⟩
      | _ => exact h.elim
    | invoke r nm => simp only [hcal] at h
  | _ => simp only [ho] at h
end
end Go.Proofs.Ab
