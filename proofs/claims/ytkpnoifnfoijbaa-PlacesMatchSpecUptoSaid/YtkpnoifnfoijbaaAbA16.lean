/- A part of the proof of the law: it holds for all states of the abstract kind told in the first of these texts; no condition besides those its statements name. -/
import Derived.Test.YtkpnoifnfoijbaaAbA15
namespace Go.Proofs.Ab
open Go Go.RowKit
set_option linter.unusedVariables false
set_option linter.unusedSimpArgs false

/-! ### A function -/
mutual
/-- Data through and through. -/
def dataA : AV → Prop
  | .un => True
  | .d _ => True
  | .ag cs => dataL cs
  | .tp cs => dataL cs
  | .bs .. => False
  | .cp .. => False
  | .bp .. => False
  | .pt .. => False
  | .pe .. => False
  | .ms .. => False
  | .cl .. => False
def dataL : List AV → Prop
  | [] => True
  | x :: r => dataA x ∧ dataL r
end
section
variable {ι ι' : Nat → Option Nat} {F F' : Nat → Nat → Prop} {base base' : Nat} {w : World}
mutual
theorem dataA_rep (hF : ∀ b o, ¬ F b o → ¬ F' b o) : ∀ (x : AV) (v : Value), dataA x → RepA ι F base w x v → RepA ι' F' base' w x v
  | .un, _, _, _ => trivial
  | .d x, v, _, h => RepD.mono (fun b o y hp => ⟨hp.1, hF _ _ hp.2⟩) x v h
  | .ag cs, v, hd, h => by obtain ⟨vs, e, h⟩ := h; exact ⟨vs, e, dataL_rep hF cs vs hd h⟩
  | .tp cs, v, hd, h => by obtain ⟨vs, e, h⟩ := h; exact ⟨vs, e, dataL_rep hF cs vs hd h⟩
  | .bs .., _, hd, _ => hd.elim
  | .cp .., _, hd, _ => hd.elim
  | .bp .., _, hd, _ => hd.elim
  | .pt .., _, hd, _ => hd.elim
  | .pe .., _, hd, _ => hd.elim
  | .ms .., _, hd, _ => hd.elim
  | .cl .., _, hd, _ => hd.elim
theorem dataL_rep (hF : ∀ b o, ¬ F b o → ¬ F' b o) : ∀ (l : List AV) (vs : List Value), dataL l → RepL ι F base w l vs → RepL ι' F' base' w l vs
  | [], _, _, h => h
  | x :: r, vs, hd, h => by
    obtain ⟨y, ys, e, h1, h2⟩ := h
    exact ⟨y, ys, e, dataA_rep hF x y hd.1 h1, dataL_rep hF r ys hd.2 h2⟩
end
end
def resV (tt : TypeId → Option TI) (s : St) : ResultVar → AV → Prop
  | .tmp t, r => s.get t = r
  | .cell a t, r => ∃ i, tt t = some i ∧ loadA (lk s.ob) i (s.get a) = some r
def resVs (tt : TypeId → Option TI) (s : St) : List ResultVar → List AV → Prop
  | [], l => l = []
  | v :: vs, l => ∃ r rs, l = r :: rs ∧ resV tt s v r ∧ resVs tt s vs rs
def resA (tt : TypeId → Option TI) (s : St) (vs : List ResultVar) (r : AV) : Prop :=
  match vs with
  | [v] => resV tt s v r
  | vs => ∃ rs, r = .tp rs ∧ resVs tt s vs rs
def postA (tt : TypeId → Option TI) (fn : Func) (r : AV) : Exit → St → Prop
  | .normal, s => resA tt s fn.results.toList r
  | .ret, s => resA tt s fn.results.toList r
  | _, _ => False
def numbered : Nat → List AV → List (Nat × AV)
  | _, [] => []
  | k, x :: r => (k, x) :: numbered (k + 1) r
def start (nt : Nat) (args : List AV) : St := ⟨nt, numbered 0 args, []⟩
theorem lk_numbered (l : List AV) (k t : Nat) : lk (numbered k l) t = if k ≤ t then l[t - k]? else none := by
  induction l generalizing k with
  | nil => simp [numbered, lk]
  | cons x r ih =>
    simp only [numbered, lk, ih]
    by_cases h : k = t
    · subst h; simp
    · rw [if_neg h]
      by_cases h2 : k ≤ t
      · rw [if_pos h2, if_pos (by omega), show t - k = (t - (k + 1)) + 1 by omega]
        simp
      · rw [if_neg h2, if_neg (by omega)]

section
variable {P : Program} {tt : TypeId → Option TI} {base : Nat} {w0 : World} {F0 : Nat → Nat → Prop} {a : Act} {w : World} {s : St} {ι : Nat → Option Nat}
def resRun (tmps : Array Value) : ResultVar → Sem Value
  | .tmp t => pure (tmps.getD t undef)
  | .cell a t => do loadVar t (← asAddr (tmps.getD a undef))
theorem resV_sound (htt : TOK P tt) (hc : Core s.nt base w0 F0 ι (lk s.ob) s.get a w) {v : ResultVar} {r : AV} (h : resV tt s v r) : ∃ u, (resRun a.tmps v).run P w = .ok u w ∧ RepA ι (FF F0 ι) base w r u := by
  cases v with
  | tmp t =>
    obtain rfl := h
    exact ⟨_, by simp [resRun], hc.tms t⟩
  | cell p t =>
    obtain ⟨i, h1, h2⟩ := h
    obtain ⟨u, e1, e2⟩ := loadA_sound hc (htt _ _ h1) (hc.tms p) h2
    refine ⟨u, ?_, e2⟩
    have hp := hc.tms p
    have key : ∀ A, a.tmps.getD p undef = .pointer (some A) → (resRun a.tmps (.cell p t)).run P w = .ok u w := by
      intro A hA
      rw [hA] at e1
      simp only [resRun, hA, asAddr, Sem.run_bind, Sem.run_pure, Result.andThen_ok]
      simpa [Instr.loadAt, Instr.sureAddr] using e1
    revert hp h2
    generalize s.get p = q
    intro h2 hp
    cases q with
    | pt id off => obtain ⟨b, _, e⟩ := hp; exact key _ e
    | pe id sz k off => obtain ⟨b, _, e⟩ := hp; exact key _ e
    | bp cs => obtain ⟨b, o, e, _⟩ := hp; exact key _ e
    | d z =>
      cases z with
      | rp cs => obtain ⟨b, o, e, _⟩ := hp; exact key _ e
      | _ => simp [loadA] at h2
    | _ => simp [loadA] at h2
theorem resVs_sound (htt : TOK P tt) (hc : Core s.nt base w0 F0 ι (lk s.ob) s.get a w) : ∀ (vs : List ResultVar) (rs : List AV), resVs tt s vs rs → ∃ us, (vs.mapM (resRun a.tmps)).run P w = .ok us w ∧ RepL ι (FF F0 ι) base w rs us := by
  intro vs
  induction vs with
  | nil => intro rs h; obtain rfl := h; exact ⟨[], by simp, rfl⟩
  | cons v r ih =>
    intro rs h
    obtain ⟨x, xs, rfl, h1, h2⟩ := h
    obtain ⟨u, e1, e2⟩ := resV_sound htt hc h1
    obtain ⟨us, e3, e4⟩ := ih xs h2
    exact ⟨u :: us, by simp [List.mapM_cons, e1, e3], u, us, rfl, e2, e4⟩
theorem resA_sound (htt : TOK P tt) (hc : Core s.nt base w0 F0 ι (lk s.ob) s.get a w) {fn : Func} {r : AV} (h : resA tt s fn.results.toList r) : ∃ u, (results fn a.tmps).run P w = .ok u w ∧ RepA ι (FF F0 ι) base w r u := by
  have hm : ∀ us : List Value, (fn.results.toList.mapM (resRun a.tmps)).run P w = .ok us w → (fn.results.mapM (resRun a.tmps)).run P w = .ok us.toArray w := by
    intro us h
    rw [Array.mapM_eq_mapM_toList, Sem.run_map, h]
    rfl
  have hr : (results fn a.tmps) = (do let vs ← fn.results.mapM (resRun a.tmps); pure (if h : vs.size = 1 then vs[0] else .tuple vs)) := by
    unfold results
    congr 2
  rw [hr]
  unfold resA at h
  split at h
  · rename_i v hv
    obtain ⟨u, e1, e2⟩ := resV_sound htt hc h
    have := hm [u] (by rw [hv]; simp [List.mapM_cons, e1])
    refine ⟨u, ?_, e2⟩
    simp only [Sem.run_bind, this, Result.andThen_ok, Sem.run_pure]
    rfl
  · rename_i hv
    obtain ⟨rs, rfl, h⟩ := h
    obtain ⟨us, e1, e2⟩ := resVs_sound htt hc _ _ h
    have := hm us e1
    refine ⟨.tuple us.toArray, ?_, us, rfl, e2⟩
    simp only [Sem.run_bind, this, Result.andThen_ok, Sem.run_pure]
    have hlen : us.length = fn.results.toList.length := by
      rw [e2.length]
      have : ∀ (vs : List ResultVar) (rs : List AV), resVs tt s vs rs → rs.length = vs.length := by
        intro vs
        induction vs with
        | nil => intro rs h; obtain rfl := h; rfl
        | cons v r ih => intro rs h; obtain ⟨x, xs, rfl, _, h2⟩ := h; simp [ih xs h2]
      exact this _ _ h
    have hne : ¬ us.toArray.size = 1 := by
      simp only [List.size_toArray, hlen]
      intro h1
      match hq : fn.results.toList, h1 with
      | [v], _ => exact hv v hq
    rw [dif_neg hne]
theorem good_of (htt : TOK P tt) {f : FuncId} {fn : Func} {c : Code} {args : List AV} {r : AV} (hf : P.funcs[f]? = some fn) (hb : fn.body = some c) (hnm : (fn.name == "runtime.NumGoroutine") = false) (hn : args.length ≤ fn.ntmps) (hr : dataA r)
    (h : AW P c (start fn.ntmps args) (postA tt fn r)) : Good P f args r := by
  refine ⟨⟨fn, hf, hnm, by rw [hb]; rfl⟩, fun w F vs hF hvs => ?_⟩
  refine calls_of_wp hf hb ?_
  have hl := hvs.length
  have hst : Step none' F w.heap.size w none' (FF F none') w.heap.size w := {
    prot := fun b o x h => ⟨h.1, by rintro (h1 | ⟨i, h1⟩); exact h.2 h1; cases h1⟩
    rdb := fun b o x h => ⟨h.1, .inr (cell_lt h.1)⟩
    ids := fun i b h => by cases h
    room := fun i b n h _ => by cases h }
  have hrs : RS w.heap.size w F (start fn.ntmps args) { tmps := vs.toArray ++ Array.replicate (fn.ntmps - vs.toArray.size) undef, defers := [] } w := by
    refine ⟨none', {
      below := Below.refl _ _
      lowF := hF
      size := Nat.le_refl _
      inj := fun i j b h => by cases h
      low := fun i b h => by cases h
      obs := fun i b h => by cases h
      tms := fun t => ?_
      dfs := rfl
      nt := ?_ }, fun i o h => by cases h⟩
    · show RepA _ _ _ _ ((lk (numbered 0 args) t).getD .un) _
      rw [lk_numbered, if_pos (Nat.zero_le _), Nat.sub_zero]
      cases ht : args[t]? with
      | none => trivial
      | some x =>
        obtain ⟨y, e1, e2⟩ := hvs.at t x ht
        have hlt := (List.getElem?_eq_some_iff.1 e1).1
        have : (vs.toArray ++ Array.replicate (fn.ntmps - vs.toArray.size) undef).getD t undef = y := by
          rw [Array.getD_eq_getD_getElem?, Array.getElem?_append_left (by simpa using hlt)]
          simp [e1]
        rw [this]
        exact RepA.mono hst x y e2
    · show (vs.toArray ++ Array.replicate (fn.ntmps - vs.toArray.size) undef).size = fn.ntmps
      simp
      omega
  refine wp_mono (h _ _ _ _ _ hrs) ?_
  rintro e a' w' ⟨s', hq, ι, hc, hfull⟩
  have fin : resA tt s' fn.results.toList r → a'.defers = [] ∧ ∃ v, (results fn a'.tmps).run P w' = .ok v w' ∧ ∃ u, Ending.returned v = .returned u ∧ Below w.heap.size w w' ∧ RepA none' F 0 w' r u := by
    intro h
    obtain ⟨u, e1, e2⟩ := resA_sound htt hc h
    exact ⟨hc.dfs, u, e1, u, rfl, hc.below, dataA_rep (fun b o hb h => hb (.inl h)) r u hr e2⟩
  cases e with
  | normal => exact fin hq
  | ret => exact fin hq
  | _ => exact hq.elim
end
end Go.Proofs.Ab
