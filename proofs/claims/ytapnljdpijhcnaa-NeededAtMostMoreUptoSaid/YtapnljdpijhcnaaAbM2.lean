/- A part of the proof of the law: it holds for all states of the abstract kind told in the first of these texts; no condition besides those its statements name. -/
import Derived.Test.YtapnljdpijhcnaaAbM1
import Derived.IntWalk
import Derived.Deep.Slices
import Derived.ChangeArms
import Derived.Sort.Grow
import Derived.Lib.SlicesCompact
import Derived.Lib.RowBridge
namespace Go.Proofs.Ab
open Go Go.RowKit
set_option linter.unusedVariables false
set_option linter.unusedSimpArgs false

/-! ### A function -/
mutual
/-- Data through and through. -/
def dataA : AV → Prop
  | .un => True
  | .d _ => True
  | .ag cs => dataL cs
  | .tp cs => dataL cs
  | .bs .. => False
  | .cp .. => False
  | .bp .. => False
  | .pt .. => False
  | .pe .. => False
  | .ms .. => False
  | .cl .. => False
def dataL : List AV → Prop
  | [] => True
  | x :: r => dataA x ∧ dataL r
end
section
variable {ι ι' : Nat → Option Nat} {F F' : Nat → Nat → Prop} {base base' : Nat} {w : World}
mutual
theorem dataA_rep (hF : ∀ b o, ¬ F b o → ¬ F' b o) : ∀ (x : AV) (v : Value), dataA x → RepA ι F base w x v → RepA ι' F' base' w x v
  | .un, _, _, _ => trivial
  | .d x, v, _, h => RepD.mono (fun b o y hp => ⟨hp.1, hF _ _ hp.2⟩) x v h
  | .ag cs, v, hd, h => by obtain ⟨vs, e, h⟩ := h; exact ⟨vs, e, dataL_rep hF cs vs hd h⟩
  | .tp cs, v, hd, h => by obtain ⟨vs, e, h⟩ := h; exact ⟨vs, e, dataL_rep hF cs vs hd h⟩
  | .bs .., _, hd, _ => hd.elim
  | .cp .., _, hd, _ => hd.elim
  | .bp .., _, hd, _ => hd.elim
  | .pt .., _, hd, _ => hd.elim
  | .pe .., _, hd, _ => hd.elim
  | .ms .., _, hd, _ => hd.elim
  | .cl .., _, hd, _ => hd.elim
theorem dataL_rep (hF : ∀ b o, ¬ F b o → ¬ F' b o) : ∀ (l : List AV) (vs : List Value), dataL l → RepL ι F base w l vs → RepL ι' F' base' w l vs
  | [], _, _, h => h
  | x :: r, vs, hd, h => by
    obtain ⟨y, ys, e, h1, h2⟩ := h
    exact ⟨y, ys, e, dataA_rep hF x y hd.1 h1, dataL_rep hF r ys hd.2 h2⟩
end
end
def resV (tt : TypeId → Option TI) (s : St) : ResultVar → AV → Prop
  | .tmp t, r => s.get t = r
  | .cell a t, r => ∃ i, tt t = some i ∧ loadA (lk s.ob) i (s.get a) = some r
def resVs (tt : TypeId → Option TI) (s : St) : List ResultVar → List AV → Prop
  | [], l => l = []
  | v :: vs, l => ∃ r rs, l = r :: rs ∧ resV tt s v r ∧ resVs tt s vs rs
def resA (tt : TypeId → Option TI) (s : St) (vs : List ResultVar) (r : AV) : Prop :=
  match vs with
  | [v] => resV tt s v r
  | vs => ∃ rs, r = .tp rs ∧ resVs tt s vs rs
def postA (tt : TypeId → Option TI) (fn : Func) (r : AV) : Exit → St → Prop
  | .normal, s => resA tt s fn.results.toList r
  | .ret, s => resA tt s fn.results.toList r
  | _, _ => False
def numbered : Nat → List AV → List (Nat × AV)
  | _, [] => []
  | k, x :: r => (k, x) :: numbered (k + 1) r
def start (nt : Nat) (args : List AV) : St := ⟨nt, numbered 0 args, []⟩
theorem lk_numbered (l : List AV) (k t : Nat) : lk (numbered k l) t = if k ≤ t then l[t - k]? else none := by
  induction l generalizing k with
  | nil => simp [numbered, lk]
  | cons x r ih =>
    simp only [numbered, lk, ih]
    by_cases h : k = t
    · subst h; simp
    · rw [if_neg h]
      by_cases h2 : k ≤ t
      · rw [if_pos h2, if_pos (by omega), show t - k = (t - (k + 1)) + 1 by omega]
        simp
      · rw [if_neg h2, if_neg (by omega)]

section
variable {P : Program} {tt : TypeId → Option TI} {base : Nat} {w0 : World} {F0 : Nat → Nat → Prop} {a : Act} {w : World} {s : St} {ι : Nat → Option Nat}
def resRun (tmps : Array Value) : ResultVar → Sem Value
  | .tmp t => pure (tmps.getD t undef)
  | .cell a t => do loadVar t (← asAddr (tmps.getD a undef))
theorem resV_sound (htt : TOK P tt) (hc : Core s.nt base w0 F0 ι (lk s.ob) s.get a w) {v : ResultVar} {r : AV} (h : resV tt s v r) : ∃ u, (resRun a.tmps v).run P w = .ok u w ∧ RepA ι (FF F0 ι) base w r u := by
  cases v with
  | tmp t =>
    obtain rfl := h
    exact ⟨_, by simp [resRun], hc.tms t⟩
  | cell p t =>
    obtain ⟨i, h1, h2⟩ := h
    obtain ⟨u, e1, e2⟩ := loadA_sound hc (htt _ _ h1) (hc.tms p) h2
    refine ⟨u, ?_, e2⟩
    have hp := hc.tms p
    have key : ∀ A, a.tmps.getD p undef = .pointer (some A) → (resRun a.tmps (.cell p t)).run P w = .ok u w := by
      intro A hA
      rw [hA] at e1
      simp only [resRun, hA, asAddr, Sem.run_bind, Sem.run_pure, Result.andThen_ok]
      simpa [Instr.loadAt, Instr.sureAddr] using e1
    revert hp h2
    generalize s.get p = q
    intro h2 hp
    cases q with
    | pt id off => obtain ⟨b, _, e⟩ := hp; exact key _ e
    | pe id sz k off => obtain ⟨b, _, e⟩ := hp; exact key _ e
    | bp cs => obtain ⟨b, o, e, _⟩ := hp; exact key _ e
    | d z =>
      cases z with
      | rp cs => obtain ⟨b, o, e, _⟩ := hp; exact key _ e
      | _ => simp [loadA] at h2
    | _ => simp [loadA] at h2
theorem resVs_sound (htt : TOK P tt) (hc : Core s.nt base w0 F0 ι (lk s.ob) s.get a w) : ∀ (vs : List ResultVar) (rs : List AV), resVs tt s vs rs → ∃ us, (vs.mapM (resRun a.tmps)).run P w = .ok us w ∧ RepL ι (FF F0 ι) base w rs us := by
  intro vs
  induction vs with
  | nil => intro rs h; obtain rfl := h; exact ⟨[], by simp, rfl⟩
  | cons v r ih =>
    intro rs h
    obtain ⟨x, xs, rfl, h1, h2⟩ := h
    obtain ⟨u, e1, e2⟩ := resV_sound htt hc h1
    obtain ⟨us, e3, e4⟩ := ih xs h2
    exact ⟨u :: us, by simp [List.mapM_cons, e1, e3], u, us, rfl, e2, e4⟩
theorem resA_sound (htt : TOK P tt) (hc : Core s.nt base w0 F0 ι (lk s.ob) s.get a w) {fn : Func} {r : AV} (h : resA tt s fn.results.toList r) : ∃ u, (results fn a.tmps).run P w = .ok u w ∧ RepA ι (FF F0 ι) base w r u := by
  have hm : ∀ us : List Value, (fn.results.toList.mapM (resRun a.tmps)).run P w = .ok us w → (fn.results.mapM (resRun a.tmps)).run P w = .ok us.toArray w := by
    intro us h
    rw [Array.mapM_eq_mapM_toList, Sem.run_map, h]
    rfl
  have hr : (results fn a.tmps) = (do let vs ← fn.results.mapM (resRun a.tmps); pure (if h : vs.size = 1 then vs[0] else .tuple vs)) := by
    unfold results
    congr 2
  rw [hr]
  unfold resA at h
  split at h
  · rename_i v hv
    obtain ⟨u, e1, e2⟩ := resV_sound htt hc h
    have := hm [u] (by rw [hv]; simp [List.mapM_cons, e1])
    refine ⟨u, ?_, e2⟩
    simp only [Sem.run_bind, this, Result.andThen_ok, Sem.run_pure]
    rfl
  · rename_i hv
    obtain ⟨rs, rfl, h⟩ := h
    obtain ⟨us, e1, e2⟩ := resVs_sound htt hc _ _ h
    have := hm us e1
    refine ⟨.tuple us.toArray, ?_, us, rfl, e2⟩
    simp only [Sem.run_bind, this, Result.andThen_ok, Sem.run_pure]
    have hlen : us.length = fn.results.toList.length := by
      rw [e2.length]
      have : ∀ (vs : List ResultVar) (rs : List AV), resVs tt s vs rs → rs.length = vs.length := by
        intro vs
        induction vs with
        | nil => intro rs h; obtain rfl := h; rfl
        | cons v r ih => intro rs h; obtain ⟨x, xs, rfl, _, h2⟩ := h; simp [ih xs h2]
      exact this _ _ h
    have hne : ¬ us.toArray.size = 1 := by
      simp only [List.size_toArray, hlen]
      intro h1
      match hq : fn.results.toList, h1 with
      | [v], _ => exact hv v hq
    rw [dif_neg hne]
theorem good_of (htt : TOK P tt) {f : FuncId} {fn : Func} {c : Code} {args : List AV} {r : AV} (hf : P.funcs[f]? = some fn) (hb : fn.body = some c) (hnm : (fn.name == "runtime.NumGoroutine") = false) (hn : args.length ≤ fn.ntmps) (hr : dataA r)
    (h : AW P c (start fn.ntmps args) (postA tt fn r)) : Good P f args r := by
  refine ⟨⟨fn, hf, hnm, by rw [hb]; rfl⟩, fun w F vs hF hvs => ?_⟩
  refine calls_of_wp hf hb ?_
  have hl := hvs.length
  have hst : Step none' F w.heap.size w none' (FF F none') w.heap.size w := {
    prot := fun b o x h => ⟨h.1, by rintro (h1 | ⟨i, h1⟩); exact h.2 h1; cases h1⟩
    rdb := fun b o x h => ⟨h.1, .inr (cell_lt h.1)⟩
    ids := fun i b h => by cases h
    room := fun i b n h _ => by cases h }
  have hrs : RS w.heap.size w F (start fn.ntmps args) { tmps := vs.toArray ++ Array.replicate (fn.ntmps - vs.toArray.size) undef, defers := [] } w := by
    refine ⟨none', {
      below := Below.refl _ _
      lowF := hF
      size := Nat.le_refl _
      inj := fun i j b h => by cases h
      low := fun i b h => by cases h
      obs := fun i b h => by cases h
      tms := fun t => ?_
      dfs := rfl
      nt := ?_ }, fun i o h => by cases h⟩
    · show RepA _ _ _ _ ((lk (numbered 0 args) t).getD .un) _
      rw [lk_numbered, if_pos (Nat.zero_le _), Nat.sub_zero]
      cases ht : args[t]? with
      | none => trivial
      | some x =>
        obtain ⟨y, e1, e2⟩ := hvs.at t x ht
        have hlt := (List.getElem?_eq_some_iff.1 e1).1
        have : (vs.toArray ++ Array.replicate (fn.ntmps - vs.toArray.size) undef).getD t undef = y := by
          rw [Array.getD_eq_getD_getElem?, Array.getElem?_append_left (by simpa using hlt)]
          simp [e1]
        rw [this]
        exact RepA.mono hst x y e2
    · show (vs.toArray ++ Array.replicate (fn.ntmps - vs.toArray.size) undef).size = fn.ntmps
      simp
      omega
  refine wp_mono (h _ _ _ _ _ hrs) ?_
  rintro e a' w' ⟨s', hq, ι, hc, hfull⟩
  have fin : resA tt s' fn.results.toList r → a'.defers = [] ∧ ∃ v, (results fn a'.tmps).run P w' = .ok v w' ∧ ∃ u, Ending.returned v = .returned u ∧ Below w.heap.size w w' ∧ RepA none' F 0 w' r u := by
    intro h
    obtain ⟨u, e1, e2⟩ := resA_sound htt hc h
    exact ⟨hc.dfs, u, e1, u, rfl, hc.below, dataA_rep (fun b o hb h => hb (.inl h)) r u hr e2⟩
  cases e with
  | normal => exact fin hq
  | ret => exact fin hq
  | _ => exact hq.elim
end
end Go.Proofs.Ab

namespace Go.Proofs.Ab
open Go Go.RowKit
set_option linter.unusedVariables false
set_option linter.unusedSimpArgs false

/-! ### A region that draws its order -/
section
variable {P : Program} {tt : TypeId → Option TI} {et : TypeId → Bool}
theorem unA_both {op : UnOp} {x : AV} {K : AV → Prop} (h : unA op x K) : unA op x fun v => K v ∧ unA op x fun v' => v' = v := by
  revert h; unfold unA; split <;> intro h <;> first | exact ⟨h, rfl⟩ | exact h
theorem idxA_both {sz : Nat} {x : AV} {n : Nat} {K : AV → Prop} (h : idxA sz x n K) : ∃ v, K v ∧ idxA sz x n fun v' => v' = v := by
  revert h; unfold idxA; split <;> intro h <;> first | exact ⟨_, h.2.2, h.1, h.2.1, rfl⟩ | (obtain ⟨q1, e, q2, q3⟩ := h; exact ⟨_, q3, q1, e, q2, rfl⟩) | exact h.elim
theorem strIdxA_both {x : AV} {n : Nat} {K : AV → Prop} (h : strIdxA x n K) : ∃ v, K v ∧ strIdxA x n fun v' => v' = v := by
  revert h; unfold strIdxA; split <;> intro h <;> first | (obtain ⟨q1, q2⟩ := h; exact ⟨_, q2, q1, rfl⟩) | exact h.elim
theorem cutA_ex {x : AV} {lo hi : Option AV} {fl : Bool} {K : AV → Prop} (h : cutA x lo hi fl K) : ∃ v, K v ∧ cutA x lo hi fl fun v' => v' = v := by
  have key : ∀ {len : Nat} {f : Nat → Nat → AV}, (cutL len lo hi fun l h => K (f l h)) → ∃ v, K v ∧ cutL len lo hi fun l' h' => f l' h' = v := by
    intro len f h
    obtain ⟨l, h', h1, h2⟩ := cutL_at h
    exact ⟨_, h1, h2 _ rfl⟩
  cases x with
  | ms id sz off len => exact key h
  | bs sz es => exact key h
  | cp sz es => exact key h
  | d y =>
    cases y with
    | v z =>
      simp only [cutA] at h ⊢
      unfold cutV at h ⊢
      split at h
      · obtain ⟨v, h1, h2⟩ := key h.2; exact ⟨v, h1, h.1, h2⟩
      · exact key h
      · exact h.elim
    | sl sz es => exact key h
    | rp cs => exact h.elim
  | _ => exact h.elim
theorem binA_ex {op : BinOp} {x y : AV} {K : AV → Prop} (h : binA op x y K) : ∃ v, K v ∧ binA op x y fun v' => v' = v := by
  revert h
  unfold binA
  split
  · rintro ⟨h0, h⟩
    cases op <;> first | exact ⟨_, h.2, h0, h.1, rfl⟩ | (obtain ⟨v, q1, q2⟩ := h; exact ⟨_, q2, h0, v, q1, rfl⟩)
  · intro h
    cases op <;> first | exact ⟨_, h.2, h.1, rfl⟩ | (obtain ⟨v, q1, q2⟩ := h; exact ⟨_, q2, v, q1, rfl⟩)
  · exact fun h => h.elim
theorem eqA_ex {t : TypeId} {i : TI} {neq : Bool} {x y : AV} {K : AV → Prop} (h : eqA et t i neq x y K) : ∃ v, K v ∧ eqA et t i neq x y fun v' => v' = v := by
  revert h
  unfold eqA
  split
  · rintro ⟨p, q, rfl, rfl, h⟩; exact ⟨_, h, p, q, rfl, rfl, rfl⟩
  · rintro ⟨rfl, h⟩
    revert h
    unfold nilA
    split <;> intro h <;> first | exact ⟨_, h, rfl, rfl⟩ | exact ⟨_, h.2, rfl, h.1, rfl⟩ | exact h.elim
  · rintro ⟨he, cs, ds, xs, ys, h1, h2, h3, h4, h5, h6, h7, h8, hK⟩
    exact ⟨_, hK, he, cs, ds, xs, ys, h1, h2, h3, h4, h5, h6, h7, h8, rfl⟩
  · exact fun h => h.elim
theorem lenA_ex {x : AV} {K : Nat → Prop} (h : lenA x K) : ∃ m, K m ∧ lenA x fun m' => m' = m := by
  revert h; unfold lenA; split <;> intro h <;> first | exact ⟨_, h, rfl⟩ | exact h.elim
/-- A calm operation has one outcome. -/
theorem calm_ex {o : Oper} {ev : Operand → AV} {full : Nat → Option Ob} {K : AV → Option Ob → Prop} (h : calm P tt et o ev full K) : ∃ x ob, K x ob ∧ calm P tt et o ev full fun x' ob' => x' = x ∧ ob' = ob := by
  unfold calm at h ⊢
  cases ho : o.op <;> simp only [ho] at h ⊢
  case move => exact ⟨_, _, h, rfl, rfl⟩
  case assign => exact ⟨_, _, h, rfl, rfl⟩
  case pick => obtain ⟨q, h1, h2⟩ := h; exact ⟨_, _, h2, q, h1, rfl, rfl⟩
  case box => obtain ⟨a, b, h1, h2, h3⟩ := h; exact ⟨_, _, h3, a, b, h1, h2, rfl, rfl⟩
  case alloc => obtain ⟨a, b, h1, h2, h3⟩ := h; exact ⟨_, _, h3, a, b, h1, h2, rfl, rfl⟩
  case load => obtain ⟨a, b, h1, h2, h3⟩ := h; exact ⟨_, _, h3, a, b, h1, h2, rfl, rfl⟩
  case fieldAddr => obtain ⟨a, b, c, h1, h2, h3, h4⟩ := h; exact ⟨_, _, h4, a, b, c, h1, h2, h3, rfl, rfl⟩
  case field => obtain ⟨a, b, c, d, h1, h2, h3, h4, h5⟩ := h; exact ⟨_, _, h5, a, b, c, d, h1, h2, h3, h4, rfl, rfl⟩
  case indexAddr t x ix =>
    obtain ⟨a, b, c, d, h1, h2, h3, h4, h5⟩ := h
    obtain ⟨v, h6, h7⟩ := idxA_both h5
    exact ⟨v, _, h6, a, b, c, d, h1, h2, h3, h4, by simpa using h7⟩
  case index t x ix =>
    obtain ⟨c, d, h1, h3, h4, h5⟩ := h
    obtain ⟨v, h6, h7⟩ := strIdxA_both h5
    exact ⟨v, _, h6, c, d, h1, h3, h4, by simpa using h7⟩
  case slice t x lo hi mx =>
    obtain ⟨a, h1, h2, h⟩ := h
    split at h
    · obtain ⟨v, h6, h7⟩ := cutA_ex h
      exact ⟨v, _, h6, a, h1, h2, by simpa using h7⟩
    · obtain ⟨b, c, d, h3, h4, h5, h⟩ := h
      obtain ⟨v, h6, h7⟩ := cutA_ex h
      exact ⟨v, _, h6, a, h1, h2, b, c, d, h3, h4, h5, by simpa using h7⟩
  case binOp op t x y yt =>
    rcases h with h | ⟨a, b, h1, h2, h⟩
    · obtain ⟨v, h6, h7⟩ := binA_ex h; exact ⟨v, _, h6, .inl (by simpa using h7)⟩
    · obtain ⟨v, h6, h7⟩ := eqA_ex h; exact ⟨v, _, h6, .inr ⟨a, b, h1, h2, by simpa using h7⟩⟩
  case unOp op t x =>
    revert h; unfold unA; split <;> intro h <;> first | exact ⟨_, _, h, rfl, rfl⟩ | exact h.elim
  case convert => obtain ⟨a, b, c, d, e, h1, h2, h3, h4⟩ := h; exact ⟨_, _, h4, a, b, c, d, e, h1, h2, h3, rfl, rfl⟩
  case build => obtain ⟨a, b, c, d, e, h1, h2, h3, h4⟩ := h; exact ⟨_, _, h4, a, b, c, d, e, h1, h2, h3, rfl, rfl⟩
  case buildSlice => obtain ⟨a, b, c, d, h1, h2, h3, h4, h5, h6, h7⟩ := h; exact ⟨_, _, h7, a, b, c, d, h1, h2, h3, h4, h5, h6, rfl, rfl⟩
  case makeSlice => obtain ⟨a, b, c, d, e, f, h1, h2, h3, h4, h5, h6, h7, h8, h9, h10⟩ := h; exact ⟨_, _, h10, a, b, c, d, e, f, h1, h2, h3, h4, h5, h6, h7, h8, h9, rfl, rfl⟩
  case makeFunc => obtain ⟨a, h1, h2, h3⟩ := h; exact ⟨_, _, h3, a, h1, h2, rfl, rfl⟩
  case nilCheck => exact ⟨_, _, h.2, h.1, rfl, rfl⟩
  case extract => obtain ⟨a, b, h1, h2, h3⟩ := h; exact ⟨_, _, h3, a, b, h1, h2, rfl, rfl⟩
  case call c =>
    split at h
    · obtain ⟨a, b, c, d, e, h1, h2, h3, h4, h5⟩ := h; exact ⟨_, _, h5, a, b, c, d, e, h1, h2, h3, h4, rfl, rfl⟩
    · obtain ⟨a, b, c, h1, h2, h3, h4, h5⟩ := h
      obtain ⟨m, h6, h7⟩ := lenA_ex h5
      refine ⟨_, _, h6, a, b, c, h1, h2, h3, h4, ?_⟩
      revert h7; unfold lenA; split <;> intro h <;> first | (subst h; exact ⟨rfl, rfl⟩) | exact h
    · obtain ⟨a, b, c, d, e, f, h1, h2, h3, h4, h5⟩ := h; exact ⟨_, _, h5, a, b, c, d, e, f, h1, h2, h3, h4, rfl, rfl⟩
    · obtain ⟨a, b, c, d, e, f, h1, h2, h3, h4, h5⟩ := h; exact ⟨_, _, h5, a, b, c, d, e, f, h1, h2, h3, h4, rfl, rfl⟩
    · exact h.elim
  all_goals exact h.elim
mutual
theorem passA_mono {full full' : Nat → Option Ob} (hf : ∀ i o, full i = some o → full' i = some o) : ∀ (x y : AV), passA full x = some y → passA full' x = some y
  | .un, y, h => h
  | .d x, y, h => h
  | .bs sz es, y, h => h
  | .cp sz es, y, h => h
  | .bp cs, y, h => h
  | .pt id off, y, h => by
    cases ho : full id with
    | none => simp only [passA, ho] at h; cases h
    | some o => simp only [passA, ho, hf _ _ ho] at h ⊢; exact h
  | .pe id sz k off, y, h => by
    cases ho : full id with
    | none => simp only [passA, ho] at h; cases h
    | some o => simp only [passA, ho, hf _ _ ho] at h ⊢; exact h
  | .ms id sz off len, y, h => by
    cases ho : full id with
    | none => simp only [passA, ho] at h; cases h
    | some o => simp only [passA, ho, hf _ _ ho] at h ⊢; exact h
  | .cl f caps, y, h => by
    simp only [passA, Option.map_eq_some_iff] at h ⊢
    obtain ⟨ys, h1, h2⟩ := h
    exact ⟨ys, passL_mono hf _ _ h1, h2⟩
  | .ag cs, y, h => by
    simp only [passA, Option.map_eq_some_iff] at h ⊢
    obtain ⟨ys, h1, h2⟩ := h
    exact ⟨ys, passL_mono hf _ _ h1, h2⟩
  | .tp vs, y, h => h
theorem passL_mono {full full' : Nat → Option Ob} (hf : ∀ i o, full i = some o → full' i = some o) : ∀ (l l' : List AV), passL full l = some l' → passL full' l = some l'
  | [], l', h => h
  | x :: r, l', h => by
    unfold passL at h ⊢
    cases h1 : passA full x with
    | none => rw [h1] at h; cases h
    | some y =>
      cases h2 : passL full r with
      | none => rw [h1, h2] at h; cases h
      | some ys =>
        rw [h1, h2] at h
        rw [passA_mono hf _ _ h1, passL_mono hf _ _ h2]
        exact h
end
theorem loadA_mono {full full' : Nat → Option Ob} (hf : ∀ i o, full i = some o → full' i = some o) {i : TI} {x v : AV} (h : loadA full i x = some v) : loadA full' i x = some v := by
  cases x with
  | pt id off =>
    cases ho : full id with
    | none => simp only [loadA, ho] at h; cases h
    | some o => simp only [loadA, ho, hf _ _ ho] at h ⊢; exact h
  | pe id sz k off =>
    cases ho : full id with
    | none => simp only [loadA, ho] at h; cases h
    | some o => simp only [loadA, ho, hf _ _ ho] at h ⊢; exact h
  | d x => cases x <;> exact h
  | _ => exact h
/-- More may be there, and the slots that are not asked may hold anything. -/
theorem calm_congr {o : Oper} {ev ev' : Operand → AV} {full full' : Nat → Option Ob} {K : AV → Option Ob → Prop} (hf : ∀ i o, full i = some o → full' i = some o) (he : ∀ x ∈ o.op.operands, ev' x = ev x) (h : calm P tt et o ev full K) : calm P tt et o ev' full' K := by
  have mapE : ∀ l : List Operand, (∀ x ∈ l, ev' x = ev x) → l.map ev' = l.map ev := fun l hl => List.map_congr_left hl
  unfold calm at h ⊢
  cases ho : o.op <;> simp only [ho] at h ⊢ <;> simp only [ho, Op.operands] at he
  case move x => rw [he x (by simp)]; exact h
  case assign x => rw [he x (by simp)]; exact h
  case pick c x y => rw [he c (by simp), he x (by simp), he y (by simp)]; exact h
  case box t x => rw [he x (by simp)]; exact h
  case alloc => exact h
  case load t x => rw [he x (by simp)]; obtain ⟨a, b, h1, h2, h3⟩ := h; exact ⟨a, b, h1, loadA_mono hf h2, h3⟩
  case fieldAddr t x f => rw [he x (by simp)]; exact h
  case field t x f => rw [he x (by simp)]; exact h
  case indexAddr t x ix => rw [he x (by simp), he ix (by simp)]; exact h
  case index t x ix => rw [he x (by simp), he ix (by simp)]; exact h
  case slice t x lo hi mx =>
    have e1 : lo.map ev' = lo.map ev := by cases lo with | none => rfl | some l => rw [Option.map_some, Option.map_some, he l (by simp)]
    have e2 : hi.map ev' = hi.map ev := by cases hi with | none => rfl | some l => rw [Option.map_some, Option.map_some, he l (by simp)]
    rw [he x (by simp), e1, e2]
    cases mx with
    | none => exact h
    | some m =>
      obtain ⟨a, h1, h2, b, c, d, h3, h4, h5, h6⟩ := h
      refine ⟨a, h1, h2, b, c, d, h3, ?_, ?_, h6⟩
      · rw [he b (by subst h3; simp)]; exact h4
      · rw [he m (by simp)]; exact h5
  case binOp op t x y yt => rw [he x (by simp), he y (by simp)]; exact h
  case unOp op t x => rw [he x (by simp)]; exact h
  case convert s t x => rw [he x (by simp)]; exact h
  case build t parts =>
    have : parts.toList.map (fun p => (p.1, ev' p.2)) = parts.toList.map fun p => (p.1, ev p.2) := List.map_congr_left fun p hp => by rw [he p.2 (by simp; exact ⟨p.1, by simpa using hp⟩)]
    rw [this]; exact h
  case buildSlice t len parts =>
    have : parts.toList.map (fun p => (p.1, ev' p.2)) = parts.toList.map fun p => (p.1, ev p.2) := List.map_congr_left fun p hp => by rw [he p.2 (by simp; exact ⟨p.1, by simpa using hp⟩)]
    rw [this]; exact h
  case makeSlice t l c => rw [he l (by simp), he c (by simp)]; exact h
  case makeFunc fn first caps =>
    have : caps.toList.map ev' = caps.toList.map ev := mapE _ fun x hx => he x (by simp; exact .inr (by simpa using hx))
    rw [this]; exact h
  case nilCheck x => rw [he x (by simp)]; exact h
  case extract x i => rw [he x (by simp)]; exact h
  case call c =>
    simp only [Call.operands] at he
    split at h
    · rename_i f hcal
      simp only [hcal] at he ⊢
      have : c.args.toList.map ev' = c.args.toList.map ev := mapE _ fun x hx => he x (by simp; exact .inr (by simpa using hx))
      rw [he f (by simp), this]
      obtain ⟨g, caps, xs, args, r, h1, h2, h3, h4, h5⟩ := h
      exact ⟨g, caps, xs, args, r, h1, passL_mono hf _ _ h2, h3, h4, h5⟩
    · rename_i hcal
      simp only [hcal] at he ⊢
      obtain ⟨a, x, b, h1, h2, h3, h4, h5⟩ := h
      have := he x (by rw [h2]; simp)
      exact ⟨a, x, b, h1, h2, h3, by rw [this]; exact h4, by rw [this]; exact h5⟩
    · rename_i hcal
      simp only [hcal] at he ⊢
      obtain ⟨x, y, k, m, k', m', h1, h2, h3, h4⟩ := h
      exact ⟨x, y, k, m, k', m', h1, by rw [he x (by rw [h1]; simp)]; exact h2, by rw [he y (by rw [h1]; simp)]; exact h3, h4⟩
    · rename_i hcal
      simp only [hcal] at he ⊢
      obtain ⟨x, y, k, m, k', m', h1, h2, h3, h4⟩ := h
      exact ⟨x, y, k, m, k', m', h1, by rw [he x (by rw [h1]; simp)]; exact h2, by rw [he y (by rw [h1]; simp)]; exact h3, h4⟩
    · exact h.elim
  all_goals exact h
end
end Go.Proofs.Ab

namespace Go.Proofs.Ab
open Go Go.RowKit
set_option linter.unusedVariables false
set_option linter.unusedSimpArgs false

/-! ### The order does not matter -/
def calmG (P : Program) (tt : TypeId → Option TI) (et : TypeId → Bool) (ops : Array Oper) (o : Oper) (ev : Nat → AV) (full : Nat → Option Ob) (K : AV → Option Ob → Prop) : Prop :=
  match o.guard with
  | none => calm P tt et o (evO ev) full K
  | some (j, want) => ∃ d g, (ops[j]?).bind (·.dst) = some d ∧ gd (ev d) = some g ∧ (g = some want → calm P tt et o (evO ev) full K) ∧ (g ≠ some want → K (.d (.v (.tuple #[]))) none)
def runD (P : Program) (tt : TypeId → Option TI) (et : TypeId → Bool) (ops : Array Oper) : List Oper → St → (St → Prop) → Prop
  | [], s, K => K s
  | o :: r, s, K => dstOk o s ∧ calmG P tt et ops o s.get (lk s.ob) fun x ob => runD P tt et ops r (s.fin o.dst x ob) K

/-- What must have run ahead of each operation. -/
def closGo : List Oper → List (List Nat) → List (List Nat)
  | [], acc => acc
  | o :: r, acc => closGo r (acc ++ [(o.after.toList.filter (Region.binds .any)).foldl (fun s e => e.on :: ((acc.getD e.on []).filter (fun x => !s.contains x) ++ s)) []])
def seesB (ops : Array Oper) (x y : Oper) : Bool := (match y.dst with | some d => (x.looksAt ops).contains d | none => false)
def orderOk (ops : Array Oper) : Bool :=
  let l := ops.toList
  let c := closGo l []
  (List.range l.length).all fun i => match l[i]? with
    | none => false
    | some o => (o.after.toList.all fun e => !Region.binds .any e || decide (e.on < i)) &&
      (match o.op with | .select .. => false | _ => true) &&
      (match o.guard with | some (j, _) => ((c.getD i []).contains j) && ((l[j]?).bind (·.dst)).isSome | none => true) &&
      ((List.range l.length).all fun j => match l[j]? with
        | none => false
        | some o' => i == j || ((o.dst == none || !(o.dst == o'.dst)) && (!seesB ops o o' || (if j < i then (c.getD i []).contains j else (c.getD j []).contains i))))
def creates (ops : Array Oper) (d : Nat) : Bool := ops.toList.any fun o => makes o && (o.dst == some d)

def Closed (ops : Array Oper) (S : Nat → Prop) : Prop := ∀ i o e, ops[i]? = some o → S i → e ∈ o.after.toList → Region.binds .any e = true → S e.on
theorem closGo_spec {ops : Array Oper} {S : Nat → Prop} (hS : Closed ops S) : ∀ (l : List Oper) (acc : List (List Nat)), ops.toList.drop acc.length = l → (∀ i j, j ∈ acc.getD i [] → S i → S j) → ∀ i j, j ∈ (closGo l acc).getD i [] → S i → S j := by
  intro l
  induction l with
  | nil => intro acc _ h; exact h
  | cons o r ih =>
    intro acc hl h
    simp only [closGo]
    refine ih _ (by rw [List.length_append, ← List.drop_drop, hl]; rfl) ?_
    intro i j hj hi
    by_cases hlt : i < acc.length
    · rw [List.getD_eq_getElem?_getD, List.getElem?_append_left hlt, ← List.getD_eq_getElem?_getD] at hj
      exact h i j hj hi
    · by_cases he : i = acc.length
      · subst he
        have ho : ops[acc.length]? = some o := by
          rw [← Array.getElem?_toList]
          have := congrArg List.head? hl
          simpa [List.head?_drop] using this
        rw [List.getD_eq_getElem?_getD, List.getElem?_append_right (Nat.le_refl _), Nat.sub_self] at hj
        simp only [List.getElem?_cons_zero, Option.getD_some] at hj
        have key : ∀ (es : List Edge) (s : List Nat), (∀ e ∈ es, e ∈ o.after.toList ∧ Region.binds .any e = true) → (∀ x ∈ s, S x) → ∀ x ∈ es.foldl (fun s e => e.on :: ((acc.getD e.on []).filter (fun x => !s.contains x) ++ s)) s, S x := by
          intro es
          induction es with
          | nil => intro s _ hs; exact hs
          | cons e r ih2 =>
            intro s he hs
            refine ih2 _ (fun e' h' => he e' (List.mem_cons_of_mem _ h')) ?_
            intro x hx
            have h0 := he e List.mem_cons_self
            have he1 : S e.on := hS _ o e ho hi h0.1 h0.2
            rcases List.mem_cons.1 hx with rfl | hx
            · exact he1
            · rcases List.mem_append.1 hx with hx | hx
              · exact h _ _ (List.mem_filter.1 hx).1 he1
              · exact hs x hx
        exact key _ [] (fun e he => by have := List.mem_filter.1 he; exact this) (by simp) j hj
      · rw [List.getD_eq_getElem?_getD, List.getElem?_append_right (by omega)] at hj
        have : i - acc.length ≥ 1 := by omega
        rw [List.getElem?_eq_none (by simp; omega)] at hj
        simp at hj

inductive Tr (P : Program) (tt : TypeId → Option TI) (et : TypeId → Bool) (ops : Array Oper) : List Oper → St → List (AV × Option Ob) → St → Prop
  | nil (s : St) : Tr P tt et ops [] s [] s
  | cons {o : Oper} {r : List Oper} {s s' : St} {x : AV} {ob : Option Ob} {tr : List (AV × Option Ob)} : dstOk o s → calmG P tt et ops o s.get (lk s.ob) (fun x' ob' => x' = x ∧ ob' = ob) → Tr P tt et ops r (s.fin o.dst x ob) tr s' → Tr P tt et ops (o :: r) s ((x, ob) :: tr) s'
section
variable {P : Program} {tt : TypeId → Option TI} {et : TypeId → Bool} {ops : Array Oper}
theorem calmG_ex {o : Oper} {ev : Nat → AV} {full : Nat → Option Ob} {K : AV → Option Ob → Prop} (h : calmG P tt et ops o ev full K) : ∃ x ob, K x ob ∧ calmG P tt et ops o ev full fun x' ob' => x' = x ∧ ob' = ob := by
  unfold calmG at h ⊢
  cases hg : o.guard with
  | none => rw [hg] at h; exact calm_ex h
  | some q =>
    obtain ⟨j, want⟩ := q
    rw [hg] at h
    obtain ⟨d, b, h1, h2, h3, h4⟩ := h
    by_cases hb : b = some want
    · obtain ⟨x, ob, h5, h6⟩ := calm_ex (h3 hb)
      exact ⟨x, ob, h5, d, b, h1, h2, fun _ => h6, fun h => absurd hb h⟩
    · exact ⟨_, _, h4 hb, d, b, h1, h2, fun h => absurd h hb, fun _ => ⟨rfl, rfl⟩⟩
theorem runD_trace : ∀ (l : List Oper) (s : St) (K : St → Prop), runD P tt et ops l s K → ∃ tr s', Tr P tt et ops l s tr s' ∧ K s' := by
  intro l
  induction l with
  | nil => intro s K h; exact ⟨[], s, .nil s, h⟩
  | cons o r ih =>
    intro s K h
    obtain ⟨hd, h⟩ := h
    obtain ⟨x, ob, h1, h2⟩ := calmG_ex h
    obtain ⟨tr, s', h3, h4⟩ := ih _ _ h1
    exact ⟨_, s', .cons hd h2 h3, h4⟩
theorem fin_nt (s : St) (d : Option Nat) (x : AV) (ob : Option Ob) : (s.fin d x ob).nt = s.nt := by
  unfold St.fin
  split
  · rfl
  · cases d <;> rfl
theorem fin_get (s : St) (dst : Option Nat) (x : AV) (ob : Option Ob) (t : Nat) : (s.fin dst x ob).get t = if dst = some t then x else s.get t := by
  cases dst with
  | none => cases ob <;> simp [St.fin, St.put]
  | some d =>
    rw [get_fin]
    show (if t = d then x else s.get t) = _
    by_cases h : t = d
    · subst h; simp
    · rw [if_neg h, if_neg (by simpa using fun e => h e.symm)]
theorem fin_lk (s : St) (dst : Option Nat) (x : AV) (ob : Option Ob) (i : Nat) : lk (s.fin dst x ob).ob i = match ob, dst with | some o, some d => if d = i then some o else lk s.ob i | _, _ => lk s.ob i := by
  cases ob <;> cases dst <;> rfl
/-- The trace, place by place. -/
theorem Tr.at {l : List Oper} {s s' : St} {tr : List (AV × Option Ob)} (h : Tr P tt et ops l s tr s') : tr.length = l.length ∧ s'.nt = s.nt ∧
    (∀ (k : Nat) (o : Oper), l[k]? = some o → ∃ (x : AV) (ob : Option Ob) (sk : St), tr[k]? = some (x, ob) ∧ dstOk o sk ∧ sk.nt = s.nt ∧ calmG P tt et ops o sk.get (lk sk.ob) (fun x' ob' => x' = x ∧ ob' = ob) ∧
      (∀ t : Nat, (∀ (j : Nat) (o' : Oper), j < k → l[j]? = some o' → o'.dst ≠ some t) → sk.get t = s.get t) ∧
      (∀ (t j : Nat) (o' : Oper) (x' : AV) (ob' : Option Ob), j < k → l[j]? = some o' → tr[j]? = some (x', ob') → o'.dst = some t → (∀ (j2 : Nat) (o2 : Oper), j < j2 → j2 < k → l[j2]? = some o2 → o2.dst ≠ some t) → sk.get t = x') ∧
      (∀ (i : Nat) (ob' : Ob), lk sk.ob i = some ob' → lk s.ob i = some ob' ∨ ∃ (j : Nat) (o' : Oper) (x' : AV), j < k ∧ l[j]? = some o' ∧ tr[j]? = some (x', some ob') ∧ o'.dst = some i)) ∧
    (∀ t : Nat, (∀ (j : Nat) (o' : Oper), l[j]? = some o' → o'.dst ≠ some t) → s'.get t = s.get t) ∧
    (∀ (t j : Nat) (o' : Oper) (x' : AV) (ob' : Option Ob), l[j]? = some o' → tr[j]? = some (x', ob') → o'.dst = some t → (∀ (j2 : Nat) (o2 : Oper), j < j2 → l[j2]? = some o2 → o2.dst ≠ some t) → s'.get t = x') ∧
    (∀ (i : Nat) (ob' : Ob), lk s'.ob i = some ob' → lk s.ob i = some ob' ∨ ∃ (j : Nat) (o' : Oper) (x' : AV), l[j]? = some o' ∧ tr[j]? = some (x', some ob') ∧ o'.dst = some i) ∧
    (∀ (i : Nat) (ob' : Ob), lk s.ob i = some ob' → (∀ (j : Nat) (o' : Oper) (x' : AV) (oo : Ob), l[j]? = some o' → tr[j]? = some (x', some oo) → o'.dst ≠ some i) → lk s'.ob i = some ob') ∧
    (∀ (i j : Nat) (o' : Oper) (x' : AV) (ob' : Ob), l[j]? = some o' → tr[j]? = some (x', some ob') → o'.dst = some i → (∀ (j2 : Nat) (o2 : Oper), j < j2 → l[j2]? = some o2 → o2.dst ≠ some i) → lk s'.ob i = some ob') := by
  induction h with
  | nil s => refine ⟨rfl, rfl, by simp, fun _ _ => rfl, by simp, fun _ _ h => .inl h, fun _ _ h _ => h, by simp⟩
  | @cons o r s s' x ob tr hd hcal htr ih =>
    obtain ⟨i1, i2, i3, i4, i5, i6, i7, i8⟩ := ih
    refine ⟨by simp [i1], by rw [i2, fin_nt], ?_, ?_, ?_, ?_, ?_, ?_⟩
    · intro k o' hk
      cases k with
      | zero =>
        simp only [List.getElem?_cons_zero, Option.some.injEq] at hk
        subst hk
        exact ⟨x, ob, s, rfl, hd, rfl, hcal, fun _ _ => rfl, fun _ j _ _ _ h => absurd h (Nat.not_lt_zero _), fun _ _ h => .inl h⟩
      | succ k =>
        obtain ⟨x2, ob2, sk, h1, h2, h3, h4, h5, h6, h7⟩ := i3 k o' (by simpa using hk)
        refine ⟨x2, ob2, sk, by simpa using h1, h2, by rw [h3, fin_nt], h4, ?_, ?_, ?_⟩
        · intro t ht
          rw [h5 t (fun j o2 hj h => ht (j + 1) o2 (by omega) (by simpa using h)), fin_get, if_neg]
          exact ht 0 o (by omega) rfl
        · intro t j o2 x3 ob3 hj hlj htj hdj hlast
          cases j with
          | zero =>
            simp only [List.getElem?_cons_zero, Option.some.injEq, Prod.mk.injEq] at hlj htj
            obtain ⟨rfl, rfl⟩ := htj
            subst hlj
            rw [h5 t (fun j o4 hj h => hlast (j + 1) o4 (by omega) (by omega) (by simpa using h)), fin_get, if_pos hdj]
          | succ j =>
            exact h6 t j o2 x3 ob3 (by omega) (by simpa using hlj) (by simpa using htj) hdj fun j2 o4 ha hb h => hlast (j2 + 1) o4 (by omega) (by omega) (by simpa using h)
        · intro i ob' hi
          rcases h7 i ob' hi with h8 | ⟨j, o2, x3, ha, hb, hc, hd2⟩
          · rw [fin_lk] at h8
            split at h8
            · rename_i oo d
              split at h8
              · rename_i e; subst e
                injection h8 with h8; subst h8
                exact .inr ⟨0, o, x, by omega, rfl, rfl, by assumption⟩
              · exact .inl h8
            · exact .inl h8
          · exact .inr ⟨j + 1, o2, x3, by omega, by simpa using hb, by simpa using hc, hd2⟩
    · intro t ht
      rw [i4 t (fun j o2 h => ht (j + 1) o2 (by simpa using h)), fin_get, if_neg]
      exact ht 0 o rfl
    · intro t j o2 x3 ob3 hlj htj hdj hlast
      cases j with
      | zero =>
        simp only [List.getElem?_cons_zero, Option.some.injEq, Prod.mk.injEq] at hlj htj
        obtain ⟨rfl, rfl⟩ := htj
        subst hlj
        rw [i4 t (fun j o4 h => hlast (j + 1) o4 (by omega) (by simpa using h)), fin_get, if_pos hdj]
      | succ j =>
        exact i5 t j o2 x3 ob3 (by simpa using hlj) (by simpa using htj) hdj fun j2 o4 ha h => hlast (j2 + 1) o4 (by omega) (by simpa using h)
    · intro i ob' hi
      rcases i6 i ob' hi with h8 | ⟨j, o2, x3, hb, hc, hd2⟩
      · rw [fin_lk] at h8
        split at h8
        · rename_i oo d
          split at h8
          · rename_i e; subst e
            injection h8 with h8; subst h8
            exact .inr ⟨0, o, x, rfl, rfl, by assumption⟩
          · exact .inl h8
        · exact .inl h8
      · exact .inr ⟨j + 1, o2, x3, by simpa using hb, by simpa using hc, hd2⟩
    · intro i ob' hi hno
      refine i7 i ob' ?_ (fun j o2 x3 oo ha hb => hno (j + 1) o2 x3 oo (by simpa using ha) (by simpa using hb))
      rw [fin_lk]
      split
      · rename_i oo d
        rw [if_neg]
        · exact hi
        · rintro rfl
          exact hno 0 o x _ rfl rfl (by assumption)
      · exact hi
    · intro i j o2 x3 ob3 hlj htj hdj hlast
      cases j with
      | zero =>
        simp only [List.getElem?_cons_zero, Option.some.injEq, Prod.mk.injEq] at hlj htj
        obtain ⟨rfl, rfl⟩ := htj
        subst hlj
        refine i7 i ob3 (by rw [fin_lk, hdj]; simp) (fun j o4 x4 oo ha hb => hlast (j + 1) o4 (by omega) (by simpa using ha))
      | succ j =>
        exact i8 i j o2 x3 ob3 (by simpa using hlj) (by simpa using htj) hdj fun j2 o4 ha h => hlast (j2 + 1) o4 (by omega) (by simpa using h)
end
end Go.Proofs.Ab

namespace Go.Proofs.Ab
open Go Go.RowKit
set_option linter.unusedVariables false
set_option linter.unusedSimpArgs false

section
variable {P : Program} {tt : TypeId → Option TI} {et : TypeId → Bool} {ops : Array Oper} {base : Nat} {w0 : World} {F0 : Nat → Nat → Prop}
theorem wanted_of {o : Oper} {a : Act} {ev : Nat → AV} {ι : Nat → Option Nat} {F : Nat → Nat → Prop} {w : World} {j : Nat} {want : Bool} {g : Option Bool} {d : Nat} (hg : o.guard = some (j, want)) (h1 : (ops[j]?).bind (·.dst) = some d) (h2 : gd (ev d) = some g) (ht : RepA ι F base w (ev d) (a.tmps.getD d undef)) :
    Region.wanted o (yielded ops a.tmps) = decide (g = some want) := by
  have hy : yielded ops a.tmps j = g := gd_yields h1 h2 ht
  simp only [Region.wanted, hg, hy]
  cases g with
  | none => rfl
  | some b => cases b <;> cases want <;> rfl

structure Uniq (ops : Array Oper) : Prop where
  uniq : ∀ (i j : Nat) (o o' : Oper) (d : Nat), ops[i]? = some o → ops[j]? = some o' → o.dst = some d → o'.dst = some d → i = j
structure OrderOk (ops : Array Oper) : Prop where
  uniq : Uniq ops
  before : ∀ (i : Nat) (o : Oper) (e : Edge), ops[i]? = some o → e ∈ o.after.toList → Region.binds .any e = true → e.on < i
  nosel : ∀ (i : Nat) (o : Oper), ops[i]? = some o → ∀ cs b, o.op ≠ .select cs b
  guard : ∀ (i : Nat) (o : Oper) (j : Nat) (want : Bool), ops[i]? = some o → o.guard = some (j, want) → ∀ S, Closed ops S → S i → S j
  sees : ∀ (i j : Nat) (o o' : Oper) (d : Nat), ops[i]? = some o → ops[j]? = some o' → i ≠ j → o'.dst = some d → d ∈ o.looksAt ops → ∀ S, Closed ops S → (j < i → S i → S j) ∧ (i < j → S j → S i)
theorem orderOk_spec (h : orderOk ops = true) : OrderOk ops := by
  unfold orderOk at h
  simp only [List.all_eq_true, List.mem_range] at h
  have hl : ∀ {i : Nat} {o : Oper}, ops[i]? = some o → i < ops.toList.length ∧ ops.toList[i]? = some o := by
    intro i o hi
    have := (Array.getElem?_eq_some_iff.1 hi).1
    exact ⟨by simpa using this, by rw [Array.getElem?_toList]; exact hi⟩
  have row := fun {i : Nat} {o : Oper} (hi : ops[i]? = some o) => by
    have := h i (hl hi).1
    rw [(hl hi).2] at this
    simp only [Bool.and_eq_true, List.all_eq_true] at this
    exact this
  have clos : ∀ (i j : Nat), ((closGo ops.toList []).getD i []).contains j = true → ∀ S, Closed ops S → S i → S j := by
    intro i j hc S hS hi
    exact closGo_spec hS ops.toList [] rfl (by simp) i j (by simpa using hc) hi
  refine ⟨⟨?_⟩, ?_, ?_, ?_, ?_⟩
  · intro i j o o' d hi hj hd hd'
    rcases Nat.decEq i j with hne | he
    · have h2 := (row hi).2 j (List.mem_range.2 (hl hj).1)
      rw [(hl hj).2] at h2
      simp only [Bool.or_eq_true, beq_iff_eq, Bool.and_eq_true] at h2
      rcases h2 with h2 | ⟨h2, _⟩
      · exact h2
      · rw [hd, hd'] at h2
        simp at h2
    · exact he
  · intro i o e hi he hb
    have h2 := (row hi).1.1.1 e he
    rw [hb] at h2
    simpa using h2
  · intro i o hi cs b e
    have h2 := (row hi).1.1.2
    rw [e] at h2
    cases h2
  · intro i o j want hi hg S hS hSi
    have h2 := (row hi).1.2
    rw [hg] at h2
    simp only [Bool.and_eq_true] at h2
    exact clos i j h2.1 S hS hSi
  · intro i j o o' d hi hj hne hd hsee S hS
    have h2 := (row hi).2 j (List.mem_range.2 (hl hj).1)
    rw [(hl hj).2] at h2
    simp only [Bool.or_eq_true, beq_iff_eq, Bool.and_eq_true] at h2
    rcases h2 with h2 | ⟨_, h2⟩
    · exact absurd h2 hne
    · have hs : seesB ops o o' = true := by
        unfold seesB
        rw [hd]
        simpa using hsee
      rw [hs] at h2
      simp only [Bool.not_true, Bool.false_eq_true, false_or] at h2
      constructor
      · intro hlt hSi
        rw [if_pos hlt] at h2
        exact clos i j h2 S hS hSi
      · intro hlt hSj
        rw [if_neg (by omega)] at h2
        exact clos j i h2 S hS hSj

structure InvD (ops : Array Oper) (tr : List (AV × Option Ob)) (s : St) (base : Nat) (w0 : World) (F0 : Nat → Nat → Prop) (full : Nat → Option Ob) (S : Nat → Prop) (a : Act) (w : World) (ι : Nat → Option Nat) (ev : Nat → AV) : Prop where
  core : Core s.nt base w0 F0 ι full ev a w
  old : ∀ (i : Nat) (o : Ob), lk s.ob i = some o → (ι i).isSome = true ∨ ∃ sz, o = .arr sz []
  made : ∀ (j : Nat) (o : Oper) (d : Nat) (x : AV) (oo : Ob), ops[j]? = some o → S j → o.dst = some d → tr[j]? = some (x, some oo) → (ι d).isSome = true
  fresh : ∀ (j : Nat) (o : Oper) (d : Nat), ops[j]? = some o → ¬ S j → makes o = true → o.dst = some d → ι d = none
  ein : ∀ (j : Nat) (o : Oper) (d : Nat) (x : AV) (ob : Option Ob), ops[j]? = some o → S j → o.dst = some d → tr[j]? = some (x, ob) → ev d = x
  eout : ∀ t : Nat, (∀ (j : Nat) (o : Oper), ops[j]? = some o → S j → o.dst ≠ some t) → ev t = s.get t
  clo : Closed ops S

/-- One operation that is ready. -/
theorem InvD.step (htt : TOK P tt) (hett : ETOK P tt et) (hok : OrderOk ops) {s s' : St} {tr : List (AV × Option Ob)} {k : Nat} (htr : Tr P tt et ops (ops.toList.take k) s tr s') (hs0 : ∀ (j : Nat) (o : Oper) (d : Nat), ops[j]? = some o → makes o = true → o.dst = some d → lk s.ob d = none)
    {S : Nat → Prop} {a : Act} {w : World} {ι : Nat → Option Nat} {ev : Nat → AV} (h : InvD ops tr s base w0 F0 (lk s'.ob) S a w ι ev) {i : Nat} {o : Oper} (hi : ops[i]? = some o) (hik : i < k) (hn : ¬ S i) (hedge : ∀ e ∈ o.after.toList, Region.binds .any e = true → S e.on)
    {S' : Nat → Prop} (hS' : ∀ j, S' j ↔ S j ∨ j = i) {next : Act → World → Prop} {Q : Exit → Act → World → Prop} (hnext : ∀ a' w' ι' ev', InvD ops tr s base w0 F0 (lk s'.ob) S' a' w' ι' ev' → next a' w') : wpOp P ops Q i next a w := by
  have hil : (ops.toList.take k)[i]? = some o := by rw [List.getElem?_take, if_pos hik, Array.getElem?_toList]; exact hi
  obtain ⟨t1, t2, t3, t4, t5, t6, t7, t8⟩ := htr.at
  obtain ⟨x, ob, sk, k1, k2, k3, k4, k5, k6, k7⟩ := t3 i o hil
  have lst1 : ∀ {j : Nat} {o' : Oper}, (ops.toList.take k)[j]? = some o' → ops[j]? = some o' := fun {j o'} hj => by
    rw [List.getElem?_take] at hj
    split at hj
    · rwa [Array.getElem?_toList] at hj
    · cases hj
  have lst2 : ∀ {j : Nat} {o' : Oper}, j < k → ops[j]? = some o' → (ops.toList.take k)[j]? = some o' := fun {j o'} hk hj => by rw [List.getElem?_take, if_pos hk, Array.getElem?_toList]; exact hj
  -- closed with i
  have hclo' : Closed ops S' := by
    intro j oj e hj hSj he hb
    rw [hS']
    rcases (hS' j).1 hSj with h1 | rfl
    · exact .inl (h.clo j oj e hj h1 he hb)
    · rw [hi] at hj
      injection hj with hj
      subst hj
      exact .inl (hedge e he hb)
  have hSi' : S' i := (hS' i).2 (.inr rfl)
  -- the slots that it looks at
  have look : ∀ t, t ∈ o.looksAt ops → ev t = sk.get t := by
    intro t ht
    by_cases hex : ∃ j o', ops[j]? = some o' ∧ o'.dst = some t ∧ j ≠ i
    · obtain ⟨j, o', hj, hd, hne⟩ := hex
      have hsee := hok.sees i j o o' t hi hj (fun e => hne e.symm) hd ht S' hclo'
      rcases Nat.lt_or_gt_of_ne hne with hlt | hgt
      · obtain ⟨x', ob', _, k1', _⟩ := t3 j o' (lst2 (by omega) hj)
        have hSj : S j := by
          rcases (hS' j).1 (hsee.1 hlt hSi') with h1 | h1
          · exact h1
          · exact absurd h1 hne
        rw [h.ein j o' t x' ob' hj hSj hd k1']
        exact (k6 t j o' x' ob' hlt (lst2 (by omega) hj) k1' hd (fun j2 o2 h1 h2 h3 h4 => by
          have := hok.uniq.uniq _ _ _ _ _ hj (lst1 h3) hd h4; omega)).symm
      · have hnS : ¬ S j := by
          intro hSj
          have hsee2 := hok.sees i j o o' t hi hj (fun e => hne e.symm) hd ht S h.clo
          exact hn (hsee2.2 hgt hSj)
        rw [h.eout t (fun j2 o2 h2 hS2 hd2 => by
          have := hok.uniq.uniq _ _ _ _ _ hj h2 hd hd2
          subst this
          exact hnS hS2)]
        exact (k5 t (fun j2 o2 hlt h2 hd2 => by
          have := hok.uniq.uniq _ _ _ _ _ hj (lst1 h2) hd hd2
          omega)).symm
    · have hno : ∀ j o', ops[j]? = some o' → j ≠ i → o'.dst ≠ some t := fun j o' hj hne hd => hex ⟨j, o', hj, hd, hne⟩
      rw [h.eout t (fun j2 o2 h2 hS2 => hno j2 o2 h2 (by rintro rfl; exact hn hS2))]
      exact (k5 t (fun j2 o2 hlt h2 => hno j2 o2 (lst1 h2) (by omega))).symm
  have hops : ∀ y ∈ o.op.operands, evO ev y = evO sk.get y := by
    intro y hy
    cases y with
    | tmp t => exact look t (by unfold Oper.looksAt; refine List.mem_append_left _ (List.mem_filterMap.2 ⟨.tmp t, by simpa using hy, rfl⟩))
    | _ => rfl
  have hfull : ∀ d oo, lk sk.ob d = some oo → lk s'.ob d = some oo := by
    intro d oo hd
    rcases k7 d oo hd with h1 | ⟨j, o', x', hj, hoj, htj, hdj⟩
    · refine t7 d oo h1 (fun j o' x' o2 hj htj hdj => ?_)
      obtain ⟨x3, ob3, sk3, q1, _, _, q4, _⟩ := t3 j o' hj
      rw [q1] at htj
      simp only [Option.some.injEq, Prod.mk.injEq] at htj
      obtain ⟨rfl, rfl⟩ := htj
      have hm : makes o' = true := by
        unfold calmG at q4
        cases hg : o'.guard with
        | none => rw [hg] at q4; exact calm_makes q4
        | some q =>
          obtain ⟨jj, want⟩ := q
          rw [hg] at q4
          obtain ⟨d2, b, _, _, r3, r4⟩ := q4
          by_cases hb : b = some want
          · exact calm_makes (r3 hb)
          · exact absurd (r4 hb).2 (by simp)
      rw [hs0 j o' d (lst1 hj) hm hdj] at h1
      cases h1
    · exact t8 d j o' x' oo hoj htj hdj (fun j2 o2 h1 h2 h3 => by
        have := hok.uniq.uniq _ _ _ _ _ (lst1 hoj) (lst1 h2) hdj h3; omega)
  have hdst : ∀ d, o.dst = some d → d < s.nt := by
    intro d hd
    unfold dstOk at k2
    rw [hd] at k2
    rw [← k3]; exact k2
  have hfr : makes o = true → ∀ d, o.dst = some d → ι d = none := fun hm d hd => h.fresh i o d hi hn hm hd
  -- what comes of it
  have fin : ∀ (ι' : Nat → Option Nat) (a' : Act) (w' : World), Core s.nt base w0 F0 ι' (lk s'.ob) (updE ev o.dst x) a' w' → (∀ j b, ι j = some b → ι' j = some b) → (∀ j, ι j = none → (∀ d, o.dst = some d → j ≠ d) → ι' j = none) → (∀ d oo, o.dst = some d → ob = some oo → (ι' d).isSome = true) → next a' w' := by
    intro ι' a' w' hcore hmono hkeep hmade
    refine hnext a' w' ι' (updE ev o.dst x) ⟨hcore, ?_, ?_, ?_, ?_, ?_, hclo'⟩
    · intro d oo hd
      rcases h.old d oo hd with h1 | h1
      · left
        obtain ⟨b, hb⟩ := Option.isSome_iff_exists.1 h1
        rw [hmono d b hb]; rfl
      · exact .inr h1
    · intro j o' d x' oo hj hSj hd htj
      rcases (hS' j).1 hSj with h1 | rfl
      · obtain ⟨b, hb⟩ := Option.isSome_iff_exists.1 (h.made j o' d x' oo hj h1 hd htj)
        rw [hmono d b hb]; rfl
      · rw [hi] at hj
        injection hj with hj
        subst hj
        rw [k1] at htj
        simp only [Option.some.injEq, Prod.mk.injEq] at htj
        exact hmade d oo hd htj.2
    · intro j o' d hj hnS hm hd
      refine hkeep d (h.fresh j o' d hj (fun hS => hnS ((hS' j).2 (.inl hS))) hm hd) ?_
      rintro d2 hd2 rfl
      have := hok.uniq.uniq _ _ _ _ _ hi hj hd2 hd
      subst this
      exact hnS hSi'
    · intro j o' d x' ob' hj hSj hd htj
      rcases (hS' j).1 hSj with h1 | rfl
      · have hne : j ≠ i := by rintro rfl; exact hn h1
        have : updE ev o.dst x d = ev d := by
          unfold updE
          cases ho : o.dst with
          | none => rfl
          | some d2 =>
            show (if d = d2 then x else ev d) = _
            rw [if_neg]
            rintro rfl
            exact hne (hok.uniq.uniq _ _ _ _ _ hj hi hd ho)
        rw [this]
        exact h.ein j o' d x' ob' hj h1 hd htj
      · rw [hi] at hj
        injection hj with hj
        subst hj
        rw [k1] at htj
        simp only [Option.some.injEq, Prod.mk.injEq] at htj
        rw [hd]
        show (if d = d then x else ev d) = _
        rw [if_pos rfl]
        exact htj.1
    · intro t ht
      have : updE ev o.dst x t = ev t := by
        unfold updE
        cases ho : o.dst with
        | none => rfl
        | some d2 =>
          show (if t = d2 then x else ev t) = _
          rw [if_neg]
          rintro rfl
          exact ht i o hi hSi' ho
      rw [this]
      exact h.eout t (fun j o' hj hS => ht j o' hj ((hS' j).2 (.inl hS)))
  have run : (calm P tt et o (evO sk.get) (lk sk.ob) fun x' ob' => x' = x ∧ ob' = ob) → ∀ Q', o.wp P a w next Q' := by
    intro hcal Q'
    obtain ⟨x', ob', ⟨rfl, rfl⟩, hcal', hwp⟩ := calm_sound htt hett h.core hdst hfr (calm_congr hfull hops hcal)
    refine hwp next Q' fun a' w' haf => ?_
    cases ob' with
    | none => exact fin ι a' w' haf (fun _ _ h => h) (fun _ h _ => h) (fun _ _ _ h => by cases h)
    | some oo =>
      obtain ⟨d, b, hd, hk⟩ := haf
      refine fin (upd ι d b) a' w' (hk (lk s'.ob) (fun _ _ _ => rfl) ?_) ?_ ?_ ?_
      · exact t8 d i o x' oo hil k1 hd (fun j2 o2 h1 h2 h3 => by
          have := hok.uniq.uniq _ _ _ _ _ hi (lst1 h2) hd h3; omega)
      · intro j b' hj
        unfold upd
        rw [if_neg]
        · exact hj
        · rintro rfl
          rw [hfr (calm_makes hcal') j hd] at hj
          cases hj
      · intro j hj hne
        unfold upd
        rw [if_neg (hne d hd)]
        exact hj
      · intro d2 oo2 hd2 _
        rw [hd] at hd2
        injection hd2 with hd2
        subst hd2
        simp [upd]
  unfold wpOp
  simp only [hi]
  unfold calmG at k4
  cases hg : o.guard with
  | none =>
    rw [hg] at k4
    rw [if_pos (by simp [Region.wanted, hg])]
    exact .inl (run k4 _)
  | some q =>
    obtain ⟨jg, want⟩ := q
    rw [hg] at k4
    obtain ⟨d, b, r1, r2, r3, r4⟩ := k4
    have hlook : d ∈ o.looksAt ops := by
      unfold Oper.looksAt
      rw [hg]
      simp only [r1]
      simp
    have r2' : gd (ev d) = some b := by rw [look d hlook]; exact r2
    rw [wanted_of hg r1 r2' (h.core.tms d)]
    by_cases e : b = some want
    · rw [if_pos (by simpa using e)]
      exact .inl (run (r3 e) _)
    · rw [if_neg (by simpa using e)]
      obtain ⟨rfl, rfl⟩ := r4 e
      exact fin ι _ _ (h.core.putO hdst (x := .d (.v (.tuple #[]))) (by exact rfl)) (fun _ _ h => h) (fun _ h _ => h) (fun _ _ _ h => by cases h)

/-- The head of the region runs in whatever order, the rest behind it. -/
def tailOk (ops : Array Oper) (k : Nat) : Bool :=
  let c := closGo ops.toList []
  (List.range ops.toList.length).all fun i => decide (i < k) || (List.range i).all fun j => (c.getD i []).contains j
theorem wpAny_tail (htt : TOK P tt) (hett : ETOK P tt et) (hok : OrderOk ops) {K : St → Prop} {Q : Exit → Act → World → Prop} (hQ : ∀ s a w, K s → RS base w0 F0 s a w → Q .normal a w) {k0 : Nat} (htail : ∀ i o, ops[i]? = some o → k0 ≤ i → ∀ S, Closed ops S → S i → ∀ j, j < i → S j) :
    ∀ (l : List Oper) (k : Nat) (fuel : Nat) (listed : Array Bool) (s : St) (a : Act) (w : World), k0 ≤ k → ops.toList.drop k = l → l.length ≤ fuel → listed.size = ops.size → (∀ j, j < ops.size → (listed.getD j false = true ↔ j < k)) → aops P tt et ops l s K → RS base w0 F0 s a w → wpAny P .any ops Q fuel listed a w := by
  intro l
  have notready : ∀ (k : Nat) (listed : Array Bool), k0 ≤ k → (∀ j, j < ops.size → (listed.getD j false = true ↔ j < k)) → listed.size = ops.size → ∀ i ∈ Region.ready .any ops listed, i = k := by
    intro k listed hk hl hsz i hi
    unfold Region.ready at hi
    simp only [List.mem_filter, List.mem_range, Bool.and_eq_true, Bool.not_eq_true'] at hi
    obtain ⟨hi1, hi2, hi3⟩ := hi
    have hoi : ∃ o, ops[i]? = some o := ⟨ops[i], Array.getElem?_eq_getElem hi1⟩
    obtain ⟨o, ho⟩ := hoi
    rw [ho] at hi3
    simp only [Option.map_some, Option.getD_some, Array.all_eq_true_iff_forall_mem, Bool.or_eq_true, Bool.not_eq_true'] at hi3
    have hni : ¬ i < k := by
      intro h
      have := (hl i hi1).2 h
      rw [Array.getD_eq_getD_getElem?] at this hi2
      rw [Array.getElem?_eq_getElem (by omega)] at this hi2
      simp at this hi2
      rw [this] at hi2; cases hi2
    have hS : Closed ops fun j => j < k ∨ j = i := by
      intro j oj e hj hSj he hb
      rcases hSj with h | rfl
      · left
        have := hok.before j oj e hj he hb
        omega
      · rw [ho] at hj
        injection hj with hj
        subst hj
        left
        have h2 := hi3 e (by simpa using he)
        rcases h2 with h2 | h2
        · rw [hb] at h2; cases h2
        · have hlt : e.on < ops.size := by
            have := hok.before _ _ _ ho he hb; omega
          exact (hl e.on hlt).1 h2
    rcases Nat.lt_trichotomy i k with h | h | h
    · exact absurd h hni
    · exact h
    · have := htail i o ho (by omega) _ hS (.inr rfl) k h
      rcases this with h2 | h2
      · exact absurd h2 (Nat.lt_irrefl _)
      · exact h2.symm
  induction l with
  | nil =>
    intro k fuel listed s a w hk hl hf hsz hli h hr
    have hkn : ops.size ≤ k := by
      have := congrArg List.length hl
      simp at this
      omega
    have hno : Region.ready .any ops listed = [] := by
      rw [List.eq_nil_iff_forall_not_mem]
      intro i hi
      have e := notready k listed hk hli hsz i hi
      unfold Region.ready at hi
      simp only [List.mem_filter, List.mem_range] at hi
      omega
    cases fuel with
    | zero => exact ⟨hno, hQ _ _ _ h hr⟩
    | succ f => exact ⟨fun _ => hQ _ _ _ h hr, fun i hi => by rw [hno] at hi; cases hi⟩
  | cons o r ih =>
    intro k fuel listed s a w hk hl hf hsz hli h hr
    have ho : ops[k]? = some o := by
      rw [← Array.getElem?_toList]
      have := congrArg List.head? hl
      simpa [List.head?_drop] using this
    have hks : k < ops.size := (Array.getElem?_eq_some_iff.1 ho).1
    cases fuel with
    | zero => simp at hf
    | succ f =>
      have hready : k ∈ Region.ready .any ops listed := by
        unfold Region.ready
        simp only [List.mem_filter, List.mem_range, Bool.and_eq_true, Bool.not_eq_true']
        refine ⟨hks, ?_, ?_⟩
        · have : ¬ listed.getD k false = true := by rw [hli k hks]; omega
          rw [Array.getD_eq_getD_getElem?, Array.getElem?_eq_getElem (by omega)] at this ⊢
          simpa using this
        · rw [ho]
          simp only [Option.map_some, Option.getD_some, Array.all_eq_true_iff_forall_mem, Bool.or_eq_true, Bool.not_eq_true']
          intro e he
          cases hb : Region.binds .any e with
          | false => exact .inl rfl
          | true =>
            right
            have := hok.before k o e ho (by simpa using he) hb
            exact (hli e.on (by omega)).2 this
      refine ⟨fun hn => (by rw [hn] at hready; cases hready), fun i hi => ?_⟩
      obtain rfl := notready k listed hk hli hsz i hi
      obtain ⟨s0, hw0, h⟩ := h
      refine stepT_sound htt hett (hw0 _ _ _ _ _ hr) ho h fun s' a' w' hK hr' => ih (i + 1) f _ s' a' w' (by omega) (by rw [← List.drop_drop, hl]; rfl) (by simp at hf; omega) (by simpa using hsz) ?_ hK hr'
      intro j hj
      rw [Array.getD_eq_getD_getElem?, Array.getElem?_setIfInBounds]
      by_cases e : i = j
      · subst e
        simp [show i < listed.size by omega]
      · rw [if_neg e, ← Array.getD_eq_getD_getElem?, hli j hj]
        omega
end
end Go.Proofs.Ab

namespace Go.Proofs.Ab
open Go Go.RowKit
set_option linter.unusedVariables false
set_option linter.unusedSimpArgs false

section
variable {P : Program} {tt : TypeId → Option TI} {et : TypeId → Bool} {ops : Array Oper} {base : Nat} {w0 : World} {F0 : Nat → Nat → Prop}
def killC (ops : Array Oper) (s : St) : St := s.kill (creates ops)
theorem wpAny_head (htt : TOK P tt) (hett : ETOK P tt et) (hok : OrderOk ops) {K : St → Prop} {Q : Exit → Act → World → Prop} (hQ : ∀ s a w, K s → RS base w0 F0 s a w → Q .normal a w) {k : Nat} (hk : k ≤ ops.size) (htail : ∀ i o, ops[i]? = some o → k ≤ i → ∀ S, Closed ops S → S i → ∀ j, j < i → S j)
    {s s' : St} {tr : List (AV × Option Ob)} (htr : Tr P tt et ops (ops.toList.take k) s tr s') (hs0 : ∀ (j : Nat) (o : Oper) (d : Nat), ops[j]? = some o → makes o = true → o.dst = some d → lk s.ob d = none)
    (hrest : aops P tt et ops (ops.toList.drop k) s' K) :
    ∀ (m fuel : Nat) (listed : Array Bool) (a : Act) (w : World) (ι : Nat → Option Nat) (ev : Nat → AV), (List.range k).countP (fun j => !listed.getD j false) = m → m + (ops.size - k) ≤ fuel → listed.size = ops.size → (∀ j, k ≤ j → listed.getD j false = false) →
      InvD ops tr s base w0 F0 (lk s'.ob) (fun j => listed.getD j false = true) a w ι ev → wpAny P .any ops Q fuel listed a w := by
  obtain ⟨t1, t2, t3, t4, t5, t6, t7, t8⟩ := htr.at
  have lst2 : ∀ {j : Nat} {o' : Oper}, j < k → ops[j]? = some o' → (ops.toList.take k)[j]? = some o' := fun {j o'} hk hj => by rw [List.getElem?_take, if_pos hk, Array.getElem?_toList]; exact hj
  have lst1 : ∀ {j : Nat} {o' : Oper}, (ops.toList.take k)[j]? = some o' → j < k ∧ ops[j]? = some o' := fun {j o'} hj => by
    rw [List.getElem?_take] at hj
    split at hj
    · rename_i h; exact ⟨h, by rwa [Array.getElem?_toList] at hj⟩
    · cases hj
  intro m
  induction m with
  | zero =>
    intro fuel listed a w ι ev hm hf hsz hhi hinv
    have hall : ∀ j, j < k → listed.getD j false = true := by
      intro j hj
      have := List.countP_eq_zero.1 hm j (List.mem_range.2 hj)
      simpa using this
    refine wpAny_tail htt hett hok hQ htail (ops.toList.drop k) k fuel listed s' a w (Nat.le_refl _) rfl (by simp; omega) hsz ?_ hrest ⟨ι, ?_, ?_⟩
    · intro j hj
      constructor
      · intro h
        rcases Nat.lt_or_ge j k with h2 | h2
        · exact h2
        · rw [hhi j h2] at h; cases h
      · exact hall j
    · have hev : s'.get = ev := by
        funext t
        by_cases hex : ∃ j o', ops[j]? = some o' ∧ o'.dst = some t ∧ j < k
        · obtain ⟨j, o', hj, hd, hjk⟩ := hex
          obtain ⟨x', ob', _, k1', _⟩ := t3 j o' (lst2 hjk hj)
          rw [hinv.ein j o' t x' ob' hj (hall j hjk) hd k1']
          exact t5 t j o' x' ob' (lst2 hjk hj) k1' hd (fun j2 o2 h1 h2 h3 => by
            have := hok.uniq.uniq _ _ _ _ _ hj (lst1 h2).2 hd h3; omega)
        · have hno : ∀ j o', ops[j]? = some o' → j < k → o'.dst ≠ some t := fun j o' hj hjk hd => hex ⟨j, o', hj, hd, hjk⟩
          rw [hinv.eout t (fun j o' hj hS => hno j o' hj (by
            rcases Nat.lt_or_ge j k with h2 | h2
            · exact h2
            · have hS : listed.getD j false = true := hS
              rw [hhi j h2] at hS; cases hS))]
          exact t4 t (fun j o' hj => hno j o' (lst1 hj).2 (lst1 hj).1)
      rw [hev, t2]
      exact hinv.core
    · intro i o hi
      rcases t6 i o hi with h1 | ⟨j, o', x', hj, htj, hd⟩
      · exact hinv.old i o h1
      · left
        exact hinv.made j o' i x' o (lst1 hj).2 (hall j (lst1 hj).1) hd htj
  | succ m ih =>
    intro fuel listed a w ι ev hm hf hsz hhi hinv
    -- one that is not yet listed
    have hex : ∃ j, j < k ∧ listed.getD j false = false := by
      have : 0 < (List.range k).countP (fun j => !listed.getD j false) := by omega
      obtain ⟨j, hj, hj2⟩ := List.countP_pos_iff.1 this
      exact ⟨j, List.mem_range.1 hj, by simpa using hj2⟩
    have hready : Region.ready .any ops listed ≠ [] := by
      obtain ⟨j, hj, hj2⟩ := hex
      -- the least one
      have key : ∀ n j, j < n → j < k → listed.getD j false = false → ∃ i, i ∈ Region.ready .any ops listed := by
        intro n
        induction n with
        | zero => intro j h; omega
        | succ n ihn =>
          intro j hjn hjk hjl
          by_cases hbad : ∃ i, i < j ∧ listed.getD i false = false
          · obtain ⟨i, hi, hil⟩ := hbad
            exact ihn i (by omega) (by omega) hil
          · refine ⟨j, ?_⟩
            have hjs : j < ops.size := by omega
            rw [mem_ready]
            refine ⟨?_, ops[j], Array.getElem?_eq_getElem hjs, ?_⟩
            · rw [Array.getD_eq_getD_getElem?, Array.getElem?_eq_getElem (by omega)] at hjl ⊢
              simpa using hjl
            · intro e he hb
              have hlt := hok.before j _ e (Array.getElem?_eq_getElem hjs) (by simpa using he) hb
              cases hv : listed.getD e.on false with
              | true => rfl
              | false => exact absurd ⟨e.on, hlt, hv⟩ hbad
      obtain ⟨i, hi⟩ := key (j + 1) j (by omega) hj hj2
      intro h
      rw [h] at hi; cases hi
    cases fuel with
    | zero => omega
    | succ f =>
      refine ⟨fun h => absurd h hready, fun i hi => ?_⟩
      rw [mem_ready] at hi
      obtain ⟨hi1, o, ho, hi2⟩ := hi
      have his : i < ops.size := (Array.getElem?_eq_some_iff.1 ho).1
      have hil : listed.getD i false = false := by
        rw [Array.getD_eq_getD_getElem?, Array.getElem?_eq_getElem (by omega)] at hi1 ⊢
        simpa using hi1
      have hset : ∀ j, (listed.setIfInBounds i true).getD j false = true ↔ listed.getD j false = true ∨ j = i := by
        intro j
        rw [Array.getD_eq_getD_getElem?, Array.getElem?_setIfInBounds]
        by_cases e : i = j
        · subst e; simp [show i < listed.size by omega]
        · have e' : j ≠ i := fun h => e h.symm
          rw [if_neg e, ← Array.getD_eq_getD_getElem?]
          simp [e']
      -- it is one of the head
      have hik : i < k := by
        rcases Nat.lt_or_ge i k with h | h
        · exact h
        · obtain ⟨j, hj, hj2⟩ := hex
          have hcl : Closed ops fun q => listed.getD q false = true ∨ q = i := by
            intro q oq e hq hSq he hb
            rcases hSq with h1 | rfl
            · exact .inl (hinv.clo q oq e hq h1 he hb)
            · rw [ho] at hq
              injection hq with hq
              subst hq
              exact .inl (hi2 e (by simpa using he) hb)
          rcases htail i o ho h _ hcl (.inr rfl) j (by omega) with h1 | h1
          · rw [hj2] at h1; cases h1
          · omega
      refine InvD.step htt hett hok htr hs0 hinv ho hik (by rw [hil]; simp) (fun e he hb => hi2 e (by simpa using he) hb) (S' := fun j => (listed.setIfInBounds i true).getD j false = true) hset fun a' w' ι' ev' hinv' => ?_
      refine ih f _ a' w' ι' ev' ?_ ?_ (by simpa using hsz) ?_ hinv'
      · have hc : (List.range k).countP (fun j => !(listed.setIfInBounds i true).getD j false) + 1 = (List.range k).countP (fun j => !listed.getD j false) := by
          have gen : ∀ (l : List Nat), l.Nodup → i ∈ l → l.countP (fun j => !(listed.setIfInBounds i true).getD j false) + 1 = l.countP (fun j => !listed.getD j false) := by
            intro l
            induction l with
            | nil => intro _ h; cases h
            | cons q r ihl =>
              intro hnd hmem
              rw [List.nodup_cons] at hnd
              simp only [List.countP_cons]
              by_cases e : q = i
              · subst e
                have h1 : (listed.setIfInBounds q true).getD q false = true := (hset q).2 (.inr rfl)
                have h2 : r.countP (fun j => !(listed.setIfInBounds q true).getD j false) = r.countP (fun j => !listed.getD j false) := by
                  refine List.countP_congr fun j hj => ?_
                  have hne : j ≠ q := by rintro rfl; exact hnd.1 hj
                  have e2 : (listed.setIfInBounds q true).getD j false = listed.getD j false := Bool.eq_iff_iff.2 ⟨fun h => ((hset j).1 h).resolve_right hne, fun h => (hset j).2 (.inl h)⟩
                  rw [e2]
                rw [h1, h2, hil]
                simp
              · have hmem : i ∈ r := by
                  rcases List.mem_cons.1 hmem with h | h
                  · exact absurd h.symm e
                  · exact h
                have h1 : (listed.setIfInBounds i true).getD q false = listed.getD q false := Bool.eq_iff_iff.2 ⟨fun h => ((hset q).1 h).resolve_right e, fun h => (hset q).2 (.inl h)⟩
                have := ihl hnd.2 hmem
                rw [h1]
                omega
          exact gen _ List.nodup_range (List.mem_range.2 hik)
        omega
      · omega
      · intro j hj
        cases hv : (listed.setIfInBounds i true).getD j false with
        | false => rfl
        | true =>
          rcases (hset j).1 hv with h1 | h1
          · rw [hhi j hj] at h1; cases h1
          · omega

/-- A region that draws its order: its first k operations are calm, the rest come behind them all. -/
theorem AW.regionD (htt : TOK P tt) (hett : ETOK P tt et) (hm : P.follows .mixedOrders = true) {id : Nat} (k : Nat) (hk : k ≤ ops.size) (hok : orderOk ops = true) (ht : tailOk ops k = true) {s : St} {Q : Exit → St → Prop}
    (h : runD P tt et ops (ops.toList.take k) (killC ops s) fun s' => aops P tt et ops (ops.toList.drop k) s' (Q .normal)) : AW P (.region id ops true) s Q := by
  intro base w0 F0 a w hr
  have hO := orderOk_spec hok
  refine wp_region_any hm ?_
  obtain ⟨tr, s', htr, hK⟩ := runD_trace _ _ _ h
  have htail : ∀ i o, ops[i]? = some o → k ≤ i → ∀ S, Closed ops S → S i → ∀ j, j < i → S j := by
    intro i o ho hki S hS hSi j hj
    unfold tailOk at ht
    simp only [List.all_eq_true, List.mem_range, Bool.or_eq_true, decide_eq_true_eq] at ht
    have := ht i (by simpa using (Array.getElem?_eq_some_iff.1 ho).1)
    rcases this with h1 | h1
    · omega
    · exact closGo_spec hS ops.toList [] rfl (by simp) i j (by simpa using h1 j hj) hSi
  have hr2 := Weak.kill s (creates ops) _ _ _ _ _ hr
  obtain ⟨ι, hc, hf⟩ := hr2
  have hs0 : ∀ (j : Nat) (o : Oper) (d : Nat), ops[j]? = some o → makes o = true → o.dst = some d → lk (killC ops s).ob d = none := by
    intro j o d hj hm hd
    unfold killC St.kill
    rw [St.lk_sub, if_pos]
    unfold creates
    rw [List.any_eq_true]
    exact ⟨o, by rw [← Array.getElem?_toList] at hj; exact List.mem_of_getElem? hj, by simp [hm, hd]⟩
  have hfresh : ∀ (j : Nat) (o : Oper) (d : Nat), ops[j]? = some o → makes o = true → o.dst = some d → ι d = none := by
    intro j o d hj hm hd
    cases hi : ι d with
    | none => rfl
    | some b =>
      obtain ⟨oo, h1, _⟩ := hc.obs d b hi
      have := hs0 j o d hj hm hd
      unfold killC at this
      rw [this] at h1
      cases h1
  obtain ⟨t1, t2, t3, t4, t5, t6, t7, t8⟩ := htr.at
  have hrep : ∀ j, (Array.replicate ops.size false).getD j false = false := by
    intro j
    rw [Array.getD_eq_getD_getElem?, Array.getElem?_replicate]
    split <;> rfl
  refine wpAny_head (base := base) (w0 := w0) (F0 := F0) htt hett hO (fun s a w h hr => ⟨s, h, hr⟩) hk htail htr hs0 hK k ops.size _ _ _ ι (killC ops s).get ?_ (by omega) (by simp) (fun j _ => hrep j) ?_
  · have : (List.range k).countP (fun j => !(Array.replicate ops.size false).getD j false) = (List.range k).countP fun _ => true := List.countP_congr fun j _ => by rw [hrep]; simp
    rw [this]
    simp
  · refine ⟨?_, hf, fun j o d x oo _ hS => ?_, fun j o d hj _ hm hd => hfresh j o d hj hm hd, fun j o d x ob _ hS => ?_, fun t _ => rfl, fun i o e _ hS => ?_⟩
    · -- what is there from the beginning stays
      have hd := hc.drew
      refine { hd with obs := fun i b hi => ?_ }
      obtain ⟨oo, h1, h2⟩ := hd.obs i b hi
      refine ⟨oo, t7 i oo h1 (fun j o' x' o2 hj htj hdj => ?_), h2⟩
      have hj2 : ops[j]? = some o' := by
        rw [List.getElem?_take] at hj
        split at hj
        · rwa [Array.getElem?_toList] at hj
        · cases hj
      obtain ⟨x3, ob3, sk3, q1, _, _, q4, _⟩ := t3 j o' hj
      rw [q1] at htj
      simp only [Option.some.injEq, Prod.mk.injEq] at htj
      obtain ⟨rfl, rfl⟩ := htj
      have hm : makes o' = true := by
        unfold calmG at q4
        cases hg : o'.guard with
        | none => rw [hg] at q4; exact calm_makes q4
        | some q =>
          obtain ⟨jj, want⟩ := q
          rw [hg] at q4
          obtain ⟨d2, b2, _, _, r3, r4⟩ := q4
          by_cases hb : b2 = some want
          · exact calm_makes (r3 hb)
          · exact absurd (r4 hb).2 (by simp)
      rw [hfresh j o' i hj2 hm hdj] at hi
      cases hi
    · rw [hrep] at hS; cases hS
    · rw [hrep] at hS; cases hS
    · rw [hrep] at hS; cases hS
end
end Go.Proofs.Ab

namespace Go.Proofs.Ab
open Go Go.RowKit
set_option linter.unusedVariables false
set_option linter.unusedSimpArgs false

/-! ### Stepping by hand -/
def resL (tt : TypeId → Option TI) (vs : List ResultVar) (r : AV) (e : Exit) (s : St) : Prop :=
  match e with
  | .normal => resA tt s vs r
  | .ret => resA tt s vs r
  | _ => False
section
variable {P : Program} {tt : TypeId → Option TI} {et : TypeId → Bool}
theorem goodF (htt : TOK P tt) {f : FuncId} {fn : Func} {c : Code} {args : List AV} {r : AV} {nt : Nat} {vs : List ResultVar} (hf : P.funcs[f]? = some fn) (hb : fn.body = some c) (hnt : fn.ntmps = nt) (hres : fn.results.toList = vs)
    (hnm : (fn.name == "runtime.NumGoroutine") = false) (hn : args.length ≤ nt) (hr : dataA r) (h : AW P c (start nt args) (resL tt vs r)) : Good P f args r := by
  subst hnt hres
  refine good_of htt hf hb hnm hn hr (AW.mono h ?_)
  intro e s q
  cases e <;> first | exact q | exact q.elim
theorem aops.nil {ops : Array Oper} {s : St} {K : St → Prop} (h : K s) : aops P tt et ops [] s K := h
theorem aops.cons {ops : Array Oper} {o : Oper} {r : List Oper} {s : St} {K : St → Prop} (h : ∀ K' : St → Prop, (∀ s', aops P tt et ops r s' K → K' s') → stepG P tt et ops o s K') : aops P tt et ops (o :: r) s K := ⟨s, Weak.refl s, .inl (h _ fun _ h => h)⟩
theorem aops.consX {ops : Array Oper} {o : Oper} {r : List Oper} {s : St} {K : St → Prop} (h : ∀ K' : St → Prop, (∀ s', aops P tt et ops r s' K → K' s') → stepX P o s K') : aops P tt et ops (o :: r) s K := ⟨s, Weak.refl s, .inr (h _ fun _ h => h)⟩
theorem aops.weakE {ops : Array Oper} {o : Oper} {r : List Oper} {s s1 s2 : St} {K : St → Prop} (hw : Weak s s1) (e : s1 = s2) (h : aops P tt et ops (o :: r) s2 K) : aops P tt et ops (o :: r) s K := by
  subst e
  obtain ⟨s0, h1, h2⟩ := h
  exact ⟨s0, hw.trans h1, h2⟩
theorem AW.seqR (htt : TOK P tt) (hett : ETOK P tt et) {id : Nat} {ops : List Oper} {y : Code} {s : St} {Q : Exit → St → Prop} (h : aops P tt et ⟨ops⟩ ops s fun s' => AW P y s' Q) : AW P (.seq (.region id ⟨ops⟩ false) y) s Q := AW.seq (AW.region htt hett h)
theorem AW.lastR (htt : TOK P tt) (hett : ETOK P tt et) {id : Nat} {ops : List Oper} {s : St} {Q : Exit → St → Prop} (h : aops P tt et ⟨ops⟩ ops s (Q .normal)) : AW P (.region id ⟨ops⟩ false) s Q := AW.region htt hett h
theorem AW.seqSkip {y : Code} {s : St} {Q : Exit → St → Prop} (h : AW P y s Q) : AW P (.seq .skip y) s Q := AW.seq (AW.skip h)
theorem AW.condE {c : Operand} {x y : Code} {s : St} {Q : Exit → St → Prop} (b : Bool) (hc : evO s.get c = .d (.v (.bool b))) (ht : b = true → AW P x s Q) (hf : b = false → AW P y s Q) : AW P (.cond c x y) s Q := AW.cond b hc ht hf
/-- Both arms meet, or leave. -/
theorem AW.seqCond {c : Operand} {x y z : Code} {s : St} {Q : Exit → St → Prop} (b : Bool) (hc : evO s.get c = .d (.v (.bool b)))
    (ht : b = true → ∀ Q', (∀ s', AW P z s' Q → Q' .normal s') → (∀ e s', e ≠ .normal → Q e s' → Q' e s') → AW P x s Q')
    (hf : b = false → ∀ Q', (∀ s', AW P z s' Q → Q' .normal s') → (∀ e s', e ≠ .normal → Q e s' → Q' e s') → AW P y s Q') : AW P (.seq (.cond c x y) z) s Q := by
  refine AW.seq (AW.cond b hc (fun h => ht h _ (fun s' h => h) ?_) (fun h => hf h _ (fun s' h => h) ?_)) <;>
  · intro e s' he hq
    cases e <;> first | exact absurd rfl he | exact hq
theorem AW.iter {c : Code} {s : St} {Q : Exit → St → Prop} (st : Nat → St) (N : Nat) (h0 : Weak s (st 0)) (hr : ∀ k, k ≤ N → AW P c (st k) (andThen (fun s' => k < N ∧ Weak s' (st (k + 1))) Q)) : AW P (.loop c) s Q :=
  AW.loop (fun n s' => ∃ k, k ≤ N ∧ n = N - k ∧ s' = st k) N h0 ⟨0, Nat.zero_le _, rfl, rfl⟩ fun n s' ⟨k, hk, hn, he⟩ => by
    subst he
    refine AW.mono (hr k hk) ?_
    intro e s'' q
    cases e with
    | normal => exact ⟨N - (k + 1), st (k + 1), by have := q.1; omega, q.2, k + 1, by have := q.1; omega, rfl, rfl⟩
    | _ => exact q
/-- As 'iter', with what has been seen so far. -/
theorem AW.iterI {c : Code} {s : St} {Q : Exit → St → Prop} (I : Nat → St → Prop) (N : Nat) {s₀ : St} (h0 : Weak s s₀) (h1 : I 0 s₀) (hr : ∀ k s, k ≤ N → I k s → AW P c s (andThen (fun s' => k < N ∧ ∃ s'', Weak s' s'' ∧ I (k + 1) s'') Q)) : AW P (.loop c) s Q :=
  AW.loop (fun n s' => ∃ k, k ≤ N ∧ n = N - k ∧ I k s') N h0 ⟨0, Nat.zero_le _, rfl, h1⟩ fun n s' ⟨k, hk, hn, he⟩ => by
    refine AW.mono (hr k s' hk he) ?_
    intro e s'' q
    cases e with
    | normal =>
      obtain ⟨q1, s3, q2, q3⟩ := q
      exact ⟨N - (k + 1), s3, by omega, q2, k + 1, by omega, rfl, q3⟩
    | _ => exact q
/-- What an ending must give, with the normal one aside. -/
theorem andThen_of {K : St → Prop} {Q : Exit → St → Prop} {e : Exit} {s : St} (he : e ≠ .normal) (h : Q e s) : andThen K Q e s := by
  cases e <;> first | exact absurd rfl he | exact h
end

/-! ### Weakening between states written out -/
def allLe (s : St) : List (Nat × AV) → Prop
  | [] => True
  | (t, x) :: r => Le (s.get t) x ∧ allLe s r
theorem allLe.at {s : St} : ∀ {l : List (Nat × AV)}, allLe s l → ∀ t x, lk l t = some x → Le (s.get t) x := by
  intro l
  induction l with
  | nil => intro _ t x h; cases h
  | cons p r ih =>
    obtain ⟨j, y⟩ := p
    intro h t x e
    simp only [lk] at e
    split at e
    · rename_i hj; injection e with e; subst hj e; exact h.1
    · exact ih h.2 t x e
theorem Weak.to {nt : Nat} {tm tm' : List (Nat × AV)} {ob : List (Nat × Ob)} (h : allLe ⟨nt, tm, ob⟩ tm') : Weak ⟨nt, tm, ob⟩ ⟨nt, tm', ob⟩ :=
  Weak.less ⟨nt, tm, ob⟩ tm' (fun t x e => h.at t x e)
theorem Weak.obs {nt : Nat} {tm : List (Nat × AV)} {ob ob' : List (Nat × Ob)} (h : ∀ i, lk ob i = lk ob' i) : Weak ⟨nt, tm, ob⟩ ⟨nt, tm, ob'⟩ := by
  have h' : lk ob = lk ob' := funext h
  rintro base w0 F0 a w ⟨ι, hc, hfull⟩
  refine ⟨ι, ?_, ?_⟩
  · show Core nt base w0 F0 ι (lk ob') _ a w
    rw [← h']; exact hc
  · intro i o ho
    exact hfull i o (by show lk ob i = _; rw [h']; exact ho)
theorem Le.of {x y : AV} (h : x = y) : Le x y := h ▸ Le.refl x
@[simp] theorem Le.refl' (x : AV) : Le x x ↔ True := ⟨fun _ => trivial, fun _ => Le.refl x⟩
theorem wrap64 {n : Int} (h1 : -9223372036854775808 ≤ n) (h2 : n ≤ 9223372036854775807) : IntKind.i64.wrap n = n := IntWalk.i64_in n ⟨h1, h2⟩

def dI (n : Int) : D := .v (.int .i64 n)
def dB (b : Bool) : D := .v (.bool b)
def dS (s : ByteArray) : D := .v (.string s)
abbrev aI (n : Int) : AV := .d (.v (.int .i64 n))
abbrev aB (b : Bool) : AV := .d (.v (.bool b))
abbrev aNil : AV := .d (.v (.slice none 0 0))
@[simp] theorem eI_length (l : List Int) : (eI l).length = l.length := by simp [eI]
theorem eI_get (l : List Int) (n : Nat) : (eI l)[n]? = (l[n]?).map fun n => [D.v (.int .i64 n)] := by simp [eI]
theorem eI_take (l : List Int) (n : Nat) : (eI l).take n = eI (l.take n) := by simp [eI, List.map_take]
theorem eI_drop (l : List Int) (n : Nat) : (eI l).drop n = eI (l.drop n) := by simp [eI, List.map_drop]
theorem eI_append (l m : List Int) : eI l ++ eI m = eI (l ++ m) := by simp [eI]
theorem eI_nil : ([] : List (List D)) = eI [] := rfl
theorem eI_one (n : Int) : [[D.v (.int .i64 n)]] = eI [n] := rfl

attribute [simp] allT gd stepG stepA calm dstOk start numbered St.ready St.fin St.put makes evO St.get lk ins del
attribute [simp] St.new St.kill St.sub mapT mapO AV.sub AV.subL Ob.sub loadA fieldA fieldAddrA Ab.pick idxA cutA cutV cutL optInt AV.sizeOk CutOk intBin binA nilA unA lenA LenOk storeA appA elemsOf baseOf AV.cells AV.one D.one toDs setR passA passL fillA elemsA frzA frzV AV.int? TI.size TI.row TI.bytes TI.zeros TI.zero allLe Value.oneCell'
end Go.Proofs.Ab
namespace Go.Proofs.Ab
theorem lk_mem {α : Type} {x : α} {t : Nat} : ∀ {l : List (Nat × α)}, lk l t = some x → (t, x) ∈ l := by
  intro l
  induction l with
  | nil => intro h; cases h
  | cons p r ih =>
    obtain ⟨j, y⟩ := p
    intro h
    simp only [lk] at h
    split at h
    · rename_i e; injection h with h; subst e h; exact List.mem_cons_self ..
    · exact List.mem_cons_of_mem _ (ih h)
end Go.Proofs.Ab

namespace Go.Proofs.Ab
open Go Go.RowKit
set_option linter.unusedVariables false
set_option linter.unusedSimpArgs false

/-! ### The api's data -/
structure Val where
  kind : Int
  num : Int
  text : ByteArray
structure Node where
  kind : Int
  num : Int
  value : Val
structure Key where
  col : Int
  falls : Bool
  nulls : Bool
structure Agg where
  kind : Int
  col : Int
  name : ByteArray
structure PStep where
  kind : Int
  num : Int
  skip : Int
  name : ByteArray
  exprs : List (List Node)
  names : List ByteArray
  cols : List Int
  keys : List Key
  aggs : List Agg
attribute [simp] dI dB dS
def eS (l : List ByteArray) : List (List D) := l.map fun n => [.v (.string n)]
def valC (v : Val) : List D := [dI v.kind, dI v.num, dS v.text]
def nodeC (n : Node) : List D := [dI n.kind, dI n.num, dI n.value.kind, dI n.value.num, dS n.value.text]
def exprC (e : List Node) : List D := [.sl 5 (e.map nodeC)]
def keyC (k : Key) : List D := [dI k.col, dB k.falls, dB k.nulls]
def aggC (a : Agg) : List D := [dI a.kind, dI a.col, dS a.name]
def stepC (s : PStep) : List D := [dI s.kind, dI s.num, dI s.skip, dS s.name, .sl 1 (s.exprs.map exprC), .sl 1 (eS s.names), .sl 1 (eI s.cols), .sl 3 (s.keys.map keyC), .sl 3 (s.aggs.map aggC)]
abbrev aStep (s : PStep) : AV := .ag ((stepC s).map .d)
abbrev aPlan (p : List PStep) : AV := .ag [.d (.sl 9 (p.map stepC))]
attribute [simp] valC nodeC exprC keyC aggC stepC
theorem get_of_drop {α : Type} {l r : List α} {k : Nat} {x : α} (h : l.drop k = x :: r) : l[k]? = some x ∧ l.drop (k + 1) = r ∧ k < l.length := by
  have h1 : (l.drop k)[0]? = some x := by rw [h]; rfl
  rw [List.getElem?_drop] at h1
  have h2 : k < l.length := (List.getElem?_eq_some_iff.1 h1).1
  refine ⟨h1, ?_, h2⟩
  rw [← List.drop_drop, h]
  rfl
end Go.Proofs.Ab
namespace Go.Proofs.Ab
open Go
@[simp] theorem eqlIf (b : Bool) : (BinOp.eql = if b = true then BinOp.neq else BinOp.eql) ↔ b = false := by cases b <;> simp
@[simp] theorem neqIf (b : Bool) : (BinOp.neq = if b = true then BinOp.neq else BinOp.eql) ↔ b = true := by cases b <;> simp
@[simp] theorem othIf (o : BinOp) (h1 : o ≠ .eql) (h2 : o ≠ .neq) (b : Bool) : (o = if b = true then BinOp.neq else BinOp.eql) ↔ False := by cases b <;> simp [h1, h2]
attribute [simp] eqA strBin
end Go.Proofs.Ab
namespace Go.Proofs.Ab
open Go
theorem AW.weakE {P : Program} {c : Code} {s s1 s2 : St} {Q : Exit → St → Prop} (h : Weak s s1) (e : s1 = s2) (k : AW P c s2 Q) : AW P c s Q := AW.weak (e ▸ h) k
theorem Weak.thenE {s s1 s2 s3 : St} (h : Weak s s1) (e : s1 = s2) (k : Weak s2 s3) : Weak s s3 := Weak.trans (e ▸ h) k
theorem Weak.killE (s : St) (i : Nat) : Weak s (s.kill fun j => j == i) := Weak.kill s _
end Go.Proofs.Ab
namespace Go.Proofs.Ab
open Go
theorem callA {P : Program} {f : FuncId} {args xs : List AV} {r : AV} {K : AV → Prop} (h : Good P f args r) (hl : LeL xs args) (k : K r) : ∃ a, LeL xs a ∧ ∃ r, Good P f a r ∧ K r := ⟨args, hl, r, h, k⟩
end Go.Proofs.Ab
namespace Go.Proofs.Ab
open Go
theorem AW.join {P : Program} {c z : Code} {s : St} {Q Q0 : Exit → St → Prop} (S : St) (h : AW P c s (andThen (fun s' => Weak s' S) Q)) (k : AW P z S Q0) : AW P c s (andThen (fun s' => AW P z s' Q0) Q) :=
  AW.mono h fun e s' q => by
    cases e with
    | normal => exact AW.weak q k
    | _ => exact q
end Go.Proofs.Ab
namespace Go.Proofs.Ab
open Go
@[simp] theorem eI_getE (l : List Int) (n : Nat) (h : n < (eI l).length) : (eI l)[n] = [D.v (.int .i64 (l[n]'(by simpa using h)))] := by simp [eI]
@[simp] theorem eS_length (l : List ByteArray) : (eS l).length = l.length := by simp [eS]
@[simp] theorem eS_getE (l : List ByteArray) (n : Nat) (h : n < (eS l).length) : (eS l)[n] = [D.v (.string (l[n]'(by simpa using h)))] := by simp [eS]
end Go.Proofs.Ab
attribute [simp] Go.Proofs.Ab.AV.d?

namespace Go.Proofs.Ab
open Go Go.RowKit
set_option linter.unusedVariables false
set_option linter.unusedSimpArgs false
mutual
theorem AV.sub_no (g : AV → AV) : ∀ x : AV, x.sub (fun _ => false) g = x
  | .un => rfl
  | .d _ => rfl
  | .bs .. => rfl
  | .cp .. => rfl
  | .bp .. => rfl
  | .pt .. => rfl
  | .pe .. => rfl
  | .ms .. => rfl
  | .cl f caps => by simp [AV.subL_no g caps]
  | .ag cs => by simp [AV.subL_no g cs]
  | .tp cs => by simp [AV.subL_no g cs]
theorem AV.subL_no (g : AV → AV) : ∀ l : List AV, AV.subL (fun _ => false) g l = l
  | [] => rfl
  | x :: r => by simp [AV.sub_no g x, AV.subL_no g r]
end
theorem del_no {α : Type} (l : List (Nat × α)) : del (fun _ => false) l = l := by
  induction l with
  | nil => rfl
  | cons p r ih => obtain ⟨j, y⟩ := p; simp [ih]
theorem Ob.sub_no (g : AV → AV) (o : Ob) : o.sub (fun _ => false) g = o := by cases o <;> simp [Ob.sub, AV.subL_no]
theorem killC_no {ops : Array Oper} (h : ops.toList.all (fun o => !makes o) = true) (s : St) : killC ops s = s := by
  have : creates ops = fun _ => false := by
    funext d
    unfold creates
    rw [List.any_eq_false]
    intro o ho
    have := List.all_eq_true.1 h o ho
    simp only [Bool.not_eq_true'] at this
    rw [this]; simp
  unfold killC
  rw [this]
  obtain ⟨nt, tm, ob⟩ := s
  show St.mk nt (mapT (AV.sub _ _) tm) (mapO (Ob.sub _ _) (del _ ob)) = _
  rw [del_no]
  congr 1
  · unfold mapT
    rw [List.map_congr_left (g := id)]
    · simp
    · intro q _; rw [AV.sub_no]; rfl
  · unfold mapO
    rw [List.map_congr_left (g := id)]
    · simp
    · intro q _; rw [Ob.sub_no]; rfl
def isCalm (o : Oper) : Bool := match o.op with | .store .. => false | .call ⟨.builtin .append, _, _⟩ => false | _ => true
def calmCount : List Oper → Nat
  | [] => 0
  | o :: r => if isCalm o then calmCount r + 1 else 0
section
variable {P : Program} {tt : TypeId → Option TI} {et : TypeId → Bool}
theorem runD.nil {ops : Array Oper} {s : St} {K : St → Prop} (h : K s) : runD P tt et ops [] s K := h
theorem runD.cons {ops : Array Oper} {o : Oper} {r : List Oper} {s : St} {K : St → Prop} (h : ∀ K' : AV → Option Ob → Prop, (∀ x ob, runD P tt et ops r (s.fin o.dst x ob) K → K' x ob) → dstOk o s ∧ calmG P tt et ops o s.get (lk s.ob) K') : runD P tt et ops (o :: r) s K :=
  h _ fun _ _ h => h
theorem runD.eqs {ops : Array Oper} {r : List Oper} {s s' : St} {K : St → Prop} (e : s = s') (h : runD P tt et ops r s' K) : runD P tt et ops r s K := e ▸ h
theorem AW.lastD (htt : TOK P tt) (hett : ETOK P tt et) (hm : P.follows .mixedOrders = true) {id : Nat} {l : List Oper} (k : Nat) (hk : calmCount l = k) (hk2 : decide (k ≤ l.length) = true) (hok : orderOk ⟨l⟩ = true) (ht : tailOk ⟨l⟩ k = true) (hn : l.all (fun o => !makes o) = true) {s : St} {Q : Exit → St → Prop}
    (h : runD P tt et ⟨l⟩ (l.take k) s fun s' => aops P tt et ⟨l⟩ (l.drop k) s' (Q .normal)) : AW P (.region id ⟨l⟩ true) s Q :=
  AW.regionD htt hett hm k (by simpa using hk2) hok ht (by rw [killC_no hn]; exact h)
theorem AW.seqD (htt : TOK P tt) (hett : ETOK P tt et) (hm : P.follows .mixedOrders = true) {id : Nat} {l : List Oper} {y : Code} (k : Nat) (hk : calmCount l = k) (hk2 : decide (k ≤ l.length) = true) (hok : orderOk ⟨l⟩ = true) (ht : tailOk ⟨l⟩ k = true) (hn : l.all (fun o => !makes o) = true) {s : St} {Q : Exit → St → Prop}
    (h : runD P tt et ⟨l⟩ (l.take k) s fun s' => aops P tt et ⟨l⟩ (l.drop k) s' fun s' => AW P y s' Q) : AW P (.seq (.region id ⟨l⟩ true) y) s Q :=
  AW.seq (AW.lastD htt hett hm k hk hk2 hok ht hn h)
/-- With operations that make something. -/
theorem AW.lastDM (htt : TOK P tt) (hett : ETOK P tt et) (hm : P.follows .mixedOrders = true) {id : Nat} {l : List Oper} (k : Nat) (hk : calmCount l = k) (hk2 : decide (k ≤ l.length) = true) (hok : orderOk ⟨l⟩ = true) (ht : tailOk ⟨l⟩ k = true) {s s0 : St} {Q : Exit → St → Prop} (hs : killC ⟨l⟩ s = s0)
    (h : runD P tt et ⟨l⟩ (l.take k) s0 fun s' => aops P tt et ⟨l⟩ (l.drop k) s' (Q .normal)) : AW P (.region id ⟨l⟩ true) s Q :=
  AW.regionD htt hett hm k (by simpa using hk2) hok ht (by rw [hs]; exact h)
theorem AW.seqDM (htt : TOK P tt) (hett : ETOK P tt et) (hm : P.follows .mixedOrders = true) {id : Nat} {l : List Oper} {y : Code} (k : Nat) (hk : calmCount l = k) (hk2 : decide (k ≤ l.length) = true) (hok : orderOk ⟨l⟩ = true) (ht : tailOk ⟨l⟩ k = true) {s s0 : St} {Q : Exit → St → Prop} (hs : killC ⟨l⟩ s = s0)
    (h : runD P tt et ⟨l⟩ (l.take k) s0 fun s' => aops P tt et ⟨l⟩ (l.drop k) s' fun s' => AW P y s' Q) : AW P (.seq (.region id ⟨l⟩ true) y) s Q :=
  AW.seq (AW.lastDM htt hett hm k hk hk2 hok ht hs h)
end
attribute [simp] calmG creates killC
end Go.Proofs.Ab

namespace Go.Proofs.Ab
open Go Go.RowKit
set_option linter.unusedVariables false
set_option linter.unusedSimpArgs false
/-! ### A region in whatever order, all orders told -/
def left (L : List Bool) : Nat := L.count false
def AnyW (P : Program) (ops : Array Oper) (L : List Bool) (s : St) (Q : Exit → St → Prop) : Prop :=
  ∀ base w0 F0 a w fuel, RS base w0 F0 s a w → left L ≤ fuel → wpAny P .any ops (fun e a' w' => ∃ s', Q e s' ∧ RS base w0 F0 s' a' w') fuel L.toArray a w
section
variable {P : Program} {tt : TypeId → Option TI} {et : TypeId → Bool} {ops : Array Oper} {L : List Bool} {s : St} {Q : Exit → St → Prop}
theorem AnyW.weak {s' : St} (h : Weak s s') (k : AnyW P ops L s' Q) : AnyW P ops L s Q := fun base w0 F0 a w fuel hr => k base w0 F0 a w fuel (h _ _ _ _ _ hr)
theorem AnyW.done (hr : Region.ready .any ops L.toArray = []) (h : Q .normal s) : AnyW P ops L s Q := by
  intro base w0 F0 a w fuel hrs _
  cases fuel with
  | zero => exact ⟨hr, s, h, hrs⟩
  | succ f => exact ⟨fun _ => ⟨s, h, hrs⟩, fun i hi => by rw [hr] at hi; cases hi⟩
theorem left_set : ∀ (L : List Bool) (i : Nat), L[i]? = some false → left L = left (L.set i true) + 1 := by
  intro L
  induction L with
  | nil => intro i h; simp at h
  | cons b r ih =>
    intro i h
    cases i with
    | zero => simp at h; subst h; simp [left]
    | succ i =>
      have := ih i (by simpa using h)
      unfold left at this ⊢
      simp only [List.set_cons_succ, List.count_cons, this]
      omega
theorem AnyW.step (htt : TOK P tt) (hett : ETOK P tt et) (rs : List Nat) (hr : Region.ready .any ops L.toArray = rs) (hne : rs.isEmpty = false) (hls : L.length = ops.size)
    (h : ∀ i ∈ rs, ∃ o, ops[i]? = some o ∧ stepG P tt et ops o s (fun s' => AnyW P ops (L.set i true) s' Q)) : AnyW P ops L s Q := by
  intro base w0 F0 a w fuel hrs hf
  have key : ∀ i ∈ rs, L[i]? = some false := by
    intro i hi
    rw [← hr] at hi
    unfold Region.ready at hi
    simp only [List.mem_filter, List.mem_range, Bool.and_eq_true, Bool.not_eq_true'] at hi
    obtain ⟨h1, h2, _⟩ := hi
    have hlt : i < L.length := by omega
    rw [List.getElem?_eq_getElem hlt]
    rw [Array.getD_eq_getD_getElem?] at h2
    simp [hlt] at h2
    rw [h2]
  cases fuel with
  | zero =>
    cases rs with
    | nil => cases hne
    | cons i r =>
      have := left_set L i (key i (List.mem_cons_self ..))
      omega
  | succ f =>
    refine ⟨fun hn => ?_, fun i hi => ?_⟩
    · rw [hr] at hn; subst hn; cases hne
    · rw [hr] at hi
      obtain ⟨o, ho, hst⟩ := h i hi
      have hl := left_set L i (key i hi)
      refine stepG_sound htt hett hrs ho hst fun s' a' w' hK hr' => ?_
      have := hK base w0 F0 a' w' f hr' (by omega)
      rwa [← List.setIfInBounds_toArray] at this
theorem AW.any (hm : P.follows .mixedOrders = true) {id : Nat} (L : List Bool) (hL : List.replicate ops.size false = L) (h : AnyW P ops L s Q) : AW P (.region id ops true) s Q := by
  subst hL
  intro base w0 F0 a w hr
  refine wp_region_any hm ?_
  have hr2 : RS base w0 F0 s a { w with drawn := w.drawn + 1 } := by
    obtain ⟨ι, hc, hf⟩ := hr
    exact ⟨ι, hc.drew, hf⟩
  have := h base w0 F0 a _ ops.size hr2 (by unfold left; rw [List.count_replicate]; simp)
  simpa using this
theorem AnyW.all1 {p : Nat → Prop} {i : Nat} {r : List Nat} (h1 : p i) (h2 : ∀ j ∈ r, p j) : ∀ j ∈ i :: r, p j := List.forall_mem_cons.2 ⟨h1, h2⟩
theorem AnyW.all0 {p : Nat → Prop} : ∀ j ∈ ([] : List Nat), p j := fun _ h => by cases h
/-- One of the operations that may come next. -/
theorem AnyW.one {i : Nat} {o : Oper} {L' : List Bool} (ho : ops[i]? = some o) (hL : L.set i true = L') (h : ∀ K' : St → Prop, (∀ s', AnyW P ops L' s' Q → K' s') → stepG P tt et ops o s K') : ∃ o, ops[i]? = some o ∧ stepG P tt et ops o s (fun s' => AnyW P ops (L.set i true) s' Q) :=
  ⟨o, ho, by rw [hL]; exact h _ fun _ h => h⟩
end
end Go.Proofs.Ab

namespace Go.Proofs.Ab
open Go Go.RowKit
set_option linter.unusedVariables false
set_option linter.unusedSimpArgs false
section
variable {base : Nat} {w : World} {ι : Nat → Option Nat} {F : Nat → Nat → Prop}
theorem RepL.setN : ∀ (cs : List AV) (vs : List Value) (k : Nat) (x : AV), RepL ι F base w cs vs → (∀ y v, cs[k]? = some y → RepA ι F base w y v → RepA ι F base w x v) → RepL ι F base w (cs.set k x) vs := by
  intro cs
  induction cs with
  | nil => intro vs k x h _; exact h
  | cons c r ih =>
    intro vs k x h hx
    obtain ⟨y, ys, rfl, h1, h2⟩ := h
    cases k with
    | zero => exact ⟨y, ys, rfl, hx c y rfl h1, h2⟩
    | succ k => exact ⟨y, ys, rfl, h1, ih ys k x h2 (fun y v hy => hx y v (by simpa using hy))⟩
/-- A nil slice in a variable is an array of the call's own, empty as yet. -/
theorem Weak.ownV (s : St) (id k d sz : Nat) {cs : List AV} (hid : lk s.ob id = some (.var cs)) (hk : cs[k]? = some (.d (.v (.slice none 0 0)))) (hd : lk s.ob d = none) :
    Weak s { s with ob := (d, .arr sz []) :: ins id (.var (cs.set k (.ms d sz 0 0))) s.ob } := by
  rintro base w0 F0 a w ⟨ι, hc, hfull⟩
  have hn : ι d = none := by
    cases hi : ι d with
    | none => rfl
    | some b => obtain ⟨o, h1, _⟩ := hc.obs d b hi; rw [hd] at h1; cases h1
  have hne : d ≠ id := by rintro rfl; rw [hid] at hd; cases hd
  refine ⟨ι, { hc with obs := ?_ }, ?_⟩
  · intro i b hi
    obtain ⟨o, h1, h2⟩ := hc.obs i b hi
    have hdi : d ≠ i := by rintro rfl; rw [hn] at hi; cases hi
    simp only [lk, if_neg hdi, lk_ins]
    by_cases e : id = i
    · subst e
      rw [if_pos rfl]
      rw [hid] at h1
      injection h1 with h1
      subst h1
      obtain ⟨c, T, e1, e2⟩ := h2
      refine ⟨_, rfl, c, T, e1, RepL.setN _ _ _ _ e2 ?_⟩
      intro y v hy hv
      rw [hk] at hy
      injection hy with hy
      subst hy
      obtain rfl : v = .slice none 0 0 := hv
      exact .inr ⟨rfl, none, rfl⟩
    · rw [if_neg e]
      exact ⟨o, h1, h2⟩
  · intro i o ho
    simp only [lk] at ho
    split at ho
    · injection ho with ho; exact .inr ⟨sz, ho.symm⟩
    · rw [lk_ins] at ho
      split at ho
      · rename_i e
        subst e
        left
        rcases hfull _ _ hid with h | ⟨_, h⟩
        · exact h
        · cases h
      · exact hfull i o ho
end
/-- Lists of ints as an array's elements. -/
def eG (l : List (List Int)) : List (List D) := l.map fun g => [.sl 1 (eI g)]
@[simp] theorem eG_length (l : List (List Int)) : (eG l).length = l.length := by simp [eG]
theorem eG_get (l : List (List Int)) (n : Nat) : (eG l)[n]? = (l[n]?).map fun g => [D.sl 1 (eI g)] := by simp [eG]
@[simp] theorem eG_getE (l : List (List Int)) (n : Nat) (h : n < (eG l).length) : (eG l)[n] = [D.sl 1 (eI (l[n]'(by simpa using h)))] := by simp [eG]
theorem eG_append (l m : List (List Int)) : eG l ++ eG m = eG (l ++ m) := by simp [eG]
theorem eG_one (g : List Int) : [[D.sl 1 (eI g)]] = eG [g] := rfl
theorem eG_take (l : List (List Int)) (n : Nat) : (eG l).take n = eG (l.take n) := by simp [eG, List.map_take]
@[simp] theorem eI_takeAll (l : List Int) : List.take l.length (eI l) = eI l := by rw [List.take_of_length_le (by simp)]
@[simp] theorem eG_takeAll (l : List (List Int)) : List.take l.length (eG l) = eG l := by rw [List.take_of_length_le (by simp)]
end Go.Proofs.Ab
namespace Go.Proofs.Ab
open Go
theorem Weak.to2 {nt : Nat} {tm tm' : List (Nat × AV)} {ob ob' : List (Nat × Ob)} (ho : ob = ob') (h : allLe ⟨nt, tm, ob⟩ tm') : Weak ⟨nt, tm, ob⟩ ⟨nt, tm', ob'⟩ := by
  subst ho; exact Weak.to h
theorem Weak.to3 {nt : Nat} {tm tm' : List (Nat × AV)} {ob ob' : List (Nat × Ob)} (ho : ∀ i, lk ob i = lk ob' i) (h : allLe ⟨nt, tm, ob⟩ tm') : Weak ⟨nt, tm, ob⟩ ⟨nt, tm', ob'⟩ :=
  Weak.trans (Weak.to h) (Weak.obs ho)
theorem AW.anyG {P : Program} (hm : P.follows .mixedOrders = true) {id : Nat} {ops : Array Oper} (L : List Bool) (hL : List.replicate ops.size false = L) {s : St} (Sf : St) {Q : Exit → St → Prop}
    (h : ∀ (ops' : Array Oper) (Q' : Exit → St → Prop), ops' = ops → (∀ s', Weak s' Sf → Q' .normal s') → AnyW P ops' L s Q') (k : ∀ s', Weak s' Sf → Q .normal s') : AW P (.region id ops true) s Q :=
  AW.any hm L hL (h ops Q rfl k)
end Go.Proofs.Ab

namespace Go.Proofs.Ab
open Go Go.RowKit Go.Deep
set_option linter.unusedVariables false
set_option linter.unusedSimpArgs false
def F00 : Nat → Nat → Prop := fun _ _ => False
def RepVs (w : World) : List D → List Value → Prop
  | [], vs => vs = []
  | x :: r, vs => ∃ y ys, vs = y :: ys ∧ x.one = true ∧ RepD F00 w x y ∧ RepVs w r ys
theorem RepVs.length {w : World} : ∀ {ds : List D} {vs : List Value}, RepVs w ds vs → vs.length = ds.length := by
  intro ds
  induction ds with
  | nil => intro vs h; obtain rfl := h; rfl
  | cons x r ih => intro vs h; obtain ⟨y, ys, rfl, _, _, h⟩ := h; simp [ih h]
theorem RepVs.append {w : World} : ∀ {a b : List D} {u v : List Value}, RepVs w a u → RepVs w b v → RepVs w (a ++ b) (u ++ v) := by
  intro a
  induction a with
  | nil => intro b u v h k; obtain rfl := h; exact k
  | cons x r ih => intro b u v h k; obtain ⟨y, ys, rfl, h1, h2, h3⟩ := h; exact ⟨y, ys ++ v, rfl, h1, h2, ih h3 k⟩
theorem RepVs.toL {w : World} {ι : Nat → Option Nat} {base : Nat} : ∀ {ds : List D} {vs : List Value}, RepVs w ds vs → RepL ι F00 base w (ds.map .d) vs := by
  intro ds
  induction ds with
  | nil => intro vs h; exact h
  | cons x r ih => intro vs h; obtain ⟨y, ys, rfl, h1, h2, h3⟩ := h; exact ⟨y, ys, rfl, h2, ih h3⟩
theorem RepVs.cells {w : World} {b : Nat} : ∀ {ds : List D} {cs : List Value} {o : Nat}, RepVs w ds cs → (∀ i, i < cs.length → w.cell? ⟨b, o + i, none⟩ = cs[i]?) → RepCs F00 w (Prot F00 w b) ds o := by
  intro ds
  induction ds with
  | nil => intro cs o _ _; trivial
  | cons x r ih =>
    intro cs o h hc
    obtain ⟨y, ys, rfl, h1, h2, h3⟩ := h
    refine ⟨⟨h1, y, ⟨by simpa using hc 0 (by simp), id⟩, h2⟩, ih h3 fun i hi => ?_⟩
    have := hc (i + 1) (by simp; omega)
    simpa [Nat.add_assoc, Nat.add_comm 1 i] using this
theorem RepEs.of {w : World} {pr : Nat → Value → Prop} {sz : Nat} : ∀ (es : List (List D)) (o : Nat), (∀ i e, es[i]? = some e → e.length = sz ∧ RepCs F00 w pr e (o + i * sz)) → RepEs F00 w pr sz es o := by
  intro es
  induction es with
  | nil => intro o _; trivial
  | cons e r ih =>
    intro o h
    have h0 := h 0 e rfl
    refine ⟨h0.1, by simpa using h0.2, ih _ fun i e' he => ?_⟩
    have := h (i + 1) e' (by simpa using he)
    rw [Nat.add_mul, Nat.one_mul] at this
    exact ⟨this.1, by rw [Nat.add_assoc, Nat.add_comm sz]; exact this.2⟩
theorem list_of {β : Type} {p : Nat → β → Prop} : ∀ (n : Nat), (∀ i, i < n → ∃ b, p i b) → ∃ l : List β, l.length = n ∧ ∀ i b, l[i]? = some b → p i b := by
  intro n
  induction n generalizing p with
  | zero => intro _; exact ⟨[], rfl, by simp⟩
  | succ n ih =>
    intro h
    obtain ⟨b, hb⟩ := h 0 (by omega)
    obtain ⟨l, h1, h2⟩ := ih (p := fun i b => p (i + 1) b) (fun i hi => h (i + 1) (by omega))
    refine ⟨b :: l, by simp [h1], fun i c hc => ?_⟩
    cases i with
    | zero => simp at hc; subst hc; exact hb
    | succ i => exact h2 i c (by simpa using hc)
theorem sum_le {β : Type} {sz : β → Nat} : ∀ (l : List β) (f : Nat → Nat), (∀ i b, l[i]? = some b → sz b ≤ f i) → (l.map sz).sum ≤ ((List.range l.length).map f).sum := by
  intro l
  induction l with
  | nil => intro f _; simp
  | cons b r ih =>
    intro f h
    have h0 := h 0 b rfl
    have := ih (fun i => f (i + 1)) (fun i c hc => h (i + 1) c (by simpa using hc))
    rw [List.length_cons, List.range_succ_eq_map]
    simp only [List.map_cons, List.sum_cons, List.map_map]
    have e : (List.map (f ∘ Nat.succ) (List.range r.length)) = List.map (fun i => f (i + 1)) (List.range r.length) := rfl
    rw [e]
    omega
section
variable {H : Type} (enc : TypeId × Value → H) (P : Program) (w : World) (M : DataW H → Nat)
structure IsBulk : Prop where
  lit : ∀ l, 1 ≤ M (.lit l)
  str : ∀ bs, bs.length + 1 ≤ M (.lit (.string bs))
  nil : 1 ≤ M .nil
  slice : ∀ el sp, (el.map M).sum + 1 ≤ M (.slice el sp)
  agg : ∀ ps, (ps.map M).sum + 1 ≤ M (.agg ps)
def Opens (t : TypeId) {β : Type} (ok : β → Prop) (sz : β → Nat) (g : β → List D) : Prop :=
  ∀ fuel cs x, DataW.trod enc P w 0 (fun _ => true) true fuel t cs = some x → ∃ b, ok b ∧ RepVs w (g b) cs ∧ sz b ≤ M x.1
def OpensF (N : Nat) (fs : List Field) (off : Nat) {β : Type} (ok : β → Prop) (sz : β → Nat) (g : β → List D) : Prop :=
  ∀ (fuel : Nat) (cs : List Value) (xs : List (DataW H × List MemPlace)), cs.length = N → xs.length = fs.length → (∀ (i : Nat) (f : Field), fs[i]? = some f → DataW.trod enc P w 0 (fun _ => true) true fuel f.type ((cs.drop f.offset).take (P.cellsOf f.type)) = xs[i]?) →
    ∃ b, ok b ∧ RepVs w (g b) (cs.drop off) ∧ sz b ≤ (xs.map fun x => M x.1).sum
variable {enc P w M} {t e : TypeId}
theorem opens_map {β γ : Type} {ok : β → Prop} {sz : β → Nat} {g : β → List D} {ok' : γ → Prop} {sz' : γ → Nat} {g' : γ → List D} (h : Opens enc P w M t ok sz g) (f : β → γ) (h1 : ∀ b, ok b → ok' (f b)) (h2 : ∀ b, sz' (f b) ≤ sz b) (h3 : ∀ b, g' (f b) = g b) :
    Opens enc P w M t ok' sz' g' := fun fuel cs x hx => by
  obtain ⟨b, k1, k2, k3⟩ := h fuel cs x hx
  exact ⟨f b, h1 b k1, by rw [h3]; exact k2, Nat.le_trans (h2 b) k3⟩
theorem opens_int (hM : IsBulk M) {k : IntKind} (ht : P.underlying t = some (.int k)) : Opens enc P w M t (fun n : Int => (Lit.int k n).wf = true) (fun _ => 1) (fun n => [.v (.int k n)]) := fun fuel cs x hx => by
  obtain ⟨n, rfl, rfl, hw⟩ := DataW.trod_int ht hx
  exact ⟨n, hw, ⟨_, _, rfl, rfl, rfl, rfl⟩, hM.lit _⟩
theorem opens_bool (hM : IsBulk M) (ht : P.underlying t = some .bool) : Opens enc P w M t (fun _ : Bool => True) (fun _ => 1) (fun b => [.v (.bool b)]) := fun fuel cs x hx => by
  obtain ⟨b, rfl, rfl⟩ := DataW.trod_bool ht hx
  exact ⟨b, trivial, ⟨_, _, rfl, rfl, rfl, rfl⟩, hM.lit _⟩
theorem opens_str (hM : IsBulk M) (ht : P.underlying t = some .string) : Opens enc P w M t (fun _ : ByteArray => True) (fun s => s.size + 1) (fun s => [.v (.string s)]) := fun fuel cs x hx => by
  obtain ⟨s, rfl, rfl, _⟩ := DataW.trod_string ht hx
  refine ⟨s, trivial, ⟨_, _, rfl, rfl, rfl, rfl⟩, ?_⟩
  have := hM.str s.data.toList
  rw [Array.length_toList] at this
  exact this
theorem add_none {a : Addr} (h : a.spot = none) (k : Nat) : a.add k = ⟨a.block, a.off + k, none⟩ := by
  unfold Addr.add
  obtain ⟨b, o, s⟩ := a
  obtain rfl : s = none := h
  split
  · rename_i h; subst h; rfl
  · rfl
theorem opens_slice (hM : IsBulk M) (ht : P.underlying t = some (.slice e)) {n : Nat} (hn : P.cellsOf e = n) (hn0 : 0 < n) {β : Type} {ok : β → Prop} {sz : β → Nat} {g : β → List D} (h : Opens enc P w M e ok sz g) (hg : ∀ b, (g b).length = n) :
    Opens enc P w M t (fun l : List β => ∀ b ∈ l, ok b) (fun l => (l.map sz).sum + 1) (fun l => [.sl n (l.map g)]) := fun fuel cs x hx => by
  rcases open_slice ht hx with ⟨rfl, rfl⟩ | ⟨a, len, cap, m, n', Dx, Pl, rfl, hb, hl, hm, hmm, rfl, hx2⟩
  · exact ⟨[], by simp, ⟨_, _, rfl, rfl, ⟨none, 0, 0, 0, rfl, Nat.le_refl _, fun h => absurd rfl h, trivial⟩, rfl⟩, by simpa using hM.nil⟩
  · have hlm : len ≤ m := by rw [hmm]; simpa using hl
    obtain ⟨l, hl1, hl2⟩ := list_of (p := fun i b => ok b ∧ (∃ cs', w.cells? 0 (a.add (i * n)) n = some cs' ∧ RepVs w (g b) cs') ∧ sz b ≤ M (Dx i)) len (fun i hi => by
      obtain ⟨cs', h1, h2⟩ := hx2 i (by omega)
      obtain ⟨b, k1, k2, k3⟩ := h _ _ _ h2
      rw [hn] at h1
      exact ⟨b, k1, ⟨cs', h1, k2⟩, k3⟩)
    refine ⟨l, fun b hb => ?_, ⟨_, _, rfl, rfl, ?_, rfl⟩, ?_⟩
    · obtain ⟨i, hi⟩ := List.getElem?_of_mem hb
      exact (hl2 i b hi).1
    · have hspot : l ≠ [] → a.spot = none := by
        intro hne
        obtain ⟨b, r, rfl⟩ : ∃ b r, l = b :: r := by cases l with | nil => exact absurd rfl hne | cons b r => exact ⟨b, r, rfl⟩
        obtain ⟨_, ⟨cs', h1, h2⟩, _⟩ := hl2 0 b rfl
        obtain ⟨_, q2, q3⟩ := World.cells?_some h1
        have := q3 0 hn0
        rw [Nat.zero_mul] at this
        have e0 : a.add 0 = a := rfl
        rw [e0, e0, List.getElem?_eq_getElem (by omega)] at this
        unfold World.cell? at this
        split at this
        · split at this
          · cases this
          · rename_i hs; cases hq : a.spot with
            | none => rfl
            | some _ => rw [hq] at hs; simp at hs
        · cases this
      refine ⟨some a, cap, a.block, a.off, by simp [hl1], by simp [hl1, hl], fun hne => ?_, RepEs.of _ _ fun i e' he => ?_⟩
      · have := hspot (by rintro rfl; exact hne rfl)
        obtain ⟨b, o, s⟩ := a
        obtain rfl : s = none := this
        rfl
      · simp only [List.getElem?_map, Option.map_eq_some_iff] at he
        obtain ⟨b, hb, rfl⟩ := he
        obtain ⟨_, ⟨cs', h1, h2⟩, _⟩ := hl2 i b hb
        have hs := hspot (by rintro rfl; simp at hb)
        obtain ⟨_, q2, q3⟩ := World.cells?_some h1
        refine ⟨hg b, h2.cells fun j hj => ?_⟩
        rw [q2] at hj
        have := q3 j hj
        rw [add_add, add_none hs] at this
        rw [← this, Nat.add_assoc]
    · refine Nat.le_trans ?_ (hM.slice _ _)
      have := sum_le (sz := sz) l (fun i => M (Dx i)) (fun i b hb => (hl2 i b hb).2.2)
      rw [hl1] at this
      have e2 : List.map M (List.map Dx (List.range len)) = List.map (fun i => M (Dx i)) (List.range len) := by simp
      rw [e2]
      exact Nat.succ_le_succ this
theorem opensF_nil {N : Nat} : OpensF enc P w M N [] N (fun _ : Unit => True) (fun _ => 0) (fun _ => []) := fun fuel cs xs hc _ _ => ⟨(), trivial, by rw [← hc, List.drop_length]; rfl, Nat.zero_le _⟩
theorem opensF_cons {N off : Nat} {f : Field} {fs : List Field} {β γ : Type} {ok : β → Prop} {sz : β → Nat} {g : β → List D} {ok' : γ → Prop} {sz' : γ → Nat} {g' : γ → List D}
    (h1 : Opens enc P w M f.type ok sz g) (ho : f.offset = off) (h2 : OpensF enc P w M N fs (off + P.cellsOf f.type) ok' sz' g') :
    OpensF enc P w M N (f :: fs) off (fun b : β × γ => ok b.1 ∧ ok' b.2) (fun b => sz b.1 + sz' b.2) (fun b => g b.1 ++ g' b.2) := fun fuel cs xs hc hx hf => by
  cases xs with
  | nil => simp at hx
  | cons x r =>
    have hx0 := hf 0 f rfl
    obtain ⟨b, k1, k2, k3⟩ := h1 fuel _ x hx0
    obtain ⟨c, j1, j2, j3⟩ := h2 fuel cs r hc (by simpa using hx) (fun i f' hi => by simpa using hf (i + 1) f' (by simpa using hi))
    refine ⟨(b, c), ⟨k1, j1⟩, ?_, by simp only [List.map_cons, List.sum_cons]; omega⟩
    have := k2.append j2
    rw [ho, ← List.drop_drop, List.take_append_drop] at this
    exact this
theorem opens_struct (hM : IsBulk M) {fa : Array Field} (ht : P.underlying t = some (.struct fa)) {N : Nat} (hN : P.cellsOf t = N) {β : Type} {ok : β → Prop} {sz : β → Nat} {g : β → List D} (h : OpensF enc P w M N fa.toList 0 ok sz g) :
    Opens enc P w M t ok (fun b => sz b + 1) g := fun fuel cs x hx => by
  obtain ⟨xs, n, rfl, rfl, hc, hl, hf⟩ := DataW.trod_struct ht hx
  obtain ⟨b, k1, k2, k3⟩ := h n cs xs (by rw [hc, hN]) (by simpa using hl) (fun i f hi => hf i f (by simpa using hi))
  refine ⟨b, k1, k2, Nat.le_trans ?_ (hM.agg _)⟩
  have e2 : List.map M (List.map (fun x => x.1) xs) = List.map (fun x => M x.1) xs := by simp
  rw [e2]
  exact Nat.succ_le_succ k3
end
end Go.Proofs.Ab
namespace Go.Proofs.Ab
open Go
theorem opensF_nil' {H : Type} {enc : TypeId × Value → H} {P : Program} {w : World} {M : DataW H → Nat} {N off : Nat} (h : off = N) : OpensF enc P w M N [] off (fun _ : Unit => True) (fun _ => 0) (fun _ => []) := by
  subst h; exact opensF_nil
end Go.Proofs.Ab

namespace Go.Proofs.Ab
open Go Go.RowKit
set_option linter.unusedVariables false
set_option linter.unusedSimpArgs false

/-! ### A function that hands over a new array -/
def resN (vs : List ResultVar) (sz : Nat) (es : List (List D)) (len : Nat) (e : Exit) (s : St) : Prop :=
  (e = .normal ∨ e = .ret) ∧ ∃ t id es0, vs = [.tmp t] ∧ s.get t = .ms id sz 0 len ∧ lk s.ob id = some (.arr sz es0) ∧ es0.take len = es ∧ len ≤ es0.length
theorem goodN_of {P : Program} {f : FuncId} {fn : Func} {c : Code} {args : List AV} {sz len nt : Nat} {es : List (List D)} {vs : List ResultVar} (hf : P.funcs[f]? = some fn) (hb : fn.body = some c) (hnt : fn.ntmps = nt) (hres : fn.results.toList = vs)
    (hnm : (fn.name == "runtime.NumGoroutine") = false) (hn : args.length ≤ nt)
    (h : AW P c (start nt args) (resN vs sz es len)) : GoodN P f args sz es len := by
  subst hnt hres
  refine ⟨⟨fn, hf, hnm, by rw [hb]; rfl⟩, fun w F vs hF hvs => ?_⟩
  refine calls_of_wp hf hb ?_
  have hl := hvs.length
  have hst : Step none' F w.heap.size w none' (FF F none') w.heap.size w := {
    prot := fun b o x h => ⟨h.1, by rintro (h1 | ⟨i, h1⟩); exact h.2 h1; cases h1⟩
    rdb := fun b o x h => ⟨h.1, .inr (cell_lt h.1)⟩
    ids := fun i b h => by cases h
    room := fun i b n h _ => by cases h }
  have hrs : RS w.heap.size w F (start fn.ntmps args) { tmps := vs.toArray ++ Array.replicate (fn.ntmps - vs.toArray.size) undef, defers := [] } w := by
    refine ⟨none', {
      below := Below.refl _ _
      lowF := hF
      size := Nat.le_refl _
      inj := fun i j b h => by cases h
      low := fun i b h => by cases h
      obs := fun i b h => by cases h
      tms := fun t => ?_
      dfs := rfl
      nt := ?_ }, fun i o h => by cases h⟩
    · show RepA _ _ _ _ ((lk (numbered 0 args) t).getD .un) _
      rw [lk_numbered, if_pos (Nat.zero_le _), Nat.sub_zero]
      cases ht : args[t]? with
      | none => trivial
      | some x =>
        obtain ⟨y, e1, e2⟩ := hvs.at t x ht
        have hlt := (List.getElem?_eq_some_iff.1 e1).1
        have : (vs.toArray ++ Array.replicate (fn.ntmps - vs.toArray.size) undef).getD t undef = y := by
          rw [Array.getD_eq_getD_getElem?, Array.getElem?_append_left (by simpa using hlt)]
          simp [e1]
        rw [this]
        exact RepA.mono hst x y e2
    · show (vs.toArray ++ Array.replicate (fn.ntmps - vs.toArray.size) undef).size = fn.ntmps
      simp
      omega
  refine wp_mono (h _ _ _ _ _ hrs) ?_
  rintro e a' w' ⟨s', ⟨he, t, id, es0, hv, hget, hob, hes, hlen⟩, ι, hc, hfull⟩
  have fin : a'.defers = [] ∧ ∃ v, (results fn a'.tmps).run P w' = .ok v w' ∧ ∃ u, Ending.returned v = .returned u ∧ Below w.heap.size w w' ∧
      ((len = 0 ∧ es = [] ∧ ∃ A, u = .slice A 0 0) ∨
       ∃ b cap c T, w.heap.size ≤ b ∧ w'.heap[b]? = some (.cells c T (0, 0)) ∧ u = .slice (some ⟨b, 0, none⟩) len cap ∧ len ≤ cap ∧ cap * sz ≤ c.size ∧ es.length * sz ≤ c.size ∧
        RepEs (fun b' o => F b' o ∨ b' = b) w' (fun o y => c[o]? = some y) sz es 0) := by
    have hr : (results fn a'.tmps).run P w' = .ok (a'.tmps.getD t undef) w' := by
      have h1 : fn.results = #[.tmp t] := by
        apply Array.ext'
        rw [hv]
      simp [results, h1]
    have htm := hc.tms t
    rw [hget] at htm
    refine ⟨hc.dfs, _, hr, _, rfl, hc.below, ?_⟩
    rcases htm with ⟨b, cap, hib, hy, h1, h2⟩ | ⟨rfl, A, hy⟩
    · right
      obtain ⟨o, ho, hobk⟩ := hc.obs id b hib
      rw [hob] at ho
      injection ho with ho
      subst ho
      obtain ⟨c, T, hcb, hl', hsz⟩ := hobk
      obtain ⟨c2, T2, q1, q2⟩ := h2
      rw [hcb] at q1
      injection q1 with q1
      injection q1 with q1 _
      subst q1
      rw [Nat.zero_mul] at hy
      refine ⟨b, cap, c, T, (hc.low _ _ hib).1, hcb, hy, h1, by simpa using q2, ?_, ?_⟩
      · rw [← hes, List.length_take]
        refine Nat.le_trans (Nat.mul_le_mul_right _ (Nat.min_le_right ..)) hsz
      · have h4 := hl'.take len
        rw [hes] at h4
        refine RepEs.mono (fun b' o x hp => ⟨hp.1, ?_⟩) (fun _ _ h => h) _ _ _ h4
        rintro (hF' | rfl)
        · exact hp.2 (.inl hF')
        · exact hp.2 (.inr ⟨id, hib⟩)
    · left
      exact ⟨rfl, by rw [← hes]; rfl, A, hy⟩
  rcases he with rfl | rfl
  · exact fin
  · exact fin

/-! ### The library's contracts -/
theorem good_of_calls {P : Program} {f : FuncId} {args : List AV} {r : AV} (hfn : ∃ fn, P.funcs[f]? = some fn ∧ (fn.name == "runtime.NumGoroutine") = false ∧ fn.body.isNone = false) (hr : dataA r)
    (h : ∀ (w : World) (F : Nat → Nat → Prop) (vs : List Value), (∀ b o, F b o → b < w.heap.size) → RepL none' F w.heap.size w args vs → Calls P f vs.toArray w fun e w' => ∃ v, e = .returned v ∧ w' = w ∧ RepA none' F 0 w r v) : Good P f args r :=
  ⟨hfn, fun w F vs hF hvs => (h w F vs hF hvs).mono fun e w' ⟨v, h1, h2, h3⟩ => ⟨v, h1, by rw [h2]; exact Below.refl _ _, by rw [h2]; exact h3⟩⟩
theorem turned {w : World} {b : Nat} {c : Array Value} {T : TypeId} (hb : w.heap[b]? = some (.cells c T (0, 0))) (zs : List Int) (hl : zs.length ≤ c.size) (n : Nat) (os : Array Obj) :
    ∃ c', (Sort.grow (Sort.putRow (Value.int .i64) (Sort.ahead w n) b 0 zs.toArray) os).heap[b]? = some (.cells c' T (0, 0)) ∧ c'.size = c.size ∧ (∀ (j : Nat) (z : Int), zs[j]? = some z → c'[j]? = some (Value.int .i64 z)) ∧ (∀ j, zs.length ≤ j → c'[j]? = c[j]?) ∧
      (Sort.grow (Sort.putRow (Value.int .i64) (Sort.ahead w n) b 0 zs.toArray) os).os = w.os ∧ (Sort.grow (Sort.putRow (Value.int .i64) (Sort.ahead w n) b 0 zs.toArray) os).tape = w.tape ∧ (Sort.grow (Sort.putRow (Value.int .i64) (Sort.ahead w n) b 0 zs.toArray) os).output = w.output ∧
      w.heap.size ≤ (Sort.grow (Sort.putRow (Value.int .i64) (Sort.ahead w n) b 0 zs.toArray) os).heap.size ∧ ∀ i, i < w.heap.size → i ≠ b → (Sort.grow (Sort.putRow (Value.int .i64) (Sort.ahead w n) b 0 zs.toArray) os).heap[i]? = w.heap[i]? := by
  have hlt : b < w.heap.size := (Array.getElem?_eq_some_iff.1 hb).1
  have hh : (Sort.grow (Sort.putRow (Value.int .i64) (Sort.ahead w n) b 0 zs.toArray) os).heap = w.heap.modify b (Sort.onCells (Sort.putCells (Value.int .i64) 0 zs.toArray)) ++ os := rfl
  refine ⟨Sort.putCells (Value.int .i64) 0 zs.toArray c, ?_, by simp [Sort.putCells], ?_, ?_, rfl, rfl, rfl, ?_, ?_⟩
  · rw [hh, Array.getElem?_append_left (by simpa using hlt), Array.getElem?_modify, if_pos rfl, hb]
    rfl
  · intro j z hj
    have hjl := (List.getElem?_eq_some_iff.1 hj).1
    have hjc : j < c.size := by omega
    simp only [Sort.putCells, Array.getElem?_mapIdx, Array.getElem?_eq_getElem hjc, Option.map_some, List.size_toArray, Nat.zero_add, Nat.zero_le, true_and, hjl, if_true, Nat.sub_zero]
    congr 2
    rw [getElem!_pos _ j (by simpa using hjl)]
    have := (List.getElem?_eq_some_iff.1 hj).2
    simpa using this
  · intro j hj
    rw [Sort.putCells, Array.getElem?_mapIdx]
    cases c[j]? with
    | none => rfl
    | some y =>
      simp only [Option.map_some]
      rw [if_neg (by simp; omega)]
  · rw [hh]; simp
  · intro i hi hne
    rw [hh, Array.getElem?_append_left (by simpa using hi), Array.getElem?_modify, if_neg (fun e => hne e.symm)]
theorem holds_of {w : World} {b : Nat} {c : Array Value} {T : TypeId} (hb : w.heap[b]? = some (.cells c T (0, 0))) (zs : List Int) (h : ∀ (j : Nat) (z : Int), zs[j]? = some z → c[j]? = some (Value.int .i64 z)) : Sort.Holds (Value.int .i64) w b 0 zs.toArray := by
  intro j hj
  have hj' : j < zs.length := by simpa using hj
  constructor
  · rw [cell_of hb, Nat.zero_add, h j _ (List.getElem?_eq_getElem hj')]
    rw [getElem!_pos _ j hj]
    simp
  · simp [World.frozen?, hb]
theorem len_le {zs : List Int} {c : Array Value} (h : ∀ (j : Nat) (z : Int), zs[j]? = some z → c[j]? = some (Value.int .i64 z)) : zs.length ≤ c.size := by
  rcases Nat.lt_or_ge c.size zs.length with hlt | hge
  · have := h c.size _ (List.getElem?_eq_getElem hlt)
    simp at this
  · exact hge
theorem goodI_sort {P : Program} {f : FuncId} (hfn : ∃ fn, P.funcs[f]? = some fn ∧ (fn.name == "runtime.NumGoroutine") = false ∧ fn.body.isNone = false)
    (h : ∀ (blk off cap : Nat) (zs : List Int) (w : World), Sort.Holds (Value.int .i64) w blk off zs.toArray → blk < w.heap.size → zs.length < 4611686018427387904 →
      Calls P f #[.slice (some ⟨blk, off, none⟩) zs.length cap] w fun e w' => e = .returned (.tuple #[]) ∧ ∃ n os, w' = Sort.grow (Sort.putRow (Value.int .i64) (Sort.ahead w n) blk off (zs.mergeSort fun x y => decide (x ≤ y)).toArray) os)
    (hn : ∀ (p : Option Addr) (cap : Nat) (w : World), Calls P f #[.slice p 0 cap] w fun e w' => e = .returned (.tuple #[]) ∧ w' = w)
    (zs : List Int) (hz : zs.length < 4611686018427387904) : GoodI P f zs (zs.mergeSort fun x y => decide (x ≤ y)) none := by
  refine ⟨hfn, by simp, fun m hm => (by cases hm), fun w b cap c T hb hc hcap => ?_, fun _ w A => ?_⟩
  · have hlt : b < w.heap.size := (Array.getElem?_eq_some_iff.1 hb).1
    refine (h b 0 cap zs w (holds_of hb zs hc) hlt hz).mono ?_
    rintro e w' ⟨rfl, n, os, rfl⟩
    have hl := len_le hc
    obtain ⟨c', h1, h2, h3, h4, h5⟩ := turned hb (zs.mergeSort fun x y => decide (x ≤ y)) (by simpa using hl) n os
    exact ⟨rfl, c', h1, h2, h3, fun j hj => h4 j (by simpa using hj), h5⟩
  · refine (hn A 0 w).mono ?_
    rintro e w' ⟨rfl, rfl⟩
    exact ⟨rfl, Below.refl _ _⟩
theorem goodI_compact {P : Program} {f : FuncId} (hfn : ∃ fn, P.funcs[f]? = some fn ∧ (fn.name == "runtime.NumGoroutine") = false ∧ fn.body.isNone = false)
    (h : ∀ (blk off cap : Nat) (zs : List Int) (w : World), Sort.Holds (Value.int .i64) w blk off zs.toArray → zs.length ≤ 9223372036854775807 → zs.length ≤ cap →
      Calls P f #[.slice (some ⟨blk, off, none⟩) zs.length cap] w fun e w' => e = .returned (.slice (some ⟨blk, off, none⟩) (Lib.compact zs).length cap) ∧ ∃ q, w' = Sort.putRow (Value.int .i64) (Sort.ahead w q) blk off (Lib.compact zs ++ List.replicate (zs.length - (Lib.compact zs).length) 0).toArray)
    (hn : ∀ (p : Option Addr) (cap : Nat) (w : World), Calls P f #[.slice p 0 cap] w fun e w' => e = .returned (.slice p 0 cap) ∧ w' = w)
    (zs : List Int) (hz : zs.length < 4611686018427387904) : GoodI P f zs (Lib.compact zs ++ List.replicate (zs.length - (Lib.compact zs).length) 0) (some (Lib.compact zs).length) := by
  have hcl := Lib.compact_length_le zs
  have hlen : (Lib.compact zs ++ List.replicate (zs.length - (Lib.compact zs).length) (0 : Int)).length = zs.length := by simp; omega
  refine ⟨hfn, hlen, fun m hm => (by injection hm with hm; omega), fun w b cap c T hb hc hcap => ?_, fun hz w A => ?_⟩
  · refine (h b 0 cap zs w (holds_of hb zs hc) (by omega) hcap).mono ?_
    rintro e w' ⟨rfl, n, rfl⟩
    have hl := len_le hc
    obtain ⟨c', h1, h2, h3, h4, h5⟩ := turned hb (Lib.compact zs ++ List.replicate (zs.length - (Lib.compact zs).length) 0) (by rw [hlen]; exact hl) n #[]
    rw [Sort.grow_empty] at h1 h5
    exact ⟨rfl, c', h1, h2, h3, fun j hj => h4 j (by rw [hlen]; exact hj), h5⟩
  · subst hz
    refine (hn A 0 w).mono ?_
    rintro e w' ⟨rfl, rfl⟩
    exact ⟨rfl, Below.refl _ _⟩
/-- Sorted, each once. -/
def setOf (zs : List Int) : List Int := Lib.compact (zs.mergeSort fun x y => decide (x ≤ y))
end Go.Proofs.Ab

namespace Go.Proofs.Ab
open Go Go.RowKit
set_option linter.unusedVariables false
set_option linter.unusedSimpArgs false
/-! ### Tables -/
structure Col where
  name : ByteArray
  kind : Int
structure Tab where
  cols : List Col
  rows : List (List Val)
structure Named where
  name : ByteArray
  tab : Tab
def colC (c : Col) : List D := [dS c.name, dI c.kind]
def rowC (r : List Val) : List D := [.sl 3 (r.map valC)]
def tabC (t : Tab) : List D := [.sl 2 (t.cols.map colC), .sl 1 (t.rows.map rowC)]
def namedC (n : Named) : List D := [dS n.name, .sl 2 (n.tab.cols.map colC), .sl 1 (n.tab.rows.map rowC)]
attribute [simp] colC rowC tabC namedC
abbrev dCols (c : List Col) : D := .sl 2 (c.map colC)
abbrev aCols (c : List Col) : AV := .d (.sl 2 (c.map colC))
def eCs (l : List (List Col)) : List (List D) := l.map fun c => [.sl 2 (c.map colC)]
@[simp] theorem eCs_length (l : List (List Col)) : (eCs l).length = l.length := by simp [eCs]
theorem eCs_get (l : List (List Col)) (n : Nat) : (eCs l)[n]? = (l[n]?).map fun c => [D.sl 2 (c.map colC)] := by simp [eCs]
theorem eCs_take (l : List (List Col)) (n : Nat) : (eCs l).take n = eCs (l.take n) := by simp [eCs, List.map_take]
theorem eCs_drop (l : List (List Col)) (n : Nat) : (eCs l).drop n = eCs (l.drop n) := by simp [eCs, List.map_drop]
theorem eCs_append (l m : List (List Col)) : eCs l ++ eCs m = eCs (l ++ m) := by simp [eCs]
theorem eCs_one (c : List Col) : [[D.sl 2 (c.map colC)]] = eCs [c] := rfl
@[simp] theorem eCs_takeAll (l : List (List Col)) : List.take l.length (eCs l) = eCs l := by rw [List.take_of_length_le (by simp)]
abbrev aNamed (t : List Named) : AV := .d (.sl 3 (t.map namedC))
end Go.Proofs.Ab
namespace Go.Proofs.Ab
open Go
/-! ### What is not too large -/
def smS (s : ByteArray) : Prop := s.size ≤ 2000000
def smL {α : Type} (p : α → Prop) (l : List α) : Prop := l.length ≤ 2000000 ∧ ∀ x ∈ l, p x
theorem smL.get {α : Type} {p : α → Prop} {l : List α} (h : smL p l) {n : Nat} {x : α} (hx : l[n]? = some x) : p x := h.2 x (List.mem_of_getElem? hx)
theorem smL.sub {α : Type} {p : α → Prop} {l m : List α} (h : smL p l) (hl : m.length ≤ l.length) (hm : ∀ x ∈ m, x ∈ l) : smL p m := ⟨Nat.le_trans hl h.1, fun x hx => h.2 x (hm x hx)⟩
def smCol (c : Col) : Prop := smS c.name
def smVal (v : Val) : Prop := smS v.text
def smTab (t : Tab) : Prop := smL smCol t.cols ∧ smL (smL smVal) t.rows
def smNamed (n : Named) : Prop := smS n.name ∧ smTab n.tab
def smNode (n : Node) : Prop := smS n.value.text
def smAgg (a : Agg) : Prop := smS a.name
structure smStep (s : PStep) : Prop where
  name : smS s.name
  exprs : smL (smL smNode) s.exprs
  names : smL smS s.names
  cols : s.cols.length ≤ 2000000
  keys : s.keys.length ≤ 2000000
  aggs : smL smAgg s.aggs
theorem take_succ_of {α : Type} {l : List α} {k : Nat} {x : α} (h : l[k]? = some x) : l.take (k + 1) = l.take k ++ [x] := by
  rw [List.take_add_one, h]; rfl
end Go.Proofs.Ab
namespace Go.Proofs.Ab
open Go
theorem callN {P : Program} {o : Oper} {s s' : St} {K : St → Prop} {g : FuncId} {args xs : List AV} {sz len d : Nat} {es : List (List D)} {f : Operand} {as : Array Operand} {ts : Array TypeId} (h : GoodN P g args sz es len) (hg : o.guard = none) (ho : o.op = .call ⟨.value f, as, ts⟩)
    (hf : evO s.get f = .cl g []) (hp : passL (lk s.ob) (as.toList.map (evO s.get)) = some xs) (hl : LeL xs args) (hd : o.dst = some d) (hn : d < s.nt) (e : s.new (fun i => i == d) d (.ms d sz 0 len) (.arr sz es) = s') (k : K s') : stepX P o s K :=
  ⟨hg, f, as, ts, ho, .inl ⟨g, xs, args, sz, es, len, d, hf, hp, hl, h, hd, hn, e ▸ k⟩⟩
theorem callI {P : Program} {o : Oper} {s s' : St} {K : St → Prop} {g : FuncId} {zs zs' : List Int} {k : Option Nat} {id len : Nat} {es : List (List D)} {f x : Operand} {ts : Array TypeId} (h : GoodI P g zs zs' k) (hg : o.guard = none) (ho : o.op = .call ⟨.value f, #[x], ts⟩)
    (hf : evO s.get f = .cl g []) (hx : evO s.get x = .ms id 1 0 len) (hob : lk s.ob id = some (.arr 1 es)) (he : es.take len = eI zs) (hl : zs.length = len) (hd : ∀ d, o.dst = some d → d < s.nt)
    (e : ({ s with ob := ins id (.arr 1 (eI zs' ++ es.drop len)) s.ob } : St).put o.dst (AV.ret id k) = s') (kk : K s') : stepX P o s K :=
  ⟨hg, f, #[x], ts, ho, .inr ⟨g, x, id, len, es, zs, zs', k, hf, rfl, hx, hob, he, hl, h, hd, e ▸ kk⟩⟩
theorem eI_dropAll (l : List Int) (n : Nat) (h : l.length ≤ n) : (eI l).drop n = [] := List.drop_eq_nil_of_le (by simpa using h)
attribute [simp] AV.ret placeA
end Go.Proofs.Ab
namespace Go.Proofs.Ab
open Go Go.RowKit
/-- A nil slice in a variable is data of no element. -/
theorem Weak.nilV (s : St) (id k sz : Nat) {cs : List AV} (hid : lk s.ob id = some (.var cs)) (hk : cs[k]? = some (.d (.v (.slice none 0 0)))) :
    Weak s { s with ob := ins id (.var (cs.set k (.d (.sl sz [])))) s.ob } := by
  rintro base w0 F0 a w ⟨ι, hc, hfull⟩
  refine ⟨ι, { hc with obs := ?_ }, ?_⟩
  · intro i b hi
    obtain ⟨o, h1, h2⟩ := hc.obs i b hi
    simp only [lk_ins]
    by_cases e : id = i
    · subst e
      rw [if_pos rfl]
      rw [hid] at h1
      injection h1 with h1
      subst h1
      obtain ⟨c, T, e1, e2⟩ := h2
      refine ⟨_, rfl, c, T, e1, RepL.setN _ _ _ _ e2 ?_⟩
      intro y v hy hv
      rw [hk] at hy
      injection hy with hy
      subst hy
      obtain rfl : v = .slice none 0 0 := hv
      exact ⟨none, 0, 0, 0, rfl, Nat.le_refl _, fun h => absurd rfl h, trivial⟩
    · rw [if_neg e]
      exact ⟨o, h1, h2⟩
  · intro i o ho
    simp only [lk_ins] at ho
    split at ho
    · rename_i e
      subst e
      left
      rcases hfull _ _ hid with h | ⟨_, h⟩
      · exact h
      · cases h
    · exact hfull i o ho
theorem AW.joinE {P : Program} {c z : Code} {s : St} {Q Q0 : Exit → St → Prop} (I : St → Prop) (h : AW P c s (andThen (fun s' => ∃ s'', Weak s' s'' ∧ I s'') Q)) (k : ∀ s'', I s'' → AW P z s'' Q0) : AW P c s (andThen (fun s' => AW P z s' Q0) Q) :=
  AW.mono h fun e s' q => by
    cases e with
    | normal => obtain ⟨s'', h1, h2⟩ := q; exact AW.weak h1 (k s'' h2)
    | _ => exact q
end Go.Proofs.Ab
namespace Go.Proofs.Ab
open Go
/-- The ways through a block meet. -/
theorem AW.joinB {P : Program} {c z : Code} {s : St} {id : Nat} {Q Q0 : Exit → St → Prop} (I : St → Prop) (h : AW P c s (inBlk id (andThen (fun s' => ∃ s'', Weak s' s'' ∧ I s'') Q))) (k : ∀ s'', I s'' → AW P z s'' Q0) : AW P c s (inBlk id (andThen (fun s' => AW P z s' Q0) Q)) :=
  AW.mono h fun e s' q => by
    cases e with
    | normal => obtain ⟨s'', h1, h2⟩ := q; exact AW.weak h1 (k s'' h2)
    | exit i =>
      simp only [inBlk] at q ⊢
      split
      · rename_i hi
        rw [if_pos hi] at q
        obtain ⟨s'', h1, h2⟩ := q
        exact AW.weak h1 (k s'' h2)
      · rename_i hi
        rw [if_neg hi] at q
        exact q
    | _ => exact q
end Go.Proofs.Ab
namespace Go.Proofs.Ab
open Go Go.RowKit
/-- The elements of an array of the call's own are known less well. -/
theorem Weak.arr (s : St) (id : Nat) {sz : Nat} {es es' : List (List D)} (hid : lk s.ob id = some (.arr sz es)) (hne : es' = [] ↔ es = []) (hl : es'.length = es.length) (h : ∀ F w pr o, RepEs F w pr sz es o → RepEs F w pr sz es' o) :
    Weak s { s with ob := ins id (.arr sz es') s.ob } := by
  rintro base w0 F0 a w ⟨ι, hc, hfull⟩
  refine ⟨ι, { hc with obs := ?_ }, ?_⟩
  · intro i b hi
    obtain ⟨o, h1, h2⟩ := hc.obs i b hi
    simp only [lk_ins]
    by_cases e : id = i
    · subst e
      rw [if_pos rfl]
      rw [hid] at h1
      injection h1 with h1
      subst h1
      obtain ⟨c, T, e1, e2, e3⟩ := h2
      exact ⟨_, rfl, c, T, e1, h _ _ _ _ e2, by rw [hl]; exact e3⟩
    · rw [if_neg e]
      exact ⟨o, h1, h2⟩
  · intro i o ho
    simp only [lk_ins] at ho
    split at ho
    · rename_i e
      subst e
      injection ho with ho
      subst ho
      rcases hfull _ _ hid with h3 | ⟨sz', h3⟩
      · exact .inl h3
      · injection h3 with h3 h4
        subst h3 h4
        exact .inr ⟨_, by rw [hne.2 rfl]⟩
    · exact hfull i o ho
theorem nil_elems {F : Nat → Nat → Prop} {w : World} {pr : Nat → Value → Prop} (sz : Nat) : ∀ (m o : Nat), RepEs F w pr 1 (List.replicate m [D.v (.slice none 0 0)]) o → RepEs F w pr 1 (List.replicate m [D.sl sz []]) o := by
  intro m
  induction m with
  | zero => intro o _; trivial
  | succ m ih =>
    intro o h
    obtain ⟨h1, ⟨⟨h2, y, h3, h4⟩, _⟩, h5⟩ := h
    refine ⟨rfl, ⟨⟨rfl, y, h3, ?_⟩, trivial⟩, ih _ h5⟩
    obtain rfl := h4
    exact ⟨none, 0, 0, 0, rfl, Nat.le_refl _, fun h => absurd rfl h, trivial⟩
theorem eG_set (N : List (List Int)) (k : Nat) (l : List Int) : (eG N).set k [D.sl 1 (eI l)] = eG (N.set k l) := by
  unfold eG
  rw [List.map_set]
theorem eG_rep (m : Nat) : List.replicate m [D.sl 1 []] = eG (List.replicate m []) := by simp [eG, eI]
end Go.Proofs.Ab

namespace Go.Proofs.Ab
open Go
/-! ### How much there is to be read -/
def zVal (v : Val) : Nat := v.text.size + 1
def zNode (n : Node) : Nat := n.value.text.size + 1
def zExpr (e : List Node) : Nat := (e.map zNode).sum + 1
def zS (s : ByteArray) : Nat := s.size + 1
def zAgg (a : Agg) : Nat := a.name.size + 1
def zStep (s : PStep) : Nat := s.name.size + (s.exprs.map zExpr).sum + (s.names.map zS).sum + s.cols.length + s.keys.length + (s.aggs.map zAgg).sum + 1
def zCol (c : Col) : Nat := c.name.size + 1
def zRow (r : List Val) : Nat := (r.map zVal).sum + 1
def zTab (t : Tab) : Nat := (t.cols.map zCol).sum + (t.rows.map zRow).sum + 1
def zNamed (n : Named) : Nat := n.name.size + (n.tab.cols.map zCol).sum + (n.tab.rows.map zRow).sum + 1
theorem sum_mem {α : Type} {z : α → Nat} : ∀ {l : List α} {x : α}, x ∈ l → z x ≤ (l.map z).sum := by
  intro l
  induction l with
  | nil => intro x h; cases h
  | cons y r ih =>
    intro x h
    simp only [List.map_cons, List.sum_cons]
    rcases List.mem_cons.1 h with rfl | h
    · omega
    · have := ih h; omega
theorem sum_len {α : Type} {z : α → Nat} (hz : ∀ x, 1 ≤ z x) : ∀ (l : List α), l.length ≤ (l.map z).sum := by
  intro l
  induction l with
  | nil => simp
  | cons y r ih => simp only [List.map_cons, List.sum_cons, List.length_cons]; have := hz y; omega
theorem smL_of {α : Type} {p : α → Prop} {z : α → Nat} (hz : ∀ x, 1 ≤ z x) (hp : ∀ x, z x ≤ 2000000 → p x) {l : List α} (h : (l.map z).sum ≤ 2000000) : smL p l :=
  ⟨Nat.le_trans (sum_len hz l) h, fun x hx => hp x (Nat.le_trans (sum_mem hx) h)⟩
theorem smVal_of (v : Val) (h : zVal v ≤ 2000000) : smVal v := by unfold zVal at h; unfold smVal smS; omega
theorem smNode_of (v : Node) (h : zNode v ≤ 2000000) : smNode v := by unfold zNode at h; unfold smNode smS; omega
theorem smS_of (v : ByteArray) (h : zS v ≤ 2000000) : smS v := by unfold zS at h; unfold smS; omega
theorem smAgg_of (v : Agg) (h : zAgg v ≤ 2000000) : smAgg v := by unfold zAgg at h; unfold smAgg smS; omega
theorem smCol_of (v : Col) (h : zCol v ≤ 2000000) : smCol v := by unfold zCol at h; unfold smCol smS; omega
theorem smExpr_of (e : List Node) (h : zExpr e ≤ 2000000) : smL smNode e := smL_of (fun x => by unfold zNode; omega) smNode_of (by unfold zExpr at h; omega)
theorem smRow_of (e : List Val) (h : zRow e ≤ 2000000) : smL smVal e := smL_of (fun x => by unfold zVal; omega) smVal_of (by unfold zRow at h; omega)
theorem smStep_of (s : PStep) (h : zStep s ≤ 2000000) : smStep s := by
  unfold zStep at h
  exact ⟨by unfold smS; omega, smL_of (fun x => by unfold zExpr; omega) smExpr_of (by omega), smL_of (fun x => by unfold zS; omega) smS_of (by omega), by omega, by omega, smL_of (fun x => by unfold zAgg; omega) smAgg_of (by omega)⟩
theorem smNamed_of (n : Named) (h : zNamed n ≤ 2000000) : smNamed n := by
  unfold zNamed at h
  exact ⟨by unfold smS; omega, smL_of (fun x => by unfold zCol; omega) smCol_of (by omega), smL_of (fun x => by unfold zRow; omega) smRow_of (by omega)⟩
end Go.Proofs.Ab
