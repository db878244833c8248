/- A part of the proof of the law: it holds for all states of the abstract kind told in the first of these texts; no condition besides those its statements name. -/
import Derived.Test.YtkpnoifnfoijbaaAbA17
namespace Go.Proofs.Ab
open Go Go.RowKit
set_option linter.unusedVariables false
set_option linter.unusedSimpArgs false

/-! ### The order does not matter -/
def calmG (P : Program) (tt : TypeId → Option TI) (et : TypeId → Bool) (ops : Array Oper) (o : Oper) (ev : Nat → AV) (full : Nat → Option Ob) (K : AV → Option Ob → Prop) : Prop :=
  match o.guard with
  | none => calm P tt et o (evO ev) full K
  | some (j, want) => ∃ d b, (ops[j]?).bind (·.dst) = some d ∧ ev d = .d (.v (.bool b)) ∧ (b = want → calm P tt et o (evO ev) full K) ∧ (b ≠ want → K .un none)
def runD (P : Program) (tt : TypeId → Option TI) (et : TypeId → Bool) (ops : Array Oper) : List Oper → St → (St → Prop) → Prop
  | [], s, K => K s
  | o :: r, s, K => dstOk o s ∧ calmG P tt et ops o s.get (lk s.ob) fun x ob => runD P tt et ops r (s.fin o.dst x ob) K

/-- What must have run ahead of each operation. -/
def closGo : List Oper → List (List Nat) → List (List Nat)
  | [], acc => acc
  | o :: r, acc => closGo r (acc ++ [(o.after.toList.filter (Region.binds .any)).foldl (fun s e => e.on :: ((acc.getD e.on []).filter (fun x => !s.contains x) ++ s)) []])
def seesB (ops : Array Oper) (x y : Oper) : Bool := (match y.dst with | some d => (x.looksAt ops).contains d | none => false)
def orderOk (ops : Array Oper) : Bool :=
  let l := ops.toList
  let c := closGo l []
  (List.range l.length).all fun i => match l[i]? with
    | none => false
    | some o => (o.after.toList.all fun e => !Region.binds .any e || decide (e.on < i)) &&
      (match o.op with | .select .. => false | _ => true) &&
      (match o.guard with | some (j, _) => ((c.getD i []).contains j) && ((l[j]?).bind (·.dst)).isSome | none => true) &&
      ((List.range l.length).all fun j => match l[j]? with
        | none => false
        | some o' => i == j || ((o.dst == none || !(o.dst == o'.dst)) && (!seesB ops o o' || (if j < i then (c.getD i []).contains j else (c.getD j []).contains i))))
def creates (ops : Array Oper) (d : Nat) : Bool := ops.toList.any fun o => makes o && (o.dst == some d)

def Closed (ops : Array Oper) (S : Nat → Prop) : Prop := ∀ i o e, ops[i]? = some o → S i → e ∈ o.after.toList → Region.binds .any e = true → S e.on
theorem closGo_spec {ops : Array Oper} {S : Nat → Prop} (hS : Closed ops S) : ∀ (l : List Oper) (acc : List (List Nat)), ops.toList.drop acc.length = l → (∀ i j, j ∈ acc.getD i [] → S i → S j) → ∀ i j, j ∈ (closGo l acc).getD i [] → S i → S j := by
  intro l
  induction l with
  | nil => intro acc _ h; exact h
  | cons o r ih =>
    intro acc hl h
    simp only [closGo]
    refine ih _ (by rw [List.length_append, ← List.drop_drop, hl]; rfl) ?_
    intro i j hj hi
    by_cases hlt : i < acc.length
    · rw [List.getD_eq_getElem?_getD, List.getElem?_append_left hlt, ← List.getD_eq_getElem?_getD] at hj
      exact h i j hj hi
    · by_cases he : i = acc.length
      · subst he
        have ho : ops[acc.length]? = some o := by
          rw [← Array.getElem?_toList]
          have := congrArg List.head? hl
          simpa [List.head?_drop] using this
        rw [List.getD_eq_getElem?_getD, List.getElem?_append_right (Nat.le_refl _), Nat.sub_self] at hj
        simp only [List.getElem?_cons_zero, Option.getD_some] at hj
        have key : ∀ (es : List Edge) (s : List Nat), (∀ e ∈ es, e ∈ o.after.toList ∧ Region.binds .any e = true) → (∀ x ∈ s, S x) → ∀ x ∈ es.foldl (fun s e => e.on :: ((acc.getD e.on []).filter (fun x => !s.contains x) ++ s)) s, S x := by
          intro es
          induction es with
          | nil => intro s _ hs; exact hs
          | cons e r ih2 =>
            intro s he hs
            refine ih2 _ (fun e' h' => he e' (List.mem_cons_of_mem _ h')) ?_
            intro x hx
            have h0 := he e List.mem_cons_self
            have he1 : S e.on := hS _ o e ho hi h0.1 h0.2
            rcases List.mem_cons.1 hx with rfl | hx
            · exact he1
            · rcases List.mem_append.1 hx with hx | hx
              · exact h _ _ (List.mem_filter.1 hx).1 he1
              · exact hs x hx
        exact key _ [] (fun e he => by have := List.mem_filter.1 he; exact this) (by simp) j hj
      · rw [List.getD_eq_getElem?_getD, List.getElem?_append_right (by omega)] at hj
        have : i - acc.length ≥ 1 := by omega
        rw [List.getElem?_eq_none (by simp; omega)] at hj
        simp at hj

inductive Tr (P : Program) (tt : TypeId → Option TI) (et : TypeId → Bool) (ops : Array Oper) : List Oper → St → List (AV × Option Ob) → St → Prop
  | nil (s : St) : Tr P tt et ops [] s [] s
  | cons {o : Oper} {r : List Oper} {s s' : St} {x : AV} {ob : Option Ob} {tr : List (AV × Option Ob)} : dstOk o s → calmG P tt et ops o s.get (lk s.ob) (fun x' ob' => x' = x ∧ ob' = ob) → Tr P tt et ops r (s.fin o.dst x ob) tr s' → Tr P tt et ops (o :: r) s ((x, ob) :: tr) s'
section
variable {P : Program} {tt : TypeId → Option TI} {et : TypeId → Bool} {ops : Array Oper}
theorem calmG_ex {o : Oper} {ev : Nat → AV} {full : Nat → Option Ob} {K : AV → Option Ob → Prop} (h : calmG P tt et ops o ev full K) : ∃ x ob, K x ob ∧ calmG P tt et ops o ev full fun x' ob' => x' = x ∧ ob' = ob := by
  unfold calmG at h ⊢
  cases hg : o.guard with
  | none => rw [hg] at h; exact calm_ex h
  | some q =>
    obtain ⟨j, want⟩ := q
    rw [hg] at h
    obtain ⟨d, b, h1, h2, h3, h4⟩ := h
    by_cases hb : b = want
    · obtain ⟨x, ob, h5, h6⟩ := calm_ex (h3 hb)
      exact ⟨x, ob, h5, d, b, h1, h2, fun _ => h6, fun h => absurd hb h⟩
    · exact ⟨_, _, h4 hb, d, b, h1, h2, fun h => absurd h hb, fun _ => ⟨rfl, rfl⟩⟩
theorem runD_trace : ∀ (l : List Oper) (s : St) (K : St → Prop), runD P tt et ops l s K → ∃ tr s', Tr P tt et ops l s tr s' ∧ K s' := by
  intro l
  induction l with
  | nil => intro s K h; exact ⟨[], s, .nil s, h⟩
  | cons o r ih =>
    intro s K h
    obtain ⟨hd, h⟩ := h
    obtain ⟨x, ob, h1, h2⟩ := calmG_ex h
    obtain ⟨tr, s', h3, h4⟩ := ih _ _ h1
    exact ⟨_, s', .cons hd h2 h3, h4⟩
theorem fin_nt (s : St) (d : Option Nat) (x : AV) (ob : Option Ob) : (s.fin d x ob).nt = s.nt := by
  unfold St.fin
  split
  · rfl
  · cases d <;> rfl
theorem fin_get (s : St) (dst : Option Nat) (x : AV) (ob : Option Ob) (t : Nat) : (s.fin dst x ob).get t = if dst = some t then x else s.get t := by
  cases dst with
  | none => cases ob <;> simp [St.fin, St.put]
  | some d =>
    rw [get_fin]
    show (if t = d then x else s.get t) = _
    by_cases h : t = d
    · subst h; simp
    · rw [if_neg h, if_neg (by simpa using fun e => h e.symm)]
theorem fin_lk (s : St) (dst : Option Nat) (x : AV) (ob : Option Ob) (i : Nat) : lk (s.fin dst x ob).ob i = match ob, dst with | some o, some d => if d = i then some o else lk s.ob i | _, _ => lk s.ob i := by
  cases ob <;> cases dst <;> rfl
/-- The trace, place by place. -/
theorem Tr.at {l : List Oper} {s s' : St} {tr : List (AV × Option Ob)} (h : Tr P tt et ops l s tr s') : tr.length = l.length ∧ s'.nt = s.nt ∧
    (∀ (k : Nat) (o : Oper), l[k]? = some o → ∃ (x : AV) (ob : Option Ob) (sk : St), tr[k]? = some (x, ob) ∧ dstOk o sk ∧ sk.nt = s.nt ∧ calmG P tt et ops o sk.get (lk sk.ob) (fun x' ob' => x' = x ∧ ob' = ob) ∧
      (∀ t : Nat, (∀ (j : Nat) (o' : Oper), j < k → l[j]? = some o' → o'.dst ≠ some t) → sk.get t = s.get t) ∧
      (∀ (t j : Nat) (o' : Oper) (x' : AV) (ob' : Option Ob), j < k → l[j]? = some o' → tr[j]? = some (x', ob') → o'.dst = some t → (∀ (j2 : Nat) (o2 : Oper), j < j2 → j2 < k → l[j2]? = some o2 → o2.dst ≠ some t) → sk.get t = x') ∧
      (∀ (i : Nat) (ob' : Ob), lk sk.ob i = some ob' → lk s.ob i = some ob' ∨ ∃ (j : Nat) (o' : Oper) (x' : AV), j < k ∧ l[j]? = some o' ∧ tr[j]? = some (x', some ob') ∧ o'.dst = some i)) ∧
    (∀ t : Nat, (∀ (j : Nat) (o' : Oper), l[j]? = some o' → o'.dst ≠ some t) → s'.get t = s.get t) ∧
    (∀ (t j : Nat) (o' : Oper) (x' : AV) (ob' : Option Ob), l[j]? = some o' → tr[j]? = some (x', ob') → o'.dst = some t → (∀ (j2 : Nat) (o2 : Oper), j < j2 → l[j2]? = some o2 → o2.dst ≠ some t) → s'.get t = x') ∧
    (∀ (i : Nat) (ob' : Ob), lk s'.ob i = some ob' → lk s.ob i = some ob' ∨ ∃ (j : Nat) (o' : Oper) (x' : AV), l[j]? = some o' ∧ tr[j]? = some (x', some ob') ∧ o'.dst = some i) ∧
    (∀ (i : Nat) (ob' : Ob), lk s.ob i = some ob' → (∀ (j : Nat) (o' : Oper) (x' : AV) (oo : Ob), l[j]? = some o' → tr[j]? = some (x', some oo) → o'.dst ≠ some i) → lk s'.ob i = some ob') ∧
    (∀ (i j : Nat) (o' : Oper) (x' : AV) (ob' : Ob), l[j]? = some o' → tr[j]? = some (x', some ob') → o'.dst = some i → (∀ (j2 : Nat) (o2 : Oper), j < j2 → l[j2]? = some o2 → o2.dst ≠ some i) → lk s'.ob i = some ob') := by
  induction h with
  | nil s => refine ⟨rfl, rfl, by simp, fun _ _ => rfl, by simp, fun _ _ h => .inl h, fun _ _ h _ => h, by simp⟩
  | @cons o r s s' x ob tr hd hcal htr ih =>
    obtain ⟨i1, i2, i3, i4, i5, i6, i7, i8⟩ := ih
    refine ⟨by simp [i1], by rw [i2, fin_nt], ?_, ?_, ?_, ?_, ?_, ?_⟩
    · intro k o' hk
      cases k with
      | zero =>
        simp only [List.getElem?_cons_zero, Option.some.injEq] at hk
        subst hk
        exact ⟨x, ob, s, rfl, hd, rfl, hcal, fun _ _ => rfl, fun _ j _ _ _ h => absurd h (Nat.not_lt_zero _), fun _ _ h => .inl h⟩
      | succ k =>
        obtain ⟨x2, ob2, sk, h1, h2, h3, h4, h5, h6, h7⟩ := i3 k o' (by simpa using hk)
        refine ⟨x2, ob2, sk, by simpa using h1, h2, by rw [h3, fin_nt], h4, ?_, ?_, ?_⟩
        · intro t ht
          rw [h5 t (fun j o2 hj h => ht (j + 1) o2 (by omega) (by simpa using h)), fin_get, if_neg]
          exact ht 0 o (by omega) rfl
        · intro t j o2 x3 ob3 hj hlj htj hdj hlast
          cases j with
          | zero =>
            simp only [List.getElem?_cons_zero, Option.some.injEq, Prod.mk.injEq] at hlj htj
            obtain ⟨rfl, rfl⟩ := htj
            subst hlj
            rw [h5 t (fun j o4 hj h => hlast (j + 1) o4 (by omega) (by omega) (by simpa using h)), fin_get, if_pos hdj]
          | succ j =>
            exact h6 t j o2 x3 ob3 (by omega) (by simpa using hlj) (by simpa using htj) hdj fun j2 o4 ha hb h => hlast (j2 + 1) o4 (by omega) (by omega) (by simpa using h)
        · intro i ob' hi
          rcases h7 i ob' hi with h8 | ⟨j, o2, x3, ha, hb, hc, hd2⟩
          · rw [fin_lk] at h8
            split at h8
            · rename_i oo d
              split at h8
              · rename_i e; subst e
                injection h8 with h8; subst h8
                exact .inr ⟨0, o, x, by omega, rfl, rfl, by assumption⟩
              · exact .inl h8
            · exact .inl h8
          · exact .inr ⟨j + 1, o2, x3, by omega, by simpa using hb, by simpa using hc, hd2⟩
    · intro t ht
      rw [i4 t (fun j o2 h => ht (j + 1) o2 (by simpa using h)), fin_get, if_neg]
      exact ht 0 o rfl
    · intro t j o2 x3 ob3 hlj htj hdj hlast
      cases j with
      | zero =>
        simp only [List.getElem?_cons_zero, Option.some.injEq, Prod.mk.injEq] at hlj htj
        obtain ⟨rfl, rfl⟩ := htj
        subst hlj
        rw [i4 t (fun j o4 h => hlast (j + 1) o4 (by omega) (by simpa using h)), fin_get, if_pos hdj]
      | succ j =>
        exact i5 t j o2 x3 ob3 (by simpa using hlj) (by simpa using htj) hdj fun j2 o4 ha h => hlast (j2 + 1) o4 (by omega) (by simpa using h)
    · intro i ob' hi
      rcases i6 i ob' hi with h8 | ⟨j, o2, x3, hb, hc, hd2⟩
      · rw [fin_lk] at h8
        split at h8
        · rename_i oo d
          split at h8
          · rename_i e; subst e
            injection h8 with h8; subst h8
            exact .inr ⟨0, o, x, rfl, rfl, by assumption⟩
          · exact .inl h8
        · exact .inl h8
      · exact .inr ⟨j + 1, o2, x3, by simpa using hb, by simpa using hc, hd2⟩
    · intro i ob' hi hno
      refine i7 i ob' ?_ (fun j o2 x3 oo ha hb => hno (j + 1) o2 x3 oo (by simpa using ha) (by simpa using hb))
      rw [fin_lk]
      split
      · rename_i oo d
        rw [if_neg]
        · exact hi
        · rintro rfl
          exact hno 0 o x _ rfl rfl (by assumption)
      · exact hi
    · intro i j o2 x3 ob3 hlj htj hdj hlast
      cases j with
      | zero =>
        simp only [List.getElem?_cons_zero, Option.some.injEq, Prod.mk.injEq] at hlj htj
        obtain ⟨rfl, rfl⟩ := htj
        subst hlj
        refine i7 i ob3 (by rw [fin_lk, hdj]; simp) (fun j o4 x4 oo ha hb => hlast (j + 1) o4 (by omega) (by simpa using ha))
      | succ j =>
        exact i8 i j o2 x3 ob3 (by simpa using hlj) (by simpa using htj) hdj fun j2 o4 ha h => hlast (j2 + 1) o4 (by omega) (by simpa using h)
end
end Go.Proofs.Ab
