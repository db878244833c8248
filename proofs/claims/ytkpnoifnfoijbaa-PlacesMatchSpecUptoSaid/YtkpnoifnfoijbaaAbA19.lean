/- A part of the proof of the law: it holds for all states of the abstract kind told in the first of these texts; no condition besides those its statements name. -/
import Derived.Test.YtkpnoifnfoijbaaAbA18
namespace Go.Proofs.Ab
open Go Go.RowKit
set_option linter.unusedVariables false
set_option linter.unusedSimpArgs false

section
variable {P : Program} {tt : TypeId → Option TI} {et : TypeId → Bool} {ops : Array Oper} {base : Nat} {w0 : World} {F0 : Nat → Nat → Prop}
theorem wanted_of {o : Oper} {a : Act} {ev : Nat → AV} {ι : Nat → Option Nat} {F : Nat → Nat → Prop} {w : World} {j : Nat} {want b : Bool} {d : Nat} (hg : o.guard = some (j, want)) (h1 : (ops[j]?).bind (·.dst) = some d) (h2 : ev d = .d (.v (.bool b))) (ht : RepA ι F base w (ev d) (a.tmps.getD d undef)) :
    Region.wanted o (yielded ops a.tmps) = decide (b = want) := by
  have hy : yielded ops a.tmps j = some b := by
    unfold yielded
    rw [h1]
    rw [h2] at ht
    have ht' : a.tmps.getD d undef = .bool b := ht
    simp only [Option.bind_some]
    rw [Array.getD_eq_getD_getElem?] at ht'
    cases e : a.tmps[d]? with
    | none => rw [e] at ht'; cases ht'
    | some v => rw [e] at ht'; simp only [Option.getD_some] at ht'; rw [ht']
  simp only [Region.wanted, hg, hy]
  cases b <;> cases want <;> rfl

structure Uniq (ops : Array Oper) : Prop where
  uniq : ∀ (i j : Nat) (o o' : Oper) (d : Nat), ops[i]? = some o → ops[j]? = some o' → o.dst = some d → o'.dst = some d → i = j
structure OrderOk (ops : Array Oper) : Prop where
  uniq : Uniq ops
  before : ∀ (i : Nat) (o : Oper) (e : Edge), ops[i]? = some o → e ∈ o.after.toList → Region.binds .any e = true → e.on < i
  nosel : ∀ (i : Nat) (o : Oper), ops[i]? = some o → ∀ cs b, o.op ≠ .select cs b
  guard : ∀ (i : Nat) (o : Oper) (j : Nat) (want : Bool), ops[i]? = some o → o.guard = some (j, want) → ∀ S, Closed ops S → S i → S j
  sees : ∀ (i j : Nat) (o o' : Oper) (d : Nat), ops[i]? = some o → ops[j]? = some o' → i ≠ j → o'.dst = some d → d ∈ o.looksAt ops → ∀ S, Closed ops S → (j < i → S i → S j) ∧ (i < j → S j → S i)
theorem orderOk_spec (h : orderOk ops = true) : OrderOk ops := by
  unfold orderOk at h
  simp only [List.all_eq_true, List.mem_range] at h
  have hl : ∀ {i : Nat} {o : Oper}, ops[i]? = some o → i < ops.toList.length ∧ ops.toList[i]? = some o := by
    intro i o hi
    have := (Array.getElem?_eq_some_iff.1 hi).1
    exact ⟨by simpa using this, by rw [Array.getElem?_toList]; exact hi⟩
  have row := fun {i : Nat} {o : Oper} (hi : ops[i]? = some o) => by
    have := h i (hl hi).1
    rw [(hl hi).2] at this
    simp only [Bool.and_eq_true, List.all_eq_true] at this
    exact this
  have clos : ∀ (i j : Nat), ((closGo ops.toList []).getD i []).contains j = true → ∀ S, Closed ops S → S i → S j := by
    intro i j hc S hS hi
    exact closGo_spec hS ops.toList [] rfl (by simp) i j (by simpa using hc) hi
  refine ⟨⟨?_⟩, ?_, ?_, ?_, ?_⟩
  · intro i j o o' d hi hj hd hd'
    rcases Nat.decEq i j with hne | he
    · have h2 := (row hi).2 j (List.mem_range.2 (hl hj).1)
      rw [(hl hj).2] at h2
      simp only [Bool.or_eq_true, beq_iff_eq, Bool.and_eq_true] at h2
      rcases h2 with h2 | ⟨h2, _⟩
      · exact h2
      · rw [hd, hd'] at h2
        simp at h2
    · exact he
  · intro i o e hi he hb
    have h2 := (row hi).1.1.1 e he
    rw [hb] at h2
    simpa using h2
  · intro i o hi cs b e
    have h2 := (row hi).1.1.2
    rw [e] at h2
    cases h2
  · intro i o j want hi hg S hS hSi
    have h2 := (row hi).1.2
    rw [hg] at h2
    simp only [Bool.and_eq_true] at h2
    exact clos i j h2.1 S hS hSi
  · intro i j o o' d hi hj hne hd hsee S hS
    have h2 := (row hi).2 j (List.mem_range.2 (hl hj).1)
    rw [(hl hj).2] at h2
    simp only [Bool.or_eq_true, beq_iff_eq, Bool.and_eq_true] at h2
    rcases h2 with h2 | ⟨_, h2⟩
    · exact absurd h2 hne
    · have hs : seesB ops o o' = true := by
        unfold seesB
        rw [hd]
        simpa using hsee
      rw [hs] at h2
      simp only [Bool.not_true, Bool.false_eq_true, false_or] at h2
      constructor
      · intro hlt hSi
        rw [if_pos hlt] at h2
        exact clos i j h2 S hS hSi
      · intro hlt hSj
        rw [if_neg (by omega)] at h2
        exact clos j i h2 S hS hSj

structure InvD (ops : Array Oper) (tr : List (AV × Option Ob)) (s : St) (base : Nat) (w0 : World) (F0 : Nat → Nat → Prop) (full : Nat → Option Ob) (S : Nat → Prop) (a : Act) (w : World) (ι : Nat → Option Nat) (ev : Nat → AV) : Prop where
  core : Core s.nt base w0 F0 ι full ev a w
  old : ∀ (i : Nat) (o : Ob), lk s.ob i = some o → (ι i).isSome = true ∨ ∃ sz, o = .arr sz []
  made : ∀ (j : Nat) (o : Oper) (d : Nat) (x : AV) (oo : Ob), ops[j]? = some o → S j → o.dst = some d → tr[j]? = some (x, some oo) → (ι d).isSome = true
  fresh : ∀ (j : Nat) (o : Oper) (d : Nat), ops[j]? = some o → ¬ S j → makes o = true → o.dst = some d → ι d = none
  ein : ∀ (j : Nat) (o : Oper) (d : Nat) (x : AV) (ob : Option Ob), ops[j]? = some o → S j → o.dst = some d → tr[j]? = some (x, ob) → ev d = x
  eout : ∀ t : Nat, (∀ (j : Nat) (o : Oper), ops[j]? = some o → S j → o.dst ≠ some t) → ev t = s.get t
  clo : Closed ops S

/-- One operation that is ready. -/
theorem InvD.step (htt : TOK P tt) (hett : ETOK P tt et) (hok : OrderOk ops) {s s' : St} {tr : List (AV × Option Ob)} {k : Nat} (htr : Tr P tt et ops (ops.toList.take k) s tr s') (hs0 : ∀ (j : Nat) (o : Oper) (d : Nat), ops[j]? = some o → makes o = true → o.dst = some d → lk s.ob d = none)
    {S : Nat → Prop} {a : Act} {w : World} {ι : Nat → Option Nat} {ev : Nat → AV} (h : InvD ops tr s base w0 F0 (lk s'.ob) S a w ι ev) {i : Nat} {o : Oper} (hi : ops[i]? = some o) (hik : i < k) (hn : ¬ S i) (hedge : ∀ e ∈ o.after.toList, Region.binds .any e = true → S e.on)
    {S' : Nat → Prop} (hS' : ∀ j, S' j ↔ S j ∨ j = i) {next : Act → World → Prop} {Q : Exit → Act → World → Prop} (hnext : ∀ a' w' ι' ev', InvD ops tr s base w0 F0 (lk s'.ob) S' a' w' ι' ev' → next a' w') : wpOp P ops Q i next a w := by
  have hil : (ops.toList.take k)[i]? = some o := by rw [List.getElem?_take, if_pos hik, Array.getElem?_toList]; exact hi
  obtain ⟨t1, t2, t3, t4, t5, t6, t7, t8⟩ := htr.at
  obtain ⟨x, ob, sk, k1, k2, k3, k4, k5, k6, k7⟩ := t3 i o hil
  have lst1 : ∀ {j : Nat} {o' : Oper}, (ops.toList.take k)[j]? = some o' → ops[j]? = some o' := fun {j o'} hj => by
    rw [List.getElem?_take] at hj
    split at hj
    · rwa [Array.getElem?_toList] at hj
    · cases hj
  have lst2 : ∀ {j : Nat} {o' : Oper}, j < k → ops[j]? = some o' → (ops.toList.take k)[j]? = some o' := fun {j o'} hk hj => by rw [List.getElem?_take, if_pos hk, Array.getElem?_toList]; exact hj
  -- closed with i
  have hclo' : Closed ops S' := by
    intro j oj e hj hSj he hb
    rw [hS']
    rcases (hS' j).1 hSj with h1 | rfl
    · exact .inl (h.clo j oj e hj h1 he hb)
    · rw [hi] at hj
      injection hj with hj
      subst hj
      exact .inl (hedge e he hb)
  have hSi' : S' i := (hS' i).2 (.inr rfl)
  -- the slots that it looks at
  have look : ∀ t, t ∈ o.looksAt ops → ev t = sk.get t := by
    intro t ht
    by_cases hex : ∃ j o', ops[j]? = some o' ∧ o'.dst = some t ∧ j ≠ i
    · obtain ⟨j, o', hj, hd, hne⟩ := hex
      have hsee := hok.sees i j o o' t hi hj (fun e => hne e.symm) hd ht S' hclo'
      rcases Nat.lt_or_gt_of_ne hne with hlt | hgt
      · obtain ⟨x', ob', _, k1', _⟩ := t3 j o' (lst2 (by omega) hj)
        have hSj : S j := by
          rcases (hS' j).1 (hsee.1 hlt hSi') with h1 | h1
          · exact h1
          · exact absurd h1 hne
        rw [h.ein j o' t x' ob' hj hSj hd k1']
        exact (k6 t j o' x' ob' hlt (lst2 (by omega) hj) k1' hd (fun j2 o2 h1 h2 h3 h4 => by
          have := hok.uniq.uniq _ _ _ _ _ hj (lst1 h3) hd h4; omega)).symm
      · have hnS : ¬ S j := by
          intro hSj
          have hsee2 := hok.sees i j o o' t hi hj (fun e => hne e.symm) hd ht S h.clo
          exact hn (hsee2.2 hgt hSj)
        rw [h.eout t (fun j2 o2 h2 hS2 hd2 => by
          have := hok.uniq.uniq _ _ _ _ _ hj h2 hd hd2
          subst this
          exact hnS hS2)]
        exact (k5 t (fun j2 o2 hlt h2 hd2 => by
          have := hok.uniq.uniq _ _ _ _ _ hj (lst1 h2) hd hd2
          omega)).symm
    · have hno : ∀ j o', ops[j]? = some o' → j ≠ i → o'.dst ≠ some t := fun j o' hj hne hd => hex ⟨j, o', hj, hd, hne⟩
      rw [h.eout t (fun j2 o2 h2 hS2 => hno j2 o2 h2 (by rintro rfl; exact hn hS2))]
      exact (k5 t (fun j2 o2 hlt h2 => hno j2 o2 (lst1 h2) (by omega))).symm
  have hops : ∀ y ∈ o.op.operands, evO ev y = evO sk.get y := by
    intro y hy
    cases y with
    | tmp t => exact look t (by unfold Oper.looksAt; refine List.mem_append_left _ (List.mem_filterMap.2 ⟨.tmp t, by simpa using hy, rfl⟩))
    | _ => rfl
  have hfull : ∀ d oo, lk sk.ob d = some oo → lk s'.ob d = some oo := by
    intro d oo hd
    rcases k7 d oo hd with h1 | ⟨j, o', x', hj, hoj, htj, hdj⟩
    · refine t7 d oo h1 (fun j o' x' o2 hj htj hdj => ?_)
      obtain ⟨x3, ob3, sk3, q1, _, _, q4, _⟩ := t3 j o' hj
      rw [q1] at htj
      simp only [Option.some.injEq, Prod.mk.injEq] at htj
      obtain ⟨rfl, rfl⟩ := htj
      have hm : makes o' = true := by
        unfold calmG at q4
        cases hg : o'.guard with
        | none => rw [hg] at q4; exact calm_makes q4
        | some q =>
          obtain ⟨jj, want⟩ := q
          rw [hg] at q4
          obtain ⟨d2, b, _, _, r3, r4⟩ := q4
          by_cases hb : b = want
          · exact calm_makes (r3 hb)
          · exact absurd (r4 hb).2 (by simp)
      rw [hs0 j o' d (lst1 hj) hm hdj] at h1
      cases h1
    · exact t8 d j o' x' oo hoj htj hdj (fun j2 o2 h1 h2 h3 => by
        have := hok.uniq.uniq _ _ _ _ _ (lst1 hoj) (lst1 h2) hdj h3; omega)
  have hdst : ∀ d, o.dst = some d → d < s.nt := by
    intro d hd
    unfold dstOk at k2
    rw [hd] at k2
    rw [← k3]; exact k2
  have hfr : makes o = true → ∀ d, o.dst = some d → ι d = none := fun hm d hd => h.fresh i o d hi hn hm hd
  -- what comes of it
  have fin : ∀ (ι' : Nat → Option Nat) (a' : Act) (w' : World), Core s.nt base w0 F0 ι' (lk s'.ob) (updE ev o.dst x) a' w' → (∀ j b, ι j = some b → ι' j = some b) → (∀ j, ι j = none → (∀ d, o.dst = some d → j ≠ d) → ι' j = none) → (∀ d oo, o.dst = some d → ob = some oo → (ι' d).isSome = true) → next a' w' := by
    intro ι' a' w' hcore hmono hkeep hmade
    refine hnext a' w' ι' (updE ev o.dst x) ⟨hcore, ?_, ?_, ?_, ?_, ?_, hclo'⟩
    · intro d oo hd
      rcases h.old d oo hd with h1 | h1
      · left
        obtain ⟨b, hb⟩ := Option.isSome_iff_exists.1 h1
        rw [hmono d b hb]; rfl
      · exact .inr h1
    · intro j o' d x' oo hj hSj hd htj
      rcases (hS' j).1 hSj with h1 | rfl
      · obtain ⟨b, hb⟩ := Option.isSome_iff_exists.1 (h.made j o' d x' oo hj h1 hd htj)
        rw [hmono d b hb]; rfl
      · rw [hi] at hj
        injection hj with hj
        subst hj
        rw [k1] at htj
        simp only [Option.some.injEq, Prod.mk.injEq] at htj
        exact hmade d oo hd htj.2
    · intro j o' d hj hnS hm hd
      refine hkeep d (h.fresh j o' d hj (fun hS => hnS ((hS' j).2 (.inl hS))) hm hd) ?_
      rintro d2 hd2 rfl
      have := hok.uniq.uniq _ _ _ _ _ hi hj hd2 hd
      subst this
      exact hnS hSi'
    · intro j o' d x' ob' hj hSj hd htj
      rcases (hS' j).1 hSj with h1 | rfl
      · have hne : j ≠ i := by rintro rfl; exact hn h1
        have : updE ev o.dst x d = ev d := by
          unfold updE
          cases ho : o.dst with
          | none => rfl
          | some d2 =>
            show (if d = d2 then x else ev d) = _
            rw [if_neg]
            rintro rfl
            exact hne (hok.uniq.uniq _ _ _ _ _ hj hi hd ho)
        rw [this]
        exact h.ein j o' d x' ob' hj h1 hd htj
      · rw [hi] at hj
        injection hj with hj
        subst hj
        rw [k1] at htj
        simp only [Option.some.injEq, Prod.mk.injEq] at htj
        rw [hd]
        show (if d = d then x else ev d) = _
        rw [if_pos rfl]
        exact htj.1
    · intro t ht
      have : updE ev o.dst x t = ev t := by
        unfold updE
        cases ho : o.dst with
        | none => rfl
        | some d2 =>
          show (if t = d2 then x else ev t) = _
          rw [if_neg]
          rintro rfl
          exact ht i o hi hSi' ho
      rw [this]
      exact h.eout t (fun j o' hj hS => ht j o' hj ((hS' j).2 (.inl hS)))
  have run : (calm P tt et o (evO sk.get) (lk sk.ob) fun x' ob' => x' = x ∧ ob' = ob) → ∀ Q', o.wp P a w next Q' := by
    intro hcal Q'
    obtain ⟨x', ob', ⟨rfl, rfl⟩, hcal', hwp⟩ := calm_sound htt hett h.core hdst hfr (calm_congr hfull hops hcal)
    refine hwp next Q' fun a' w' haf => ?_
    cases ob' with
    | none => exact fin ι a' w' haf (fun _ _ h => h) (fun _ h _ => h) (fun _ _ _ h => by cases h)
    | some oo =>
      obtain ⟨d, b, hd, hk⟩ := haf
      refine fin (upd ι d b) a' w' (hk (lk s'.ob) (fun _ _ _ => rfl) ?_) ?_ ?_ ?_
      · exact t8 d i o x' oo hil k1 hd (fun j2 o2 h1 h2 h3 => by
          have := hok.uniq.uniq _ _ _ _ _ hi (lst1 h2) hd h3; omega)
      · intro j b' hj
        unfold upd
        rw [if_neg]
        · exact hj
        · rintro rfl
          rw [hfr (calm_makes hcal') j hd] at hj
          cases hj
      · intro j hj hne
        unfold upd
        rw [if_neg (hne d hd)]
        exact hj
      · intro d2 oo2 hd2 _
        rw [hd] at hd2
        injection hd2 with hd2
        subst hd2
        simp [upd]
  unfold wpOp
  simp only [hi]
  unfold calmG at k4
  cases hg : o.guard with
  | none =>
    rw [hg] at k4
    rw [if_pos (by simp [Region.wanted, hg])]
    exact .inl (run k4 _)
  | some q =>
    obtain ⟨jg, want⟩ := q
    rw [hg] at k4
    obtain ⟨d, b, r1, r2, r3, r4⟩ := k4
    have hlook : d ∈ o.looksAt ops := by
      unfold Oper.looksAt
      rw [hg]
      simp only [r1]
      simp
    have r2' : ev d = .d (.v (.bool b)) := by rw [look d hlook]; exact r2
    rw [wanted_of hg r1 r2' (h.core.tms d)]
    by_cases e : b = want
    · rw [if_pos (by simpa using e)]
      exact .inl (run (r3 e) _)
    · rw [if_neg (by simpa using e)]
      obtain ⟨rfl, rfl⟩ := r4 e
      exact fin ι _ _ (h.core.putO hdst (x := .un) trivial) (fun _ _ h => h) (fun _ h _ => h) (fun _ _ _ h => by cases h)

/-- The head of the region runs in whatever order, the rest behind it. -/
def tailOk (ops : Array Oper) (k : Nat) : Bool :=
  let c := closGo ops.toList []
  (List.range ops.toList.length).all fun i => decide (i < k) || (List.range i).all fun j => (c.getD i []).contains j
theorem wpAny_tail (htt : TOK P tt) (hett : ETOK P tt et) (hok : OrderOk ops) {K : St → Prop} {Q : Exit → Act → World → Prop} (hQ : ∀ s a w, K s → RS base w0 F0 s a w → Q .normal a w) {k0 : Nat} (htail : ∀ i o, ops[i]? = some o → k0 ≤ i → ∀ S, Closed ops S → S i → ∀ j, j < i → S j) :
    ∀ (l : List Oper) (k : Nat) (fuel : Nat) (listed : Array Bool) (s : St) (a : Act) (w : World), k0 ≤ k → ops.toList.drop k = l → l.length ≤ fuel → listed.size = ops.size → (∀ j, j < ops.size → (listed.getD j false = true ↔ j < k)) → aops P tt et ops l s K → RS base w0 F0 s a w → wpAny P .any ops Q fuel listed a w := by
  intro l
  have notready : ∀ (k : Nat) (listed : Array Bool), k0 ≤ k → (∀ j, j < ops.size → (listed.getD j false = true ↔ j < k)) → listed.size = ops.size → ∀ i ∈ Region.ready .any ops listed, i = k := by
    intro k listed hk hl hsz i hi
    unfold Region.ready at hi
    simp only [List.mem_filter, List.mem_range, Bool.and_eq_true, Bool.not_eq_true'] at hi
    obtain ⟨hi1, hi2, hi3⟩ := hi
    have hoi : ∃ o, ops[i]? = some o := ⟨ops[i], Array.getElem?_eq_getElem hi1⟩
    obtain ⟨o, ho⟩ := hoi
    rw [ho] at hi3
    simp only [Option.map_some, Option.getD_some, Array.all_eq_true_iff_forall_mem, Bool.or_eq_true, Bool.not_eq_true'] at hi3
    have hni : ¬ i < k := by
      intro h
      have := (hl i hi1).2 h
      rw [Array.getD_eq_getD_getElem?] at this hi2
      rw [Array.getElem?_eq_getElem (by omega)] at this hi2
      simp at this hi2
      rw [this] at hi2; cases hi2
    have hS : Closed ops fun j => j < k ∨ j = i := by
      intro j oj e hj hSj he hb
      rcases hSj with h | rfl
      · left
        have := hok.before j oj e hj he hb
        omega
      · rw [ho] at hj
        injection hj with hj
        subst hj
        left
        have h2 := hi3 e (by simpa using he)
        rcases h2 with h2 | h2
        · rw [hb] at h2; cases h2
        · have hlt : e.on < ops.size := by
            have := hok.before _ _ _ ho he hb; omega
          exact (hl e.on hlt).1 h2
    rcases Nat.lt_trichotomy i k with h | h | h
    · exact absurd h hni
    · exact h
    · have := htail i o ho (by omega) _ hS (.inr rfl) k h
      rcases this with h2 | h2
      · exact absurd h2 (Nat.lt_irrefl _)
      · exact h2.symm
  induction l with
  | nil =>
    intro k fuel listed s a w hk hl hf hsz hli h hr
    have hkn : ops.size ≤ k := by
      have := congrArg List.length hl
      simp at this
      omega
    have hno : Region.ready .any ops listed = [] := by
      rw [List.eq_nil_iff_forall_not_mem]
      intro i hi
      have e := notready k listed hk hli hsz i hi
      unfold Region.ready at hi
      simp only [List.mem_filter, List.mem_range] at hi
      omega
    cases fuel with
    | zero => exact ⟨hno, hQ _ _ _ h hr⟩
    | succ f => exact ⟨fun _ => hQ _ _ _ h hr, fun i hi => by rw [hno] at hi; cases hi⟩
  | cons o r ih =>
    intro k fuel listed s a w hk hl hf hsz hli h hr
    have ho : ops[k]? = some o := by
      rw [← Array.getElem?_toList]
      have := congrArg List.head? hl
      simpa [List.head?_drop] using this
    have hks : k < ops.size := (Array.getElem?_eq_some_iff.1 ho).1
    cases fuel with
    | zero => simp at hf
    | succ f =>
      have hready : k ∈ Region.ready .any ops listed := by
        unfold Region.ready
        simp only [List.mem_filter, List.mem_range, Bool.and_eq_true, Bool.not_eq_true']
        refine ⟨hks, ?_, ?_⟩
        · have : ¬ listed.getD k false = true := by rw [hli k hks]; omega
          rw [Array.getD_eq_getD_getElem?, Array.getElem?_eq_getElem (by omega)] at this ⊢
          simpa using this
        · rw [ho]
          simp only [Option.map_some, Option.getD_some, Array.all_eq_true_iff_forall_mem, Bool.or_eq_true, Bool.not_eq_true']
          intro e he
          cases hb : Region.binds .any e with
          | false => exact .inl rfl
          | true =>
            right
            have := hok.before k o e ho (by simpa using he) hb
            exact (hli e.on (by omega)).2 this
      refine ⟨fun hn => (by rw [hn] at hready; cases hready), fun i hi => ?_⟩
      obtain rfl := notready k listed hk hli hsz i hi
      refine stepG_sound htt hett hr ho h fun s' a' w' hK hr' => ih (i + 1) f _ s' a' w' (by omega) (by rw [← List.drop_drop, hl]; rfl) (by simp at hf; omega) (by simpa using hsz) ?_ hK hr'
      intro j hj
      rw [Array.getD_eq_getD_getElem?, Array.getElem?_setIfInBounds]
      by_cases e : i = j
      · subst e
        simp [show i < listed.size by omega]
      · rw [if_neg e, ← Array.getD_eq_getD_getElem?, hli j hj]
        omega
end
end Go.Proofs.Ab
