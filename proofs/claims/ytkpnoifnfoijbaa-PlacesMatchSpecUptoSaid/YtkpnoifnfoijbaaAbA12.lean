/- A part of the proof of the law: it holds for all states of the abstract kind told in the first of these texts; no condition besides those its statements name. -/
import Derived.Test.YtkpnoifnfoijbaaAbA11
import Derived.ArgAppend
namespace Go.Proofs.Ab
open Go Go.RowKit
set_option linter.unusedVariables false
set_option linter.unusedSimpArgs false

/-! ### What may be forgotten -/
def wipe (ι : Nat → Option Nat) (p : Nat → Bool) : Nat → Option Nat := fun j => if p j then none else ι j
def mapT (f : AV → AV) (l : List (Nat × AV)) : List (Nat × AV) := l.map fun q => (q.1, f q.2)
def mapO (f : Ob → Ob) (l : List (Nat × Ob)) : List (Nat × Ob) := l.map fun q => (q.1, f q.2)
def St.sub (s : St) (p : Nat → Bool) (g : AV → AV) : St := ⟨s.nt, mapT (AV.sub p g) s.tm, mapO (Ob.sub p g) (del p s.ob)⟩
def St.kill (s : St) (p : Nat → Bool) : St := s.sub p fun _ => .un
theorem St.get_sub (s : St) (p : Nat → Bool) (g : AV → AV) (t : Nat) : (s.sub p g).get t = (s.get t).sub p g := by
  show ((lk (mapT (AV.sub p g) s.tm) t).getD .un) = _
  unfold mapT
  rw [lk_map]
  unfold St.get
  cases lk s.tm t <;> rfl
theorem St.lk_sub (s : St) (p : Nat → Bool) (g : AV → AV) (i : Nat) : lk (s.sub p g).ob i = if p i then none else (lk s.ob i).map (Ob.sub p g) := by
  show lk (mapO (Ob.sub p g) (del p s.ob)) i = _
  unfold mapO
  rw [lk_map, lk_del]
  split <;> rfl

def Weak (s s' : St) : Prop := ∀ base w0 F0 a w, RS base w0 F0 s a w → RS base w0 F0 s' a w
theorem Weak.refl (s : St) : Weak s s := fun _ _ _ _ _ h => h
theorem Weak.trans {a b c : St} (h : Weak a b) (k : Weak b c) : Weak a c := fun _ _ _ _ _ r => k _ _ _ _ _ (h _ _ _ _ _ r)

section
variable {P : Program} {n base : Nat} {w0 : World} {F0 : Nat → Nat → Prop} {ι : Nat → Option Nat} {full : Nat → Option Ob} {ev : Nat → AV} {a : Act} {w : World}
theorem StepX.wipe (p : Nat → Bool) : StepX p ι (FF F0 ι) base w (wipe ι p) (FF F0 (wipe ι p)) base w := by
  have hF : ∀ b o, ¬ FF F0 ι b o → ¬ FF F0 (Ab.wipe ι p) b o := by
    rintro b o h (h1 | ⟨i, h1⟩)
    · exact h (.inl h1)
    · unfold Ab.wipe at h1
      split at h1
      · cases h1
      · exact h (.inr ⟨i, h1⟩)
  exact {
    prot := fun b o x h => ⟨h.1, hF _ _ h.2⟩
    rdb := fun b o x h => ⟨h.1, h.2.imp (hF _ _) id⟩
    ids := fun j b hj h => by unfold Ab.wipe; rw [if_neg (by rw [hj]; simp)]; exact h
    room := fun j b n _ _ h => h }
/-- Some names are given up; g writes anew what refers to them. -/
theorem Core.wipe (h : Core n base w0 F0 ι full ev a w) (p : Nat → Bool) {g : AV → AV} {full' : Nat → Option Ob} {ev' : Nat → AV}
    (hg : ∀ x y, AV.leafAt p x → RepA ι (FF F0 ι) base w x y → RepA (wipe ι p) (FF F0 (wipe ι p)) base w (g x) y)
    (hf : ∀ j, p j = false → full' j = (full j).map (Ob.sub p g)) (he : ∀ t, ev' t = (ev t).sub p g) :
    Core n base w0 F0 (Ab.wipe ι p) full' ev' a w where
  below := h.below
  lowF := h.lowF
  size := h.size
  inj := by
    intro i j b hi hj
    unfold Ab.wipe at hi hj
    split at hi
    · cases hi
    · split at hj
      · cases hj
      · exact h.inj i j b hi hj
  low := by
    intro i b hi
    unfold Ab.wipe at hi
    split at hi
    · cases hi
    · exact h.low i b hi
  obs := by
    intro i b hi
    unfold Ab.wipe at hi
    split at hi
    · cases hi
    · rename_i hp
      replace hp := Bool.eq_false_iff.2 hp
      obtain ⟨o, h1, h2⟩ := h.obs i b hi
      refine ⟨o.sub p g, by rw [hf i hp, h1]; rfl, ?_⟩
      have s := StepX.wipe (F0 := F0) (ι := ι) (base := base) (w := w) p
      cases o with
      | var cs => obtain ⟨c, T, e, hl⟩ := h2; exact ⟨c, T, e, RepL.sub s hg _ _ hl⟩
      | arr sz es => obtain ⟨c, T, e, hl, h3⟩ := h2; exact ⟨c, T, e, RepEs.mono s.prot (fun _ _ h => h) _ _ _ hl, h3⟩
  tms t := by rw [he]; exact RepA.sub (StepX.wipe p) hg _ _ (h.tms t)
  dfs := h.dfs
  nt := h.nt
theorem Weak.kill (s : St) (p : Nat → Bool) : Weak s (s.kill p) := by
  rintro base w0 F0 a w ⟨ι, hc, hfull⟩
  refine ⟨wipe ι p, hc.wipe p (g := fun _ => .un) (fun _ _ _ _ => trivial) (fun j hj => ?_) (fun t => St.get_sub s p _ t), ?_⟩
  · unfold St.kill
    rw [St.lk_sub, hj]
    rfl
  · intro i o ho
    unfold St.kill at ho
    rw [St.lk_sub] at ho
    split at ho
    · cases ho
    · rename_i hp
      simp only [Option.map_eq_some_iff] at ho
      obtain ⟨o', h1, h2⟩ := ho
      rcases hfull i o' h1 with h3 | ⟨sz, rfl⟩
      · left; unfold wipe; rw [if_neg hp]; exact h3
      · right; exact ⟨sz, h2.symm⟩
/-- An array is written no more: what refers to it becomes data. -/
def frzA (sz : Nat) (es : List (List D)) : AV → AV
  | .ms _ sz' off len => if sz' = sz ∧ off + len ≤ es.length then .d (.sl sz ((es.drop off).take len)) else .un
  | _ => .un
def frzV (ds : List D) : AV → AV
  | .pt _ off => .d (.rp (ds.drop off))
  | _ => .un
theorem Weak.freeze (s : St) (id : Nat) {sz : Nat} {es : List (List D)} (h : lk s.ob id = some (.arr sz es)) : Weak s (s.sub (· == id) (frzA sz es)) := by
  rintro base w0 F0 a w ⟨ι, hc, hfull⟩
  refine ⟨wipe ι (· == id), hc.wipe (· == id) (g := frzA sz es) ?_ (fun j hj => ?_) (fun t => St.get_sub s _ _ t), ?_⟩
  · intro x y hl hx
    cases hl with
    | pt i o hi => trivial
    | pe i sz' k o hi => trivial
    | ms i sz' off len hi =>
      obtain rfl : i = id := by simpa using hi
      simp only [frzA]
      split
      · rename_i hcond
        obtain ⟨rfl, hlen⟩ := hcond
        rcases hx with ⟨b, cap, hb, rfl, h1, h2⟩ | ⟨rfl, A, rfl⟩
        · obtain ⟨o, ho, hob⟩ := hc.obs _ b hb
          rw [h] at ho
          injection ho with ho
          subst ho
          obtain ⟨c, T, e, hl, hsz⟩ := hob
          have h3 := (hl.drop off).take len
          rw [Nat.zero_add] at h3
          have h4 : ((es.drop off).take len).length = len := by simp; omega
          have s := StepX.wipe (F0 := F0) (ι := ι) (base := base) (w := w) (· == i)
          refine ⟨_, cap, b, off * sz', by rw [h4], by rw [h4]; exact h1, fun _ => rfl, RepEs.mono s.prot ?_ _ _ _ h3⟩
          intro o u hu
          refine ⟨by rw [cell_of e]; exact hu, ?_⟩
          rintro (hf | ⟨j, hj⟩)
          · have := hc.lowF b o hf; have := (hc.low _ _ hb).1; omega
          · unfold wipe at hj
            split at hj
            · cases hj
            · rename_i hne
              exact hne (by rw [hc.inj _ _ _ hj hb]; simp)
        · exact ⟨A, 0, 0, 0, by simp, by simp, by simp, by simp [RepEs]⟩
      · trivial
  · rw [St.lk_sub, hj]; rfl
  · intro i o ho
    rw [St.lk_sub] at ho
    split at ho
    · cases ho
    · rename_i hp
      simp only [Option.map_eq_some_iff] at ho
      obtain ⟨o', h1, h2⟩ := ho
      rcases hfull i o' h1 with h3 | ⟨sz, rfl⟩
      · left; unfold wipe; rw [if_neg hp]; exact h3
      · right; exact ⟨sz, h2.symm⟩
theorem Weak.freezeV (s : St) (id : Nat) {cs : List AV} {ds : List D} (h : lk s.ob id = some (.var cs)) (hd : toDs cs = some ds) : Weak s (s.sub (· == id) (frzV ds)) := by
  rintro base w0 F0 a w ⟨ι, hc, hfull⟩
  refine ⟨wipe ι (· == id), hc.wipe (· == id) (g := frzV ds) ?_ (fun j hj => ?_) (fun t => St.get_sub s _ _ t), ?_⟩
  · intro x y hl hx
    cases hl with
    | pe i sz' k o hi => trivial
    | ms i sz' off len hi => trivial
    | pt i off hi =>
      obtain rfl : i = id := by simpa using hi
      obtain ⟨b, hb, rfl⟩ := hx
      obtain ⟨o, ho, hob⟩ := hc.obs _ b hb
      rw [h] at ho
      injection ho with ho
      subst ho
      obtain ⟨c, T, e, hl⟩ := hob
      have s := StepX.wipe (F0 := F0) (ι := ι) (base := base) (w := w) (· == i)
      have hr := (toDs_sound (pr := Prot (FF F0 (wipe ι (· == i))) w b) hd hl 0 (by
        intro j u hj
        refine ⟨by rw [cell_of e]; simpa using hj, ?_⟩
        rintro (hf | ⟨j, hj⟩)
        · have := hc.lowF _ _ hf; have := (hc.low _ _ hb).1; omega
        · unfold wipe at hj
          split at hj
          · cases hj
          · rename_i hne
            exact hne (by rw [hc.inj _ _ _ hj hb]; simp))).2
      have hr2 := hr.drop off
      rw [Nat.zero_add] at hr2
      exact ⟨b, off, rfl, RepCs.mono s.prot (fun _ _ h => h) _ _ hr2⟩
  · rw [St.lk_sub, hj]; rfl
  · intro i o ho
    rw [St.lk_sub] at ho
    split at ho
    · cases ho
    · rename_i hp
      simp only [Option.map_eq_some_iff] at ho
      obtain ⟨o', h1, h2⟩ := ho
      rcases hfull i o' h1 with h3 | ⟨sz, rfl⟩
      · left; unfold wipe; rw [if_neg hp]; exact h3
      · right; exact ⟨sz, h2.symm⟩
/-- Slots are known less well. -/
theorem Weak.less (s : St) (tm : List (Nat × AV)) (h : ∀ t x, lk tm t = some x → Le (s.get t) x) : Weak s { s with tm := tm } := by
  rintro base w0 F0 a w ⟨ι, hc, hfull⟩
  refine ⟨ι, { hc with tms := fun t => ?_ }, hfull⟩
  show RepA _ _ _ _ ((lk tm t).getD .un) _
  cases he : lk tm t with
  | none => trivial
  | some x => exact (h t x he).sound (hc.tms t)
/-- A nil slice is an array of the call's own, empty as yet. -/
theorem Weak.own (s : St) (t d sz : Nat) (ht : s.get t = .d (.v (.slice none 0 0))) (hd : lk s.ob d = none) : Weak s { s with tm := ins t (.ms d sz 0 0) s.tm, ob := (d, .arr sz []) :: s.ob } := by
  rintro base w0 F0 a w ⟨ι, hc, hfull⟩
  have hn : ι d = none := by
    cases hi : ι d with
    | none => rfl
    | some b => obtain ⟨o, h1, _⟩ := hc.obs d b hi; rw [hd] at h1; cases h1
  refine ⟨ι, { hc with obs := ?_, tms := fun t' => ?_ }, ?_⟩
  · intro i b hi
    obtain ⟨o, h1, h2⟩ := hc.obs i b hi
    refine ⟨o, ?_, h2⟩
    simp only [lk]
    rw [if_neg (by rintro rfl; rw [hn] at hi; cases hi)]
    exact h1
  · show RepA _ _ _ _ ((lk (ins t (.ms d sz 0 0) s.tm) t').getD .un) _
    rw [lk_ins]
    split
    · rename_i e
      subst e
      have := hc.tms t
      rw [ht] at this
      obtain this : a.tmps.getD t undef = .slice none 0 0 := this
      rw [this]
      exact .inr ⟨rfl, none, rfl⟩
    · exact hc.tms t'
  · intro i o ho
    simp only [lk] at ho
    split at ho
    · injection ho with ho; exact .inr ⟨sz, ho.symm⟩
    · exact hfull i o ho
end
end Go.Proofs.Ab
