/- A part of the proof of the law: it holds for all states of the abstract kind told in the first of these texts; no condition besides those its statements name. -/
import Derived.Test.YtkpnoifnfoijbaaAbA19
namespace Go.Proofs.Ab
open Go Go.RowKit
set_option linter.unusedVariables false
set_option linter.unusedSimpArgs false

section
variable {P : Program} {tt : TypeId → Option TI} {et : TypeId → Bool} {ops : Array Oper} {base : Nat} {w0 : World} {F0 : Nat → Nat → Prop}
def killC (ops : Array Oper) (s : St) : St := s.kill (creates ops)
theorem wpAny_head (htt : TOK P tt) (hett : ETOK P tt et) (hok : OrderOk ops) {K : St → Prop} {Q : Exit → Act → World → Prop} (hQ : ∀ s a w, K s → RS base w0 F0 s a w → Q .normal a w) {k : Nat} (hk : k ≤ ops.size) (htail : ∀ i o, ops[i]? = some o → k ≤ i → ∀ S, Closed ops S → S i → ∀ j, j < i → S j)
    {s s' : St} {tr : List (AV × Option Ob)} (htr : Tr P tt et ops (ops.toList.take k) s tr s') (hs0 : ∀ (j : Nat) (o : Oper) (d : Nat), ops[j]? = some o → makes o = true → o.dst = some d → lk s.ob d = none)
    (hrest : aops P tt et ops (ops.toList.drop k) s' K) :
    ∀ (m fuel : Nat) (listed : Array Bool) (a : Act) (w : World) (ι : Nat → Option Nat) (ev : Nat → AV), (List.range k).countP (fun j => !listed.getD j false) = m → m + (ops.size - k) ≤ fuel → listed.size = ops.size → (∀ j, k ≤ j → listed.getD j false = false) →
      InvD ops tr s base w0 F0 (lk s'.ob) (fun j => listed.getD j false = true) a w ι ev → wpAny P .any ops Q fuel listed a w := by
  obtain ⟨t1, t2, t3, t4, t5, t6, t7, t8⟩ := htr.at
  have lst2 : ∀ {j : Nat} {o' : Oper}, j < k → ops[j]? = some o' → (ops.toList.take k)[j]? = some o' := fun {j o'} hk hj => by rw [List.getElem?_take, if_pos hk, Array.getElem?_toList]; exact hj
  have lst1 : ∀ {j : Nat} {o' : Oper}, (ops.toList.take k)[j]? = some o' → j < k ∧ ops[j]? = some o' := fun {j o'} hj => by
    rw [List.getElem?_take] at hj
    split at hj
    · rename_i h; exact ⟨h, by rwa [Array.getElem?_toList] at hj⟩
    · cases hj
  intro m
  induction m with
  | zero =>
    intro fuel listed a w ι ev hm hf hsz hhi hinv
    have hall : ∀ j, j < k → listed.getD j false = true := by
      intro j hj
      have := List.countP_eq_zero.1 hm j (List.mem_range.2 hj)
      simpa using this
    refine wpAny_tail htt hett hok hQ htail (ops.toList.drop k) k fuel listed s' a w (Nat.le_refl _) rfl (by simp; omega) hsz ?_ hrest ⟨ι, ?_, ?_⟩
    · intro j hj
      constructor
      · intro h
        rcases Nat.lt_or_ge j k with h2 | h2
        · exact h2
        · rw [hhi j h2] at h; cases h
      · exact hall j
    · have hev : s'.get = ev := by
        funext t
        by_cases hex : ∃ j o', ops[j]? = some o' ∧ o'.dst = some t ∧ j < k
        · obtain ⟨j, o', hj, hd, hjk⟩ := hex
          obtain ⟨x', ob', _, k1', _⟩ := t3 j o' (lst2 hjk hj)
          rw [hinv.ein j o' t x' ob' hj (hall j hjk) hd k1']
          exact t5 t j o' x' ob' (lst2 hjk hj) k1' hd (fun j2 o2 h1 h2 h3 => by
            have := hok.uniq.uniq _ _ _ _ _ hj (lst1 h2).2 hd h3; omega)
        · have hno : ∀ j o', ops[j]? = some o' → j < k → o'.dst ≠ some t := fun j o' hj hjk hd => hex ⟨j, o', hj, hd, hjk⟩
          rw [hinv.eout t (fun j o' hj hS => hno j o' hj (by
            rcases Nat.lt_or_ge j k with h2 | h2
            · exact h2
            · have hS : listed.getD j false = true := hS
              rw [hhi j h2] at hS; cases hS))]
          exact t4 t (fun j o' hj => hno j o' (lst1 hj).2 (lst1 hj).1)
      rw [hev, t2]
      exact hinv.core
    · intro i o hi
      rcases t6 i o hi with h1 | ⟨j, o', x', hj, htj, hd⟩
      · exact hinv.old i o h1
      · left
        exact hinv.made j o' i x' o (lst1 hj).2 (hall j (lst1 hj).1) hd htj
  | succ m ih =>
    intro fuel listed a w ι ev hm hf hsz hhi hinv
    -- one that is not yet listed
    have hex : ∃ j, j < k ∧ listed.getD j false = false := by
      have : 0 < (List.range k).countP (fun j => !listed.getD j false) := by omega
      obtain ⟨j, hj, hj2⟩ := List.countP_pos_iff.1 this
      exact ⟨j, List.mem_range.1 hj, by simpa using hj2⟩
    have hready : Region.ready .any ops listed ≠ [] := by
      obtain ⟨j, hj, hj2⟩ := hex
      -- the least one
      have key : ∀ n j, j < n → j < k → listed.getD j false = false → ∃ i, i ∈ Region.ready .any ops listed := by
        intro n
        induction n with
        | zero => intro j h; omega
        | succ n ihn =>
          intro j hjn hjk hjl
          by_cases hbad : ∃ i, i < j ∧ listed.getD i false = false
          · obtain ⟨i, hi, hil⟩ := hbad
            exact ihn i (by omega) (by omega) hil
          · refine ⟨j, ?_⟩
            have hjs : j < ops.size := by omega
            rw [mem_ready]
            refine ⟨?_, ops[j], Array.getElem?_eq_getElem hjs, ?_⟩
            · rw [Array.getD_eq_getD_getElem?, Array.getElem?_eq_getElem (by omega)] at hjl ⊢
              simpa using hjl
            · intro e he hb
              have hlt := hok.before j _ e (Array.getElem?_eq_getElem hjs) (by simpa using he) hb
              cases hv : listed.getD e.on false with
              | true => rfl
              | false => exact absurd ⟨e.on, hlt, hv⟩ hbad
      obtain ⟨i, hi⟩ := key (j + 1) j (by omega) hj hj2
      intro h
      rw [h] at hi; cases hi
    cases fuel with
    | zero => omega
    | succ f =>
      refine ⟨fun h => absurd h hready, fun i hi => ?_⟩
      rw [mem_ready] at hi
      obtain ⟨hi1, o, ho, hi2⟩ := hi
      have his : i < ops.size := (Array.getElem?_eq_some_iff.1 ho).1
      have hil : listed.getD i false = false := by
        rw [Array.getD_eq_getD_getElem?, Array.getElem?_eq_getElem (by omega)] at hi1 ⊢
        simpa using hi1
      have hset : ∀ j, (listed.setIfInBounds i true).getD j false = true ↔ listed.getD j false = true ∨ j = i := by
        intro j
        rw [Array.getD_eq_getD_getElem?, Array.getElem?_setIfInBounds]
        by_cases e : i = j
        · subst e; simp [show i < listed.size by omega]
        · have e' : j ≠ i := fun h => e h.symm
          rw [if_neg e, ← Array.getD_eq_getD_getElem?]
          simp [e']
      -- it is one of the head
      have hik : i < k := by
        rcases Nat.lt_or_ge i k with h | h
        · exact h
        · obtain ⟨j, hj, hj2⟩ := hex
          have hcl : Closed ops fun q => listed.getD q false = true ∨ q = i := by
            intro q oq e hq hSq he hb
            rcases hSq with h1 | rfl
            · exact .inl (hinv.clo q oq e hq h1 he hb)
            · rw [ho] at hq
              injection hq with hq
              subst hq
              exact .inl (hi2 e (by simpa using he) hb)
          rcases htail i o ho h _ hcl (.inr rfl) j (by omega) with h1 | h1
          · rw [hj2] at h1; cases h1
          · omega
      refine InvD.step htt hett hok htr hs0 hinv ho hik (by rw [hil]; simp) (fun e he hb => hi2 e (by simpa using he) hb) (S' := fun j => (listed.setIfInBounds i true).getD j false = true) hset fun a' w' ι' ev' hinv' => ?_
      refine ih f _ a' w' ι' ev' ?_ ?_ (by simpa using hsz) ?_ hinv'
      · have hc : (List.range k).countP (fun j => !(listed.setIfInBounds i true).getD j false) + 1 = (List.range k).countP (fun j => !listed.getD j false) := by
          have gen : ∀ (l : List Nat), l.Nodup → i ∈ l → l.countP (fun j => !(listed.setIfInBounds i true).getD j false) + 1 = l.countP (fun j => !listed.getD j false) := by
            intro l
            induction l with
            | nil => intro _ h; cases h
            | cons q r ihl =>
              intro hnd hmem
              rw [List.nodup_cons] at hnd
              simp only [List.countP_cons]
              by_cases e : q = i
              · subst e
                have h1 : (listed.setIfInBounds q true).getD q false = true := (hset q).2 (.inr rfl)
                have h2 : r.countP (fun j => !(listed.setIfInBounds q true).getD j false) = r.countP (fun j => !listed.getD j false) := by
                  refine List.countP_congr fun j hj => ?_
                  have hne : j ≠ q := by rintro rfl; exact hnd.1 hj
                  have e2 : (listed.setIfInBounds q true).getD j false = listed.getD j false := Bool.eq_iff_iff.2 ⟨fun h => ((hset j).1 h).resolve_right hne, fun h => (hset j).2 (.inl h)⟩
                  rw [e2]
                rw [h1, h2, hil]
                simp
              · have hmem : i ∈ r := by
                  rcases List.mem_cons.1 hmem with h | h
                  · exact absurd h.symm e
                  · exact h
                have h1 : (listed.setIfInBounds i true).getD q false = listed.getD q false := Bool.eq_iff_iff.2 ⟨fun h => ((hset q).1 h).resolve_right e, fun h => (hset q).2 (.inl h)⟩
                have := ihl hnd.2 hmem
                rw [h1]
                omega
          exact gen _ List.nodup_range (List.mem_range.2 hik)
        omega
      · omega
      · intro j hj
        cases hv : (listed.setIfInBounds i true).getD j false with
        | false => rfl
        | true =>
          rcases (hset j).1 hv with h1 | h1
          · rw [hhi j hj] at h1; cases h1
          · omega

/-- A region that draws its order: its first k operations are calm, the rest come behind them all. -/
theorem AW.regionD (htt : TOK P tt) (hett : ETOK P tt et) (hm : P.follows .mixedOrders = true) {id : Nat} (k : Nat) (hk : k ≤ ops.size) (hok : orderOk ops = true) (ht : tailOk ops k = true) {s : St} {Q : Exit → St → Prop}
    (h : runD P tt et ops (ops.toList.take k) (killC ops s) fun s' => aops P tt et ops (ops.toList.drop k) s' (Q .normal)) : AW P (.region id ops true) s Q := by
  intro base w0 F0 a w hr
  have hO := orderOk_spec hok
  refine wp_region_any hm ?_
  obtain ⟨tr, s', htr, hK⟩ := runD_trace _ _ _ h
  have htail : ∀ i o, ops[i]? = some o → k ≤ i → ∀ S, Closed ops S → S i → ∀ j, j < i → S j := by
    intro i o ho hki S hS hSi j hj
    unfold tailOk at ht
    simp only [List.all_eq_true, List.mem_range, Bool.or_eq_true, decide_eq_true_eq] at ht
    have := ht i (by simpa using (Array.getElem?_eq_some_iff.1 ho).1)
    rcases this with h1 | h1
    · omega
    · exact closGo_spec hS ops.toList [] rfl (by simp) i j (by simpa using h1 j hj) hSi
  have hr2 := Weak.kill s (creates ops) _ _ _ _ _ hr
  obtain ⟨ι, hc, hf⟩ := hr2
  have hs0 : ∀ (j : Nat) (o : Oper) (d : Nat), ops[j]? = some o → makes o = true → o.dst = some d → lk (killC ops s).ob d = none := by
    intro j o d hj hm hd
    unfold killC St.kill
    rw [St.lk_sub, if_pos]
    unfold creates
    rw [List.any_eq_true]
    exact ⟨o, by rw [← Array.getElem?_toList] at hj; exact List.mem_of_getElem? hj, by simp [hm, hd]⟩
  have hfresh : ∀ (j : Nat) (o : Oper) (d : Nat), ops[j]? = some o → makes o = true → o.dst = some d → ι d = none := by
    intro j o d hj hm hd
    cases hi : ι d with
    | none => rfl
    | some b =>
      obtain ⟨oo, h1, _⟩ := hc.obs d b hi
      have := hs0 j o d hj hm hd
      unfold killC at this
      rw [this] at h1
      cases h1
  obtain ⟨t1, t2, t3, t4, t5, t6, t7, t8⟩ := htr.at
  have hrep : ∀ j, (Array.replicate ops.size false).getD j false = false := by
    intro j
    rw [Array.getD_eq_getD_getElem?, Array.getElem?_replicate]
    split <;> rfl
  refine wpAny_head (base := base) (w0 := w0) (F0 := F0) htt hett hO (fun s a w h hr => ⟨s, h, hr⟩) hk htail htr hs0 hK k ops.size _ _ _ ι (killC ops s).get ?_ (by omega) (by simp) (fun j _ => hrep j) ?_
  · have : (List.range k).countP (fun j => !(Array.replicate ops.size false).getD j false) = (List.range k).countP fun _ => true := List.countP_congr fun j _ => by rw [hrep]; simp
    rw [this]
    simp
  · refine ⟨?_, hf, fun j o d x oo _ hS => ?_, fun j o d hj _ hm hd => hfresh j o d hj hm hd, fun j o d x ob _ hS => ?_, fun t _ => rfl, fun i o e _ hS => ?_⟩
    · -- what is there from the beginning stays
      have hd := hc.drew
      refine { hd with obs := fun i b hi => ?_ }
      obtain ⟨oo, h1, h2⟩ := hd.obs i b hi
      refine ⟨oo, t7 i oo h1 (fun j o' x' o2 hj htj hdj => ?_), h2⟩
      have hj2 : ops[j]? = some o' := by
        rw [List.getElem?_take] at hj
        split at hj
        · rwa [Array.getElem?_toList] at hj
        · cases hj
      obtain ⟨x3, ob3, sk3, q1, _, _, q4, _⟩ := t3 j o' hj
      rw [q1] at htj
      simp only [Option.some.injEq, Prod.mk.injEq] at htj
      obtain ⟨rfl, rfl⟩ := htj
      have hm : makes o' = true := by
        unfold calmG at q4
        cases hg : o'.guard with
        | none => rw [hg] at q4; exact calm_makes q4
        | some q =>
          obtain ⟨jj, want⟩ := q
          rw [hg] at q4
          obtain ⟨d2, b2, _, _, r3, r4⟩ := q4
          by_cases hb : b2 = want
          · exact calm_makes (r3 hb)
          · exact absurd (r4 hb).2 (by simp)
      rw [hfresh j o' i hj2 hm hdj] at hi
      cases hi
    · rw [hrep] at hS; cases hS
    · rw [hrep] at hS; cases hS
    · rw [hrep] at hS; cases hS
end
end Go.Proofs.Ab
