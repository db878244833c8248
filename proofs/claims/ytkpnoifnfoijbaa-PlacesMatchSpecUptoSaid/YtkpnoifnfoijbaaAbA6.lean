/- A part of the proof of the law: it holds for all states of the abstract kind told in the first of these texts; no condition besides those its statements name. -/
import Derived.Test.YtkpnoifnfoijbaaAbA5
namespace Go.Proofs.Ab
open Go Go.RowKit
set_option linter.unusedVariables false
set_option linter.unusedSimpArgs false

section
variable {P : Program} {n base : Nat} {w0 : World} {F0 : Nat → Nat → Prop} {ι : Nat → Option Nat} {full : Nat → Option Ob} {ev : Nat → AV} {a : Act} {w : World}
theorem run_sliceAt_tok {t e : TypeId} {ei : TI} (hu : P.underlying t = some (.slice e)) (he : Tok P e ei) {A : Option Addr} {len cap l h m : Nat} {vlo vhi vmx : Option Value}
    (hb : (Instr.sliceBounds true len cap vlo vhi vmx).run P w = .ok (l, h, m) w) :
    (Instr.sliceAt t (.slice A len cap) vlo vhi vmx).run P w = .ok (.slice (if m = l then A else A.map (·.add (l * ei.size))) (h - l) (m - l)) w := by
  simp [Instr.sliceAt, run_underlying hu, Instr.slice, hb, run_sizeOf_tok he]
theorem cut_es {F : Nat → Nat → Prop} {pr : Nat → Value → Prop} {es : List (List D)} {sz o l h : Nat} (hl : l ≤ h) (hh : h ≤ es.length) (hr : RepEs F w pr sz es o) :
    ((es.take h).drop l).length = h - l ∧ RepEs F w pr sz ((es.take h).drop l) (o + l * sz) :=
  ⟨by simp; omega, (hr.take h).drop l⟩
theorem cutA_sound {t : TypeId} {i : TI} (ht : Tok P t i) {tt : TypeId → Option TI} (htt : TOK P tt) {x : AV} {y : Value} {lo hi : Option AV} {fl : Bool} {vlo vhi vmx : Option Value} {K : AV → Prop}
    (hi' : CutOk tt i x)
    (hlo : ∀ x, lo = some x → ∃ y, vlo = some y ∧ RepA ι (FF F0 ι) base w x y) (hlo' : lo = none → vlo = none)
    (hhi : ∀ x, hi = some x → ∃ y, vhi = some y ∧ RepA ι (FF F0 ι) base w x y) (hhi' : hi = none → vhi = none)
    (hmx : (fl = false ∧ vmx = none) ∨ (fl = true ∧ vmx = vhi ∧ vhi ≠ none))
    (hx : RepA ι (FF F0 ι) base w x y) (h : cutA x lo hi fl K) : ∃ v, K v ∧ ∃ u, (Instr.sliceAt t y vlo vhi vmx).run P w = .ok u w ∧ RepA ι (FF F0 ι) base w v u := by
  have hmx' : vmx = none ∨ (vmx = vhi ∧ vhi ≠ none) := by rcases hmx with ⟨_, h⟩ | ⟨_, h⟩; exact .inl h; exact .inr h
  cases i with
  | sl e =>
    obtain ⟨⟨ei, he, hsz⟩, hns⟩ := hi'
    have hu : P.underlying t = some (.slice e) := ht.2
    have het := htt _ _ he
    -- a list that is read
    have lists : ∀ (pr : Nat → Nat → Value → Prop) (es : List (List D)) (A : Option Addr) (cap b o : Nat) (K' : Nat → Nat → Prop), y = .slice A es.length cap → es.length ≤ cap → (es ≠ [] → A = some ⟨b, o, none⟩) → RepEs (FF F0 ι) w (pr b) ei.size es o →
        cutL es.length lo hi K' →
        ∃ l h A' cap', K' l h ∧ l ≤ h ∧ h ≤ es.length ∧ (Instr.sliceAt t y vlo vhi vmx).run P w = .ok (.slice A' (h - l) cap') w ∧ h - l ≤ cap' ∧ (fl = true → cap' = h - l) ∧
          ((es.take h).drop l ≠ [] → A' = some ⟨b, o + l * ei.size, none⟩) ∧ RepEs (FF F0 ι) w (pr b) ei.size ((es.take h).drop l) (o + l * ei.size) := by
      intro pr es A cap b o K' hy h1 h2 h3 hK
      obtain ⟨l, h', m, hb, q1, q2, q3, q4, q5, q6, q7⟩ := run_bounds (isSlice := true) (P := P) (cap := cap) (mx := vmx) h1 hlo hlo' hhi hhi' hmx' hK
      subst hy
      obtain ⟨c1, c2⟩ := cut_es q1 q2 h3
      refine ⟨l, h', _, _, q7, q1, q2, run_sliceAt_tok hu het hb, by omega, ?_, ?_, c2⟩
      · intro hf
        rcases hmx with ⟨h, _⟩ | ⟨_, h8, h9⟩
        · rw [hf] at h; cases h
        · rw [q5 (by rw [h8]; exact h9)]
      · intro hne
        have hlt : l < h' := by
          rcases Nat.lt_or_ge l h' with h | h
          · exact h
          · exact absurd (List.eq_nil_of_length_eq_zero (by rw [c1]; omega)) hne
        rw [if_neg (by omega), h2 (by rintro rfl; simp at q2; omega)]
        simp [add_plain]
    cases x with
    | ms id sz off len =>
      obtain rfl : sz = ei.size := hsz
      rcases hx with ⟨b, cap, h1, rfl, h2, h3⟩ | ⟨rfl, A, rfl⟩
      · obtain ⟨l, h', m, hb, q1, q2, q3, q4, q5, q6, q7⟩ := run_bounds (isSlice := true) (P := P) (cap := cap) (mx := vmx) h2 hlo hlo' hhi hhi' hmx' h
        refine ⟨_, q7, _, run_sliceAt_tok hu het hb, ?_⟩
        by_cases e : m = l
        · refine .inr ⟨by omega, ?_⟩
          rw [if_pos e]
          exact ⟨_, by rw [show h' - l = 0 by omega, show m - l = 0 by omega]⟩
        · rw [if_neg e]
          refine .inl ⟨b, m - l, h1, by simp [add_plain, Nat.add_mul], by omega, ?_⟩
          obtain ⟨c, T, hc, hr⟩ := h3
          refine ⟨c, T, hc, Nat.le_trans (Nat.mul_le_mul_right _ ?_) hr⟩
          omega
      · obtain ⟨l, h', m, hb, q1, q2, q3, q4, q5, q6, q7⟩ := run_bounds (isSlice := true) (P := P) (cap := 0) (len := 0) (mx := vmx) (Nat.le_refl _) hlo hlo' hhi hhi' hmx' h
        refine ⟨_, q7, _, run_sliceAt_tok hu het hb, ?_⟩
        refine .inr ⟨by omega, ?_⟩
        exact ⟨_, by rw [show h' - l = 0 by omega, show m - l = 0 by omega]⟩
    | bs sz es =>
      obtain rfl : sz = ei.size := hsz
      obtain ⟨A, cap, b, o, hy, h1, h2, h3⟩ := hx
      obtain ⟨l, h', A', cap', hK, q1, q2, q3, q4, q5, q6, q7⟩ := lists (Rdb (FF F0 ι) base w) es A cap b o _ hy h1 h2 h3 h
      have hlen := (cut_es (F := FF F0 ι) (w := w) (pr := Rdb (FF F0 ι) base w b) (o := o) q1 q2 h3).1
      refine ⟨_, hK, _, q3, ?_⟩
      cases fl with
      | true => exact ⟨A', b, _, by rw [hlen, q5 rfl], q6, q7⟩
      | false => exact ⟨A', cap', b, _, by rw [hlen], by rw [hlen]; exact q4, q6, q7⟩
    | cp sz es =>
      obtain rfl : sz = ei.size := hsz
      obtain ⟨A, b, o, hy, h2, h3⟩ := hx
      obtain ⟨l, h', A', cap', hK, q1, q2, q3, q4, q5, q6, q7⟩ := lists (Rdb (FF F0 ι) base w) es A es.length b o _ hy (Nat.le_refl _) h2 h3 h
      have hlen := (cut_es (F := FF F0 ι) (w := w) (pr := Rdb (FF F0 ι) base w b) (o := o) q1 q2 h3).1
      refine ⟨_, hK, _, q3, ?_⟩
      cases fl with
      | true => exact ⟨A', b, _, by rw [hlen, q5 rfl], q6, q7⟩
      | false => exact ⟨A', cap', b, _, by rw [hlen], by rw [hlen]; exact q4, q6, q7⟩
    | d x =>
      cases x with
      | sl sz es =>
        obtain rfl : sz = ei.size := hsz
        obtain ⟨A, cap, b, o, hy, h1, h2, h3⟩ := hx
        obtain ⟨l, h', A', cap', hK, q1, q2, q3, q4, q5, q6, q7⟩ := lists (Prot (FF F0 ι) w) es A cap b o _ hy h1 h2 h3 h
        have hlen := (cut_es (F := FF F0 ι) (w := w) (pr := Prot (FF F0 ι) w b) (o := o) q1 q2 h3).1
        refine ⟨_, hK, _, q3, ?_⟩
        cases fl with
        | true => exact ⟨A', b, _, by rw [hlen, q5 rfl], q6, RepEs.mono (fun _ _ _ h => h) (fun o y hy => ⟨hy.1, .inl hy.2⟩) _ _ _ q7⟩
        | false => exact ⟨A', cap', b, _, by rw [hlen], by rw [hlen]; exact q4, q6, q7⟩
      | rp cs => exact h.elim
      | v z =>
        simp only [cutA] at h
        unfold cutV at h
        split at h
        · exact (hns _ rfl).elim
        · obtain rfl := hx
          obtain ⟨l, h', m, hb, q1, q2, q3, q4, q5, q6, q7⟩ := run_bounds (isSlice := true) (P := P) (cap := 0) (len := 0) (mx := vmx) (Nat.le_refl _) hlo hlo' hhi hhi' hmx' h
          refine ⟨_, q7, _, run_sliceAt_tok hu het hb, ?_⟩
          show _ = _
          rw [show h' - l = 0 by omega, show m - l = 0 by omega]
          split <;> rfl
        · exact h.elim
    | _ => exact h.elim
  | str =>
    obtain ⟨s, rfl⟩ := hi'
    obtain rfl := hx
    simp only [cutA, cutV] at h
    obtain ⟨hf, h⟩ := h
    have hm : vmx = none := by rcases hmx with ⟨_, h⟩ | ⟨h, _⟩; exact h; rw [hf] at h; cases h
    subst hm
    obtain ⟨l, h', m, hb, q1, q2, q3, q4, q5, q6, q7⟩ := run_bounds (isSlice := false) (P := P) (cap := s.size) (mx := none) (Nat.le_refl _) hlo hlo' hhi hhi' (.inl rfl) h
    refine ⟨_, q7, .string (s.extract l h'), ?_, rfl⟩
    have hu : P.underlying t = some .string := ht.2
    simp [Instr.sliceAt, run_underlying hu, Instr.slice, hb]
  | st n b fs z => exact hi'.elim
  | sc b z => exact hi'.elim
  | ik k b => exact hi'.elim
  | bl => exact hi'.elim
end
end Go.Proofs.Ab
