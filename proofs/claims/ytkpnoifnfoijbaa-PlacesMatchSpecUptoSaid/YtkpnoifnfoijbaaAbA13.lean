/- A part of the proof of the law: it holds for all states of the abstract kind told in the first of these texts; no condition besides those its statements name. -/
import Derived.Test.YtkpnoifnfoijbaaAbA12
import Derived.Laws.AppendOwn
namespace Go.Proofs.Ab
open Go Go.RowKit
set_option linter.unusedVariables false
set_option linter.unusedSimpArgs false

/-! ### Stores -/
theorem setCell_heap {w : World} {b o : Nat} {v : Value} {c : Array Value} {T : TypeId} {fz : Nat × Nat} (h : w.heap[b]? = some (.cells c T fz)) :
    (w.setCell ⟨b, o, none⟩ v).heap[b]? = some (.cells (c.setIfInBounds o v) T fz) := by
  simp [World.setCell, Array.getElem?_modify, h]
theorem setCells_heap : ∀ (vs : List Value) (w : World) (b o : Nat) (c : Array Value) (T : TypeId) (fz : Nat × Nat), w.heap[b]? = some (.cells c T fz) → o + vs.length ≤ c.size →
    ∃ c', (w.setCells b o vs).heap[b]? = some (.cells c' T fz) ∧ c'.toList = c.toList.take o ++ (vs ++ c.toList.drop (o + vs.length)) ∧
      (∀ k, k ≠ b → (w.setCells b o vs).heap[k]? = w.heap[k]?) ∧ (w.setCells b o vs).os = w.os ∧ (w.setCells b o vs).tape = w.tape ∧ (w.setCells b o vs).output = w.output ∧ (w.setCells b o vs).heap.size = w.heap.size := by
  intro vs
  induction vs with
  | nil => intro w b o c T fz h hl; exact ⟨c, h, by simp, fun _ _ => rfl, rfl, rfl, rfl, rfl⟩
  | cons v r ih =>
    intro w b o c T fz h hl
    simp only [List.length_cons] at hl
    obtain ⟨c', h1, h2, h3, h4, h5, h6, h7⟩ := ih (w.setCell ⟨b, o, none⟩ v) b (o + 1) _ T fz (setCell_heap h) (by simp; omega)
    refine ⟨c', h1, ?_, fun k hk => (h3 k hk).trans (Below.heap_setCell _ _ _ _ hk), h4, h5, h6, by rw [World.setCells, h7]; simp [World.setCell]⟩
    rw [h2]
    have hk : o < c.toList.length := by simp; omega
    simp only [Array.toList_setIfInBounds]
    rw [List.take_set, List.take_add_one, List.getElem?_eq_getElem hk, List.drop_set_of_lt (by omega)]
    have e0 : (c.toList.take o).length = o := by rw [List.length_take]; omega
    have e1 : ((c.toList.take o ++ [c.toList[o]]).set o v) = c.toList.take o ++ [v] := by
      rw [List.set_append_right _ _ (by omega), e0, Nat.sub_self]
      rfl
    simp only [Option.toList_some]
    rw [e1]
    simp [List.append_assoc, Nat.add_assoc, Nat.add_comm 1]
theorem run_storeAt_gen {P : Program} {w : World} {t : TypeId} {i : TI} (ht : Tok P t i) {b o : Nat} {c : Array Value} {T : TypeId} (hb : w.heap[b]? = some (.cells c T (0, 0))) {v : Value} {vs : List Value} (hv : v.cells = vs.toArray)
    (hs : vs.length = i.size) (ho : o + vs.length ≤ c.size) (h1 : ∀ u ∈ vs, u.oneCell' = true) :
    (Instr.storeAt t (.pointer (some ⟨b, o, none⟩)) v).run P w = .ok () (w.setCells b o vs) := by
  have hst := run_storeCells_cells (P := P) b o vs 0 w (by
    intro j hj
    rw [cell_of hb, Array.getElem?_eq_getElem (by omega)]
    rfl) (by
    intro j hj
    simp [World.frozen?, hb]) h1
  simp only [Nat.add_zero] at hst
  simp only [Instr.storeAt, Instr.sureAddr, Sem.run_bind, Sem.run_pure, Result.andThen_ok, storeVar, run_sizeOf_tok ht, hv]
  simp [hs, hst]

def AV.one : AV → Bool
  | .un => false
  | .ag _ => false
  | .tp _ => false
  | .d (.v x) => x.oneCell'
  | _ => true
section
variable {P : Program} {n base : Nat} {w0 : World} {F0 : Nat → Nat → Prop} {ι : Nat → Option Nat} {full : Nat → Option Ob} {ev : Nat → AV} {a : Act} {w w' : World}
theorem AV.one_sound {x : AV} {v : Value} (h : x.one = true) (hx : RepA ι (FF F0 ι) base w x v) : v.oneCell' = true := by
  cases x with
  | un => cases h
  | ag _ => cases h
  | tp _ => cases h
  | d y =>
    cases y with
    | v z => obtain rfl := hx; exact h
    | sl sz es => obtain ⟨A, cap, b, o, rfl, _⟩ := hx; rfl
    | rp cs => obtain ⟨b, o, rfl, _⟩ := hx; rfl
  | bs sz es => obtain ⟨A, cap, b, o, rfl, _⟩ := hx; rfl
  | cp sz es => obtain ⟨A, b, o, rfl, _⟩ := hx; rfl
  | bp cs => obtain ⟨b, o, rfl, _⟩ := hx; rfl
  | pt id off => obtain ⟨b, _, rfl⟩ := hx; rfl
  | pe id sz k off => obtain ⟨b, _, rfl⟩ := hx; rfl
  | ms id sz off len => rcases hx with ⟨b, cap, _, rfl, _⟩ | ⟨_, A, rfl⟩ <;> rfl
  | cl f caps => obtain ⟨vs, rfl, _⟩ := hx; rfl
theorem RepL.ones {cs : List AV} {vs : List Value} (h : RepL ι (FF F0 ι) base w cs vs) (h1 : cs.all AV.one = true) : ∀ u ∈ vs, u.oneCell' = true := by
  induction cs generalizing vs with
  | nil => rw [h]; simp
  | cons x r ih =>
    obtain ⟨y, ys, rfl, h2, h3⟩ := h
    simp only [List.all_cons, Bool.and_eq_true] at h1
    intro u hu
    rcases List.mem_cons.1 hu with rfl | hu
    · exact AV.one_sound h1.1 h2
    · exact ih h3 h1.2 u hu
/-- One block of the call's own is written. -/
theorem Step.write (h : Core n base w0 F0 ι full ev a w) {id b : Nat} (hb : ι id = some b) {c c' : Array Value} {T : TypeId} (h1 : w.heap[b]? = some (.cells c T (0, 0))) (h2 : w'.heap[b]? = some (.cells c' T (0, 0))) (hs : c'.size = c.size)
    (ho : ∀ k, k ≠ b → w'.heap[k]? = w.heap[k]?) : Step ι (FF F0 ι) base w ι (FF F0 ι) base w' where
  prot b' o x hp := by
    have : b' ≠ b := by rintro rfl; exact hp.2 (.inr ⟨id, hb⟩)
    exact ⟨(cell_heap (ho b' this) o).trans hp.1, hp.2⟩
  rdb b' o x hp := by
    have : b' ≠ b := by
      rintro rfl
      rcases hp.2 with h3 | h3
      · exact h3 (.inr ⟨id, hb⟩)
      · have := (h.low _ _ hb).1; omega
    exact ⟨(cell_heap (ho b' this) o).trans hp.1, hp.2⟩
  ids _ _ h := h
  room i b' m _ hr := by
    by_cases e : b' = b
    · subst e
      obtain ⟨c2, T2, e1, e2⟩ := hr
      rw [h1] at e1
      injection e1 with e1
      injection e1 with e1 e3
      subst e1
      exact ⟨c', T, h2, by rw [hs]; exact e2⟩
    · obtain ⟨c2, T2, e1, e2⟩ := hr
      exact ⟨c2, T2, (ho b' e).trans e1, e2⟩
theorem Core.write (h : Core n base w0 F0 ι full ev a w) {id b : Nat} (hb : ι id = some b) {c c' : Array Value} {T : TypeId} (h1 : w.heap[b]? = some (.cells c T (0, 0))) (h2 : w'.heap[b]? = some (.cells c' T (0, 0))) (hs : c'.size = c.size)
    (ho : ∀ k, k ≠ b → w'.heap[k]? = w.heap[k]?) (hos : w'.os = w.os) (htp : w'.tape = w.tape) (hou : w'.output = w.output) (hsz : w'.heap.size = w.heap.size) {full' : Nat → Option Ob} {o : Ob} (hf : ∀ j, j ≠ id → full' j = full j) (hfi : full' id = some o)
    (hok : ObOk ι (FF F0 ι) base w' b o) : Core n base w0 F0 ι full' ev a w' where
  below := h.below.trans ⟨hos, htp, hou, by omega, fun k hk => ho k (by have := (h.low _ _ hb).1; omega)⟩
  lowF := h.lowF
  size := by have := h.size; omega
  inj := h.inj
  low i b' hi := by have := h.low i b' hi; omega
  obs i b' hi := by
    by_cases e : i = id
    · subst e
      rw [hb] at hi
      injection hi with hi
      subst hi
      exact ⟨o, hfi, hok⟩
    · obtain ⟨o', h3, h4⟩ := h.obs i b' hi
      refine ⟨o', (hf i e).trans h3, h4.mono (Step.write h hb h1 h2 hs ho) (ho b' ?_)⟩
      rintro rfl
      exact e (h.inj _ _ _ hi hb)
  tms t := RepA.mono (Step.write h hb h1 h2 hs ho) _ _ (h.tms t)
  dfs := h.dfs
  nt := h.nt
end

/-- A store. -/
def storeA (tt : TypeId → Option TI) (s : St) (t : TypeId) (addr v : AV) (K : St → Prop) : Prop :=
  ∃ i cs, tt t = some i ∧ v.cells = some cs ∧ cs.all AV.one = true ∧ cs.length = i.size ∧
    match addr with
    | .pt id off => ∃ vs, lk s.ob id = some (.var vs) ∧ off + cs.length ≤ vs.length ∧ K { s with ob := ins id (.var (setR vs off cs)) s.ob }
    | .pe id sz k off => ∃ es e ds, lk s.ob id = some (.arr sz es) ∧ es[k]? = some e ∧ toDs cs = some ds ∧ off + ds.length ≤ sz ∧ K { s with ob := ins id (.arr sz (es.set k (e.take off ++ (ds ++ e.drop (off + ds.length))))) s.ob }
    | _ => False
section
variable {P : Program} {base : Nat} {w0 : World} {F0 : Nat → Nat → Prop} {a : Act} {w : World} {s : St}
theorem storeA_sound {tt : TypeId → Option TI} (htt : TOK P tt) (hr : RS base w0 F0 s a w) {t : TypeId} {x y : Operand} {K : St → Prop} (h : storeA tt s t (evO s.get x) (evO s.get y) K) :
    ∃ s' w', K s' ∧ (Instr.storeAt t (a.eval x) (a.eval y)).run P w = .ok () w' ∧ RS base w0 F0 s' a w' := by
  obtain ⟨ι, hc, hfull⟩ := hr
  obtain ⟨i, cs, h1, h2, h3, h4, h5⟩ := h
  obtain ⟨us, e1, e2, _⟩ := AV.cells_sound (hc.evO y) h2
  have hone := RepL.ones e2 h3
  have hlen := e2.length
  have hx := hc.evO x
  revert h5 hx
  generalize evO s.get x = ax
  intro h5 hx
  cases ax with
  | pt id off =>
    obtain ⟨vs, q1, q2, hK⟩ := h5
    obtain ⟨b, hb, hxe⟩ := hx
    obtain ⟨o, ho, hob⟩ := hc.obs id b hb
    rw [q1] at ho
    injection ho with ho
    subst ho
    obtain ⟨c, T, hcb, hl⟩ := hob
    have hcl := hl.length
    simp only [Array.length_toList] at hcl
    obtain ⟨c', r1, r2, r3, r4, r5, r6, r7⟩ := setCells_heap us w b off c T (0, 0) hcb (by omega)
    have hcs : c'.size = c.size := by
      have := congrArg List.length r2
      simp at this
      omega
    refine ⟨_, _, hK, by rw [hxe]; exact run_storeAt_gen (htt _ _ h1) hcb e1 (by omega) (by omega) hone, ι, ?_, ?_⟩
    · have hst := Step.write hc hb hcb r1 hcs r3
      refine Core.write hc hb hcb r1 hcs r3 r4 r5 r6 r7 (o := .var (setR vs off cs)) (fun j hj => ?_) ?_ ⟨c', T, r1, ?_⟩
      · show lk (ins id _ s.ob) j = _
        rw [lk_ins, if_neg (fun e => hj e.symm)]
      · show lk (ins id _ s.ob) id = _
        rw [lk_ins, if_pos rfl]
      · rw [r2]
        unfold setR
        rw [← hlen]
        exact ((RepL.mono hst _ _ hl).take _).append ((RepL.mono hst _ _ e2).append ((RepL.mono hst _ _ hl).drop _))
    · intro j o' hj
      by_cases e : j = id
      · subst e; left; rw [hb]; rfl
      · refine hfull j o' ?_
        have hj : lk (ins id _ s.ob) j = some o' := hj
        rw [lk_ins, if_neg (fun e' => e e'.symm)] at hj
        exact hj
  | pe id sz k off =>
    obtain ⟨es, e, ds, q1, q2, q3, q4, hK⟩ := h5
    obtain ⟨b, hb, hxe⟩ := hx
    obtain ⟨o, ho, hob⟩ := hc.obs id b hb
    rw [q1] at ho
    injection ho with ho
    subst ho
    obtain ⟨c, T, hcb, hl, hcl⟩ := hob
    obtain ⟨hel, _⟩ := hl.at k e q2
    have hkl := (List.getElem?_eq_some_iff.1 q2).1
    have hdl : ds.length = cs.length := (toDs_sound (pr := fun _ _ => True) q3 e2 0 (fun _ _ _ => trivial)).1
    have hbound : k * sz + off + us.length ≤ c.size := by
      have : (k + 1) * sz ≤ es.length * sz := Nat.mul_le_mul_right _ hkl
      rw [Nat.add_mul, Nat.one_mul] at this
      omega
    obtain ⟨c', r1, r2, r3, r4, r5, r6, r7⟩ := setCells_heap us w b (k * sz + off) c T (0, 0) hcb hbound
    have hcs : c'.size = c.size := by
      have := congrArg List.length r2
      simp at this
      omega
    have hout : ∀ j, (j < k * sz + off ∨ k * sz + off + us.length ≤ j) → c'[j]? = c[j]? := by
      intro j hj
      rw [← Array.getElem?_toList, r2, ← Array.getElem?_toList (xs := c)]
      have hl1 : (c.toList.take (k * sz + off)).length = k * sz + off := by simp; omega
      rcases hj with hj | hj
      · rw [List.getElem?_append_left (by omega), List.getElem?_take, if_pos hj]
      · rw [List.getElem?_append_right (by omega), List.getElem?_append_right (by omega), List.getElem?_drop, hl1]
        congr 1
        omega
    have hin : ∀ j u, us[j]? = some u → c'[k * sz + off + j]? = some u := by
      intro j u hj
      have hjl := (List.getElem?_eq_some_iff.1 hj).1
      have hl1 : (c.toList.take (k * sz + off)).length = k * sz + off := by simp; omega
      rw [← Array.getElem?_toList, r2, List.getElem?_append_right (by omega), hl1, Nat.add_sub_cancel_left, List.getElem?_append_left hjl, hj]
    refine ⟨_, _, hK, by rw [hxe]; exact run_storeAt_gen (htt _ _ h1) hcb e1 (by omega) hbound hone, ι, ?_, ?_⟩
    · have hst := Step.write hc hb hcb r1 hcs r3
      refine Core.write hc hb hcb r1 hcs r3 r4 r5 r6 r7 (o := .arr sz (es.set k (e.take off ++ (ds ++ e.drop (off + ds.length))))) (fun j hj => ?_) ?_ ⟨c', T, r1, ?_, by simp; omega⟩
      · show lk (ins id _ s.ob) j = _
        rw [lk_ins, if_neg (fun e => hj e.symm)]
      · show lk (ins id _ s.ob) id = _
        rw [lk_ins, if_pos rfl]
      · -- the elements one by one
        have cs_mono : ∀ (l : List D) (o : Nat), (∀ j, o ≤ j → j < o + l.length → c'[j]? = c[j]?) → RepCs (FF F0 ι) w (fun o y => c[o]? = some y) l o → RepCs (FF F0 ι) (w.setCells b (k * sz + off) us) (fun o y => c'[o]? = some y) l o := by
          intro l
          induction l with
          | nil => intro o _ _; trivial
          | cons x r ih =>
            intro o hj hr
            obtain ⟨⟨g0, y, g1, g2⟩, g3⟩ := hr
            exact ⟨⟨g0, y, (hj o (Nat.le_refl _) (by simp)).trans g1, RepD.mono hst.prot _ _ g2⟩, ih (o + 1) (fun j h1 h2 => hj j (by omega) (by simp; omega)) g3⟩
        have es_mono : ∀ (l : List (List D)) (o : Nat), (∀ j, o ≤ j → j < o + l.length * sz → c'[j]? = c[j]?) → RepEs (FF F0 ι) w (fun o y => c[o]? = some y) sz l o → RepEs (FF F0 ι) (w.setCells b (k * sz + off) us) (fun o y => c'[o]? = some y) sz l o := by
          intro l
          induction l with
          | nil => intro o _ _; trivial
          | cons x r ih =>
            intro o hj hr
            obtain ⟨g1, g2, g3⟩ := hr
            simp only [List.length_cons, Nat.add_mul, Nat.one_mul] at hj
            exact ⟨g1, cs_mono x o (fun j h1 h2 => hj j h1 (by omega)) g2, ih (o + sz) (fun j h1 h2 => hj j (by omega) (by omega)) g3⟩
        have hsplit : es.set k (e.take off ++ (ds ++ e.drop (off + ds.length))) = es.take k ++ ((e.take off ++ (ds ++ e.drop (off + ds.length))) :: es.drop (k + 1)) := by
          rw [List.set_eq_take_append_cons_drop, if_pos hkl]
        have hp := hl.take k
        have hd := hl.drop (k + 1)
        rw [Nat.zero_add] at hd
        have hek := (hl.at k e q2).2
        rw [Nat.zero_add] at hek
        have htk : (es.take k).length = k := by simp; omega
        rw [hsplit]
        refine (es_mono _ 0 (fun j _ h2 => hout j (.inl (by rw [htk] at h2; omega))) hp).append ⟨?_, ?_, ?_⟩
        · simp; omega
        · rw [htk, Nat.zero_add]
          have capp : ∀ (l l' : List D) (o : Nat), RepCs (FF F0 ι) (w.setCells b (k * sz + off) us) (fun o y => c'[o]? = some y) l o → RepCs (FF F0 ι) (w.setCells b (k * sz + off) us) (fun o y => c'[o]? = some y) l' (o + l.length) → RepCs (FF F0 ι) (w.setCells b (k * sz + off) us) (fun o y => c'[o]? = some y) (l ++ l') o := by
            intro l
            induction l with
            | nil => intro l' o _ h; simpa using h
            | cons x r ih => intro l' o h h'; exact ⟨h.1, ih l' (o + 1) h.2 (by rw [show o + 1 + r.length = o + (x :: r).length by simp; omega]; exact h')⟩
          have ht1 : (e.take off).length = off := by simp; omega
          refine capp _ _ _ (cs_mono _ _ (fun j h1 h2 => hout j (.inl (by rw [ht1] at h2; omega))) (hek.take off)) ?_
          rw [ht1]
          refine capp _ _ _ ?_ ?_
          · have := (toDs_sound (pr := fun o y => c'[o]? = some y) q3 e2 (k * sz + off) hin).2
            exact RepCs.mono hst.prot (fun _ _ h => h) _ _ this
          · have h8 := hek.drop (off + ds.length)
            rw [← Nat.add_assoc] at h8
            exact cs_mono _ _ (fun j h1 h2 => hout j (.inr (by omega))) h8
        · rw [htk, Nat.zero_add]
          rw [Nat.add_mul, Nat.one_mul] at hd
          exact es_mono _ _ (fun j h1 h2 => hout j (.inr (by omega))) hd
    · intro j o' hj
      by_cases e : j = id
      · subst e; left; rw [hb]; rfl
      · refine hfull j o' ?_
        have hj : lk (ins id _ s.ob) j = some o' := hj
        rw [lk_ins, if_neg (fun e' => e e'.symm)] at hj
        exact hj
  | _ => exact h5.elim
end
end Go.Proofs.Ab
