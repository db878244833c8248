/- A part of the proof of the law: it holds for all states of the abstract kind told in the first of these texts; no condition besides those its statements name. -/
import Derived.Test.YtkpnoifnfoijbaaAbA14
import Derived.Deep.LoopGhost
import Derived.Tactics
namespace Go.Proofs.Ab
open Go Go.RowKit
set_option linter.unusedVariables false
set_option linter.unusedSimpArgs false

/-! ### One operation after the other -/
def St.fin (s : St) (dst : Option Nat) (x : AV) (ob : Option Ob) : St :=
  match ob, dst with
  | some o, some d => ⟨s.nt, ins d x s.tm, (d, o) :: s.ob⟩
  | _, _ => s.put dst x
def St.ready (s : St) (o : Oper) : St := if makes o then (match o.dst with | some d => s.kill fun i => i == d | none => s) else s
def dstOk (o : Oper) (s : St) : Prop := match o.dst with | some d => d < s.nt | none => True
def stepA (P : Program) (tt : TypeId → Option TI) (et : TypeId → Bool) (o : Oper) (s : St) (K : St → Prop) : Prop :=
  dstOk o s ∧
  match o.op with
  | .store t x y => storeA tt s t (evO s.get x) (evO s.get y) fun s' => dstOk o s' ∧ K (s'.put o.dst .un)
  | .call ⟨.builtin .append, as, ts⟩ => ∃ x y t t' d, as = #[x, y] ∧ ts = #[t, t'] ∧ o.dst = some d ∧ appA tt s t t' d (evO s.get x) (evO s.get y) K
  | _ => calm P tt et o (evO (s.ready o).get) (lk (s.ready o).ob) fun x ob => K ((s.ready o).fin o.dst x ob)
def stepG (P : Program) (tt : TypeId → Option TI) (et : TypeId → Bool) (ops : Array Oper) (o : Oper) (s : St) (K : St → Prop) : Prop :=
  match o.guard with
  | none => stepA P tt et o s K
  | some (j, want) => ∃ d b, (ops[j]?).bind (·.dst) = some d ∧ s.get d = .d (.v (.bool b)) ∧ dstOk o s ∧ (b = want → stepA P tt et o s K) ∧ (b ≠ want → K (s.put o.dst .un))
def aops (P : Program) (tt : TypeId → Option TI) (et : TypeId → Bool) (ops : Array Oper) : List Oper → St → (St → Prop) → Prop
  | [], s, K => K s
  | o :: r, s, K => stepG P tt et ops o s fun s' => aops P tt et ops r s' K

section
variable {P : Program} {base : Nat} {w0 : World} {F0 : Nat → Nat → Prop} {a : Act} {w : World} {tt : TypeId → Option TI} {et : TypeId → Bool}
theorem RS.put {s : St} (h : RS base w0 F0 s a w) {o : Oper} (hd : dstOk o s) : RS base w0 F0 (s.put o.dst .un) (a.put o.dst undef) w := by
  unfold dstOk at hd
  obtain ⟨ι, hc, hf⟩ := h
  cases hdst : o.dst with
  | none => exact ⟨ι, hc, hf⟩
  | some d =>
    rw [hdst] at hd
    refine ⟨ι, ?_, hf⟩
    have := hc.put (d := d) hd (x := .un) (v := undef) trivial
    have e : (s.put (some d) .un).get = fun t => if t = d then .un else s.get t := by
      funext t
      show ((lk (ins d .un s.tm) t).getD .un) = _
      rw [lk_ins]
      by_cases h : t = d
      · subst h; simp
      · rw [if_neg (fun e => h e.symm), if_neg h]; rfl
    show Core s.nt base w0 F0 ι (lk s.ob) (s.put (some d) .un).get _ w
    rw [e]
    exact this
theorem get_fin (s : St) (d : Nat) (x : AV) (ob : Option Ob) : (s.fin (some d) x ob).get = fun t => if t = d then x else s.get t := by
  funext t
  have : (s.fin (some d) x ob).tm = ins d x s.tm := by unfold St.fin; split <;> simp_all [St.put]
  show ((lk (s.fin (some d) x ob).tm t).getD .un) = _
  rw [this, lk_ins]
  by_cases h : t = d
  · subst h; simp
  · rw [if_neg (fun e => h e.symm), if_neg h]; rfl
theorem RS.after {s : St} {ι : Nat → Option Nat} (hc : Core s.nt base w0 F0 ι (lk s.ob) s.get a w) (hf : ∀ i o, lk s.ob i = some o → (ι i).isSome = true ∨ ∃ sz, o = .arr sz []) {dst : Option Nat} {x : AV} {ob : Option Ob} {a' : Act} {w' : World}
    (hn : ∀ o d, ob = some o → dst = some d → lk s.ob d = none ∧ ι d = none)
    (h : After s.nt base w0 F0 ι (lk s.ob) s.get dst x ob a' w') : RS base w0 F0 (s.fin dst x ob) a' w' := by
  cases ob with
  | none =>
    cases dst with
    | none => exact ⟨ι, h, hf⟩
    | some d =>
      refine ⟨ι, ?_, hf⟩
      have e := get_fin s d x none
      show Core s.nt base w0 F0 ι (lk s.ob) (s.fin (some d) x none).get _ _
      rw [e]
      exact h
  | some oo =>
    obtain ⟨d, b, rfl, hk⟩ := h
    obtain ⟨hl, hi⟩ := hn oo d rfl rfl
    refine ⟨upd ι d b, ?_, ?_⟩
    · have := hk (lk ((d, oo) :: s.ob)) (fun j b' hj => by
        simp only [lk]
        rw [if_neg]
        rintro rfl
        rw [hi] at hj; cases hj) (by simp [lk])
      have e := get_fin s d x (some oo)
      show Core s.nt base w0 F0 _ (lk ((d, oo) :: s.ob)) (s.fin (some d) x (some oo)).get _ _
      rw [e]
      exact this
    · intro i o ho
      have ho : lk ((d, oo) :: s.ob) i = some o := ho
      simp only [lk] at ho
      split at ho
      · rename_i e; subst e; left; simp [upd]
      · rename_i e
        rcases hf i o ho with h1 | h1
        · left; unfold upd; rw [if_neg (fun e' => e e'.symm)]; exact h1
        · exact .inr h1
theorem idxA_F {sz : Nat} {x : AV} {n : Nat} (h : idxA sz x n fun _ => False) : False := by
  revert h; unfold idxA; split <;> intro h <;> first | exact h.2.2 | (obtain ⟨_, e, _, h⟩ := h; exact h) | exact h
theorem strIdxA_F {x : AV} {n : Nat} (h : strIdxA x n fun _ => False) : False := by
  revert h; unfold strIdxA; split <;> intro h <;> first | exact h.2 | exact h
theorem cutA_F {x : AV} {lo hi : Option AV} {fl : Bool} (h : cutA x lo hi fl fun _ => False) : False := by
  have key : ∀ {len : Nat}, (cutL len lo hi fun _ _ => False) → False := fun h => by obtain ⟨_, _, h, _⟩ := cutL_at h; exact h
  cases x with
  | ms id sz off len => exact key h
  | bs sz es => exact key h
  | cp sz es => exact key h
  | d y =>
    cases y with
    | v z =>
      simp only [cutA] at h
      unfold cutV at h
      split at h
      · exact key h.2
      · exact key h
      · exact h
    | sl sz es => exact key h
    | rp cs => exact h
  | _ => exact h
theorem binA_F {op : BinOp} {x y : AV} (h : binA op x y fun _ => False) : False := by
  revert h
  unfold binA
  split
  · rintro ⟨_, h⟩
    cases op <;> first | exact h.2 | (obtain ⟨v, _, h⟩ := h; exact h)
  · intro h
    cases op <;> first | exact h.2 | (obtain ⟨v, _, h⟩ := h; exact h)
  · exact id
theorem eqA_F {t : TypeId} {i : TI} {neq : Bool} {x y : AV} (h : eqA et t i neq x y fun _ => False) : False := by
  revert h
  unfold eqA
  split
  · rintro ⟨p, q, _, _, h⟩; exact h
  · rintro ⟨_, h⟩
    revert h
    unfold nilA
    split <;> intro h <;> first | exact h.2 | exact h
  · rintro ⟨he, cs, ds, xs, ys, h1, h2, h3, h4, h5, h6, h7, h8, hK⟩; exact hK
  · exact id
theorem unA_F {op : UnOp} {x : AV} (h : unA op x fun _ => False) : False := by
  revert h; unfold unA; split <;> exact id
theorem lenA_F {x : AV} (h : lenA x fun _ => False) : False := by
  revert h; unfold lenA; split <;> exact id
theorem calm_makes {o : Oper} {ev : Operand → AV} {full : Nat → Option Ob} {x : AV} {ob : Ob} (h : calm P tt et o ev full fun x' ob' => x' = x ∧ ob' = some ob) : makes o = true := by
  unfold calm at h
  unfold makes
  have e : ∀ v : AV, (v = x ∧ (none : Option Ob) = some ob) = False := fun v => by simp
  cases ho : o.op <;> simp only [ho] at h ⊢
  case move => exact absurd h.2 (by simp)
  case assign => exact absurd h.2 (by simp)
  case pick => obtain ⟨_, _, h⟩ := h; exact absurd h.2 (by simp)
  case load => obtain ⟨_, _, _, _, h⟩ := h; exact absurd h.2 (by simp)
  case fieldAddr => obtain ⟨_, _, _, _, _, _, h⟩ := h; exact absurd h.2 (by simp)
  case field => obtain ⟨_, _, _, _, _, _, _, _, h⟩ := h; exact absurd h.2 (by simp)
  case indexAddr t x ix => obtain ⟨_, _, _, _, _, _, _, _, h⟩ := h; simp only [e] at h; exact (idxA_F h).elim
  case index t x ix => obtain ⟨_, _, _, _, _, h⟩ := h; simp only [e] at h; exact (strIdxA_F h).elim
  case slice t x lo hi mx =>
    obtain ⟨_, _, _, h⟩ := h
    split at h
    · simp only [e] at h; exact (cutA_F h).elim
    · obtain ⟨_, _, _, _, _, _, h⟩ := h; simp only [e] at h; exact (cutA_F h).elim
  case binOp op t x y yt =>
    rcases h with h | ⟨_, _, _, _, h⟩
    · simp only [e] at h; exact (binA_F h).elim
    · simp only [e] at h; exact (eqA_F h).elim
  case unOp => simp only [e] at h; exact (unA_F h).elim
  case convert => obtain ⟨_, _, _, _, _, _, _, _, h⟩ := h; exact absurd h.2 (by simp)
  case build => obtain ⟨_, _, _, _, _, _, _, _, h⟩ := h; exact absurd h.2 (by simp)
  case makeFunc => obtain ⟨_, _, _, h⟩ := h; exact absurd h.2 (by simp)
  case nilCheck => exact absurd h.2.2 (by simp)
  case extract => obtain ⟨_, _, _, _, h⟩ := h; exact absurd h.2 (by simp)
  case call c =>
    split at h
    · obtain ⟨_, _, _, _, _, _, _, _, _, h⟩ := h; exact absurd h.2 (by simp)
    · obtain ⟨_, _, _, _, _, _, _, h⟩ := h; simp only [e] at h; exact (lenA_F h).elim
    · obtain ⟨_, _, _, _, _, _, _, _, _, _, h⟩ := h; exact absurd h.2 (by simp)
    · obtain ⟨_, _, _, _, _, _, _, _, _, _, h⟩ := h; exact absurd h.2 (by simp)
    · exact h.elim
  all_goals first | rfl | exact h.elim
theorem RS.ready {s : St} (h : RS base w0 F0 s a w) (o : Oper) : RS base w0 F0 (s.ready o) a w := by
  unfold St.ready
  split
  · cases o.dst with
    | none => exact h
    | some d => exact Weak.kill s _ _ _ _ _ _ h
  · exact h
theorem calm_step (htt : TOK P tt) (hett : ETOK P tt et) {s : St} (hr : RS base w0 F0 s a w) {o : Oper} {K : St → Prop} (hd : dstOk o s) (h : calm P tt et o (evO (s.ready o).get) (lk (s.ready o).ob) fun x ob => K ((s.ready o).fin o.dst x ob))
    {next : Act → World → Prop} {Q : Exit → Act → World → Prop} (hn : ∀ s' a' w', K s' → RS base w0 F0 s' a' w' → next a' w') : o.wp P a w next Q := by
  have hnt : (s.ready o).nt = s.nt := by
    unfold St.ready
    split
    · cases o.dst <;> rfl
    · rfl
  obtain ⟨ι, hc, hf⟩ := hr.ready o
  have hd' : ∀ d, o.dst = some d → d < (s.ready o).nt := by
    intro d e
    unfold dstOk at hd
    rw [e] at hd
    rw [hnt]; exact hd
  have hkill : makes o = true → ∀ d, o.dst = some d → lk (s.ready o).ob d = none := by
    intro hm d e
    unfold St.ready
    rw [if_pos hm, e]
    show lk (s.sub (fun i => i == d) fun _ => .un).ob d = none
    rw [St.lk_sub]
    simp
  have hι : makes o = true → ∀ d, o.dst = some d → ι d = none := by
    intro hm d e
    cases hi : ι d with
    | none => rfl
    | some b =>
      obtain ⟨oo, h1, _⟩ := hc.obs d b hi
      rw [hkill hm d e] at h1
      cases h1
  obtain ⟨x, ob, hK, hcalm, hwp⟩ := calm_sound htt hett hc hd' hι h
  refine hwp next Q fun a' w' haf => hn _ a' w' hK (RS.after hc hf ?_ haf)
  rintro oo d rfl hdst
  exact ⟨hkill (calm_makes hcalm) d hdst, hι (calm_makes hcalm) d hdst⟩
theorem stepA_sound (htt : TOK P tt) (hett : ETOK P tt et) {s : St} (hr : RS base w0 F0 s a w) {o : Oper} {K : St → Prop} (h : stepA P tt et o s K)
    {next : Act → World → Prop} {Q : Exit → Act → World → Prop} (hn : ∀ s' a' w', K s' → RS base w0 F0 s' a' w' → next a' w') : o.wp P a w next Q := by
  obtain ⟨hd, h⟩ := h
  split at h
  · rename_i t x y ho
    obtain ⟨s', w', ⟨hd', hK⟩, hrun, hr'⟩ := storeA_sound htt hr h
    unfold Oper.wp
    simp only [execOp, ho, Sem.run_bind, hrun, Result.andThen_ok, Sem.run_pure, Oper.upon_skip]
    exact hn _ _ _ hK (hr'.put hd')
  · rename_i as ts ho
    obtain ⟨x, y, t, t', d, rfl, rfl, hdst, h⟩ := h
    obtain ⟨s', v, w', hK, hrun, hr'⟩ := appA_sound (ty := o.type) htt hr h
    unfold Oper.wp
    simp only [execOp, ho, resolve, Sem.run_bind, Sem.run_pure, Result.andThen_ok, invoke, builtin]
    have e1 : (#[x, y] : Array Operand).map a.eval = #[a.eval x, a.eval y] := by simp
    rw [e1, hrun]
    simp only [Result.andThen_ok, Oper.upon_value, hdst]
    exact hn _ _ _ hK hr'
  · exact calm_step htt hett hr hd h hn
theorem stepG_sound (htt : TOK P tt) (hett : ETOK P tt et) {ops : Array Oper} {s : St} (hr : RS base w0 F0 s a w) {i : Nat} {o : Oper} (hi : ops[i]? = some o) {K : St → Prop} (h : stepG P tt et ops o s K)
    {next : Act → World → Prop} {Q : Exit → Act → World → Prop} (hn : ∀ s' a' w', K s' → RS base w0 F0 s' a' w' → next a' w') : wpOp P ops Q i next a w := by
  unfold wpOp
  simp only [hi]
  unfold stepG at h
  cases hg : o.guard with
  | none =>
    rw [hg] at h
    rw [if_pos (by simp [Region.wanted, hg])]
    exact .inl (stepA_sound htt hett hr h hn)
  | some q =>
    obtain ⟨j, want⟩ := q
    rw [hg] at h
    obtain ⟨d, b, h1, h2, h3, h4, h5⟩ := h
    have hy : yielded ops a.tmps j = some b := by
      unfold yielded
      rw [h1]
      obtain ⟨ι, hc, _⟩ := hr
      have := hc.tms d
      rw [h2] at this
      obtain this : a.tmps.getD d undef = .bool b := this
      simp only [Option.bind_some]
      rw [Array.getD_eq_getD_getElem?] at this
      cases e : a.tmps[d]? with
      | none => rw [e] at this; cases this
      | some v => rw [e] at this; simp only [Option.getD_some] at this; rw [this]
    have hw : Region.wanted o (yielded ops a.tmps) = decide (b = want) := by
      simp only [Region.wanted, hg, hy]
      cases b <;> cases want <;> rfl
    rw [hw]
    by_cases e : b = want
    · rw [if_pos (by simpa using e)]
      exact .inl (stepA_sound htt hett hr (h4 e) hn)
    · rw [if_neg (by simpa using e)]
      exact hn _ _ _ (h5 e) (hr.put h3)
theorem aops_sound (htt : TOK P tt) (hett : ETOK P tt et) {ops : Array Oper} {Q : Exit → Act → World → Prop} {K : St → Prop} (hQ : ∀ s a w, K s → RS base w0 F0 s a w → Q .normal a w) :
    ∀ (l : List Oper) (k : Nat) (s : St) (a : Act) (w : World), ops.toList.drop k = l → aops P tt et ops l s K → RS base w0 F0 s a w → wpOps P ops Q (List.range' k l.length) a w := by
  intro l
  induction l with
  | nil => intro k s a w _ h hr; exact hQ _ _ _ h hr
  | cons o r ih =>
    intro k s a w hl h hr
    simp only [List.length_cons, List.range'_succ]
    rw [wpOps_cons]
    have hi : ops[k]? = some o := by
      rw [← Array.getElem?_toList]
      have := congrArg List.head? hl
      simpa [List.head?_drop] using this
    refine stepG_sound htt hett hr hi h fun s' a' w' hK hr' => ih (k + 1) s' a' w' ?_ hK hr'
    rw [← List.drop_drop, hl]
    rfl
end

/-! ### Code -/
def AW (P : Program) (c : Code) (s : St) (Q : Exit → St → Prop) : Prop :=
  ∀ base w0 F0 a w, RS base w0 F0 s a w → c.wp P (fun e a' w' => ∃ s', Q e s' ∧ RS base w0 F0 s' a' w') a w
section
variable {P : Program} {tt : TypeId → Option TI} {et : TypeId → Bool} {s : St} {Q : Exit → St → Prop}
theorem AW.weak {c : Code} {s' : St} (h : Weak s s') (k : AW P c s' Q) : AW P c s Q := fun base w0 F0 a w hr => k base w0 F0 a w (h _ _ _ _ _ hr)
theorem AW.mono {c : Code} {Q' : Exit → St → Prop} (h : AW P c s Q) (k : ∀ e s, Q e s → Q' e s) : AW P c s Q' := fun base w0 F0 a w hr =>
  wp_mono (h base w0 F0 a w hr) fun e a w ⟨s', q, r⟩ => ⟨s', k _ _ q, r⟩
theorem AW.skip (h : Q .normal s) : AW P .skip s Q := fun base w0 F0 a w hr => wp_skip ⟨s, h, hr⟩
theorem AW.ret (h : Q .ret s) : AW P .ret s Q := fun base w0 F0 a w hr => wp_ret ⟨s, h, hr⟩
theorem AW.exit {id : Nat} (h : Q (.exit id) s) : AW P (.exit id) s Q := fun base w0 F0 a w hr => wp_exit ⟨s, h, hr⟩
def andThen (K : St → Prop) (Q : Exit → St → Prop) : Exit → St → Prop
  | .normal, s => K s
  | e, s => Q e s
theorem AW.seq {x y : Code} (h : AW P x s (andThen (fun s' => AW P y s' Q) Q)) : AW P (.seq x y) s Q := fun base w0 F0 a w hr =>
  wp_seq (wp_mono (h base w0 F0 a w hr) fun e a w ⟨s', q, r⟩ => by
    cases e with
    | normal => exact q base w0 F0 a w r
    | _ => exact ⟨s', q, r⟩)
theorem AW.cond {c : Operand} {x y : Code} (b : Bool) (hc : evO s.get c = .d (.v (.bool b))) (ht : b = true → AW P x s Q) (hf : b = false → AW P y s Q) : AW P (.cond c x y) s Q := fun base w0 F0 a w hr => by
  obtain ⟨ι, hcore, hfull⟩ := id hr
  have := hcore.evO c
  rw [hc] at this
  obtain this : a.eval c = .bool b := this
  exact wp_cond_split this (fun e => ht e base w0 F0 a w hr) (fun e => hf e base w0 F0 a w hr)
def inBlk (id : Nat) (Q : Exit → St → Prop) : Exit → St → Prop
  | .exit id', s => if id' = id then Q .normal s else Q (.exit id') s
  | e, s => Q e s
theorem AW.block {id : Nat} {c : Code} (h : AW P c s (inBlk id Q)) : AW P (.block id c) s Q := fun base w0 F0 a w hr =>
  wp_block (wp_mono (h base w0 F0 a w hr) fun e a w ⟨s', q, r⟩ => by
    cases e with
    | exit id' =>
      simp only [inBlk] at q
      simp only [Exit.inBlock]
      split
      · rename_i e; rw [if_pos e] at q; exact ⟨s', q, r⟩
      · rename_i e; rw [if_neg e] at q; exact ⟨s', q, r⟩
    | _ => exact ⟨s', q, r⟩)
theorem AW.loop {c : Code} (I : Nat → St → Prop) (n : Nat) {s₀ : St} (h0 : Weak s s₀) (h1 : I n s₀) (hround : ∀ n s, I n s → AW P c s (andThen (fun s' => ∃ m s'', m < n ∧ Weak s' s'' ∧ I m s'') Q)) : AW P (.loop c) s Q := fun base w0 F0 a w hr =>
  wp_loop_ghost (fun n a w => ∃ s, I n s ∧ RS base w0 F0 s a w) n ⟨s₀, h1, h0 _ _ _ _ _ hr⟩ fun n a w ⟨s, hI, hr⟩ =>
    wp_mono (hround n s hI base w0 F0 a w hr) fun e a w ⟨s', q, r⟩ => by
      cases e with
      | normal =>
        obtain ⟨m, s'', hm, hw, hI'⟩ := q
        exact ⟨m, hm, s'', hI', hw _ _ _ _ _ r⟩
      | _ => exact ⟨s', q, r⟩
theorem AW.region (htt : TOK P tt) (hett : ETOK P tt et) {id : Nat} {ops : Array Oper} (h : aops P tt et ops ops.toList s (Q .normal)) : AW P (.region id ops false) s Q := fun base w0 F0 a w hr => by
  refine wp_region ?_
  have := aops_sound (Q := fun e a' w' => ∃ s', Q e s' ∧ RS base w0 F0 s' a' w') htt hett (fun s a w h hr => ⟨s, h, hr⟩) ops.toList 0 s a w rfl h hr
  rw [List.range_eq_range']
  simpa using this

end
end Go.Proofs.Ab
