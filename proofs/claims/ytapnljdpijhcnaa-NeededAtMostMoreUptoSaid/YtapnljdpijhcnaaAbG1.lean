/- A part of the proof of the law: it holds for all states of the abstract kind told in the first of these texts; no condition besides those its statements name. -/
import Derived.Test.YtapnljdpijhcnaaAbGt
import Derived.Test.YtapnljdpijhcnaaAbM2
namespace Go.Proofs.Ab.Try
open Go Go.Proofs Go.Proofs.Ab
set_option linter.unusedSimpArgs false
set_option linter.unusedVariables false
set_option maxHeartbeats 8000000
theorem mixOK : Try.prog.follows .mixedOrders = true := by kernel_rfl
/-! ### Columns and values can be compared -/
theorem shape_int {k : IntKind} {n : Int} {x : Value} (h : eqShape (.int k n) x = true) : ∃ m, x = .int k m := by
  cases x <;> simp [eqShape] at h
  subst h; exact ⟨_, rfl⟩
theorem shape_str {s : ByteArray} {x : Value} (h : eqShape (.string s) x = true) : ∃ b, x = .string b := by
  cases x <;> simp [eqShape] at h
  exact ⟨_, rfl⟩
theorem shape_nil {xs : List Value} (h : shapeCells [] xs = true) : xs = [] := by cases xs <;> simp [shapeCells] at h ⊢
theorem shape_cons {z : Value} {zs xs : List Value} (h : shapeCells (z :: zs) xs = true) : ∃ x r, xs = x :: r ∧ eqShape z x = true ∧ shapeCells zs r = true := by
  cases xs with
  | nil => simp [shapeCells] at h
  | cons x r => simp only [shapeCells, Bool.and_eq_true] at h; exact ⟨x, r, rfl, h.1, h.2⟩
theorem eqCol : EqTok Try.prog 109 [.string ⟨#[]⟩, .int .i64 0] where
  guard := by kernel_rfl
  eq := by
    intro xs ys w h1 h2
    obtain ⟨x1, _, rfl, e1, h1⟩ := shape_cons h1
    obtain ⟨x2, _, rfl, e2, h1⟩ := shape_cons h1
    obtain rfl := shape_nil h1
    obtain ⟨y1, _, rfl, f1, h2⟩ := shape_cons h2
    obtain ⟨y2, _, rfl, f2, h2⟩ := shape_cons h2
    obtain rfl := shape_nil h2
    obtain ⟨a1, rfl⟩ := shape_str e1
    obtain ⟨a2, rfl⟩ := shape_int e2
    obtain ⟨b1, rfl⟩ := shape_str f1
    obtain ⟨b2, rfl⟩ := shape_int f2
    have hf : (Try.prog.fieldsOf 109).toList.map (fun f => (f.name == "_", f.type, f.offset)) = [(false, 9, 0), (false, 3, 1)] := by kernel_rfl
    show (Op.equalIn 10000 _ _ _).run _ _ = _
    rw [run_equalIn_agg w 9999 _ _ _ (by kernel_rfl) (by kernel_rfl)]
    generalize (Try.prog.fieldsOf 109).toList = fs at hf
    obtain ⟨g1, _, rfl, hg1, hf⟩ := List.map_eq_cons_iff.1 hf
    obtain ⟨g2, _, rfl, hg2, hf⟩ := List.map_eq_cons_iff.1 hf
    obtain rfl := List.map_eq_nil_iff.1 hf
    simp only [Prod.mk.injEq, beq_eq_false_iff_ne] at hg1 hg2
    obtain ⟨n1, t1, o1⟩ := hg1
    obtain ⟨n2, t2, o2⟩ := hg2
    simp [Op.eqFields, n1, n2, t1, t2, o1, o2, part, run_isAgg_tok tk9 w, run_isAgg_tok tk3 w, run_equalIn_string w 9998 _ _ _ Try.underlying9, run_equalIn_int w 9998 _ _ _ _ _ Try.underlying3, eqCells, eqVal, TI.row]
    by_cases c1 : a1.toList = b1.toList <;> by_cases c2 : a2 = b2 <;> simp [c1, c2]
theorem eqValT : EqTok Try.prog 76 [.int .i64 0, .int .i64 0, .string ⟨#[]⟩] where
  guard := by kernel_rfl
  eq := by
    intro xs ys w h1 h2
    obtain ⟨x1, _, rfl, e1, h1⟩ := shape_cons h1
    obtain ⟨x2, _, rfl, e2, h1⟩ := shape_cons h1
    obtain ⟨x3, _, rfl, e3, h1⟩ := shape_cons h1
    obtain rfl := shape_nil h1
    obtain ⟨y1, _, rfl, f1, h2⟩ := shape_cons h2
    obtain ⟨y2, _, rfl, f2, h2⟩ := shape_cons h2
    obtain ⟨y3, _, rfl, f3, h2⟩ := shape_cons h2
    obtain rfl := shape_nil h2
    obtain ⟨a1, rfl⟩ := shape_int e1
    obtain ⟨a2, rfl⟩ := shape_int e2
    obtain ⟨a3, rfl⟩ := shape_str e3
    obtain ⟨b1, rfl⟩ := shape_int f1
    obtain ⟨b2, rfl⟩ := shape_int f2
    obtain ⟨b3, rfl⟩ := shape_str f3
    have hf : (Try.prog.fieldsOf 76).toList.map (fun f => (f.name == "_", f.type, f.offset)) = [(false, 3, 0), (false, 3, 1), (false, 9, 2)] := by kernel_rfl
    show (Op.equalIn 10000 _ _ _).run _ _ = _
    rw [run_equalIn_agg w 9999 _ _ _ (by kernel_rfl) (by kernel_rfl)]
    generalize (Try.prog.fieldsOf 76).toList = fs at hf
    obtain ⟨g1, _, rfl, hg1, hf⟩ := List.map_eq_cons_iff.1 hf
    obtain ⟨g2, _, rfl, hg2, hf⟩ := List.map_eq_cons_iff.1 hf
    obtain ⟨g3, _, rfl, hg3, hf⟩ := List.map_eq_cons_iff.1 hf
    obtain rfl := List.map_eq_nil_iff.1 hf
    simp only [Prod.mk.injEq, beq_eq_false_iff_ne] at hg1 hg2 hg3
    obtain ⟨n1, t1, o1⟩ := hg1
    obtain ⟨n2, t2, o2⟩ := hg2
    obtain ⟨n3, t3, o3⟩ := hg3
    simp [Op.eqFields, n1, n2, n3, t1, t2, t3, o1, o2, o3, part, run_isAgg_tok tk9 w, run_isAgg_tok tk3 w, run_equalIn_string w 9998 _ _ _ Try.underlying9, run_equalIn_int w 9998 _ _ _ _ _ Try.underlying3, eqCells, eqVal, TI.row]
    by_cases c1 : a1 = b1 <;> by_cases c2 : a2 = b2 <;> by_cases c3 : a3.toList = b3.toList <;> simp [c1, c2, c3]
def et (t : TypeId) : Bool := t == 109 || t == 76
theorem etOK : ETOK Try.prog tt et := by
  intro t h
  simp only [et, Bool.or_eq_true, beq_iff_eq] at h
  rcases h with rfl | rfl
  · exact ⟨_, tt109, rfl, eqCol⟩
  · exact ⟨_, tt76, rfl, eqValT⟩
def inR (n lo hi : Int) : Bool := decide (lo ≤ n) && decide (n ≤ hi)
theorem good_In (n lo hi : Int) : Good Try.prog 8 [aI n, aI lo, aI hi] (aB (inR n lo hi)) := by
  refine goodF ttOK Try.func8 (vs := [.tmp 6]) (nt := 15) rfl rfl rfl (by kernel_rfl) (by simp) trivial ?_
  by_cases h : lo ≤ n
  all_goals
    repeat first | (refine aops.cons fun K hK => ?_; simp [and_assoc, h]; (try simp (disch := omega) only [wrap64]); (repeat refine ⟨by omega, ?_⟩); refine hK _ ?_; clear hK K) | refine aops.nil ?_ | refine AW.seqR ttOK etOK ?_ | refine AW.lastR ttOK etOK ?_ | refine AW.seqSkip ?_ | refine AW.seq ?_ | refine AW.block ?_ | (refine AW.skip ?_; simp only [andThen, inBlk, ↓reduceIte]) | (refine AW.exit ?_; simp (disch := omega) only [andThen, inBlk, ↓reduceIte, Nat.reduceEqDiff]) | (guard_target =~ andThen _ _ _ _; simp only [andThen, inBlk, ↓reduceIte])
    refine AW.ret ?_
    simp [resL, resA, resV, inR, h]
def takes (k : Int) : Nat := if k = 1 then 0 else if k = 4 then 2 else if k = 8 then 2 else 1
theorem good_Takes (s : PStep) : Good Try.prog 21 [aStep s] (aI (takes s.kind)) := by
  refine goodF ttOK Try.func21 (vs := [.tmp 2]) (nt := 10) rfl rfl rfl (by kernel_rfl) (by simp) trivial ?_
  repeat first | (refine aops.cons fun K hK => ?_; simp [and_assoc]; (try simp (disch := omega) only [wrap64]); (repeat refine ⟨by omega, ?_⟩); refine hK _ ?_; clear hK K) | refine aops.nil ?_ | refine AW.seqR ttOK etOK ?_ | refine AW.lastR ttOK etOK ?_ | refine AW.seqSkip ?_ | refine AW.seq ?_ | refine AW.block ?_ | (refine AW.skip ?_; simp only [andThen, inBlk, ↓reduceIte]) | (refine AW.exit ?_; simp (disch := omega) only [andThen, inBlk, ↓reduceIte, Nat.reduceEqDiff]) | (guard_target =~ andThen _ _ _ _; simp only [andThen, inBlk, ↓reduceIte])
  refine AW.cond _ (by rfl) (fun h1 => ?_) (fun h1 => ?_) <;> (try simp at h1)
  · repeat first | (refine aops.cons fun K hK => ?_; simp [and_assoc]; (try simp (disch := omega) only [wrap64]); (repeat refine ⟨by omega, ?_⟩); refine hK _ ?_; clear hK K) | refine aops.nil ?_ | refine AW.seqR ttOK etOK ?_ | refine AW.lastR ttOK etOK ?_ | refine AW.seqSkip ?_ | refine AW.seq ?_ | refine AW.block ?_ | (refine AW.skip ?_; simp only [andThen, inBlk, ↓reduceIte]) | (refine AW.exit ?_; simp (disch := omega) only [andThen, inBlk, ↓reduceIte, Nat.reduceEqDiff]) | (guard_target =~ andThen _ _ _ _; simp only [andThen, inBlk, ↓reduceIte])
    exact AW.ret (by simp [resL, resA, resV, resVs, andThen, inBlk, h1, takes])
  repeat first | (refine aops.cons fun K hK => ?_; simp [and_assoc]; (try simp (disch := omega) only [wrap64]); (repeat refine ⟨by omega, ?_⟩); refine hK _ ?_; clear hK K) | refine aops.nil ?_ | refine AW.seqR ttOK etOK ?_ | refine AW.lastR ttOK etOK ?_ | refine AW.seqSkip ?_ | refine AW.seq ?_ | refine AW.block ?_ | (refine AW.skip ?_; simp only [andThen, inBlk, ↓reduceIte]) | (refine AW.exit ?_; simp (disch := omega) only [andThen, inBlk, ↓reduceIte, Nat.reduceEqDiff]) | (guard_target =~ andThen _ _ _ _; simp only [andThen, inBlk, ↓reduceIte])
  refine AW.cond _ (by rfl) (fun h2 => ?_) (fun h2 => ?_) <;> (try simp at h2)
  · repeat first | (refine aops.cons fun K hK => ?_; simp [and_assoc]; (try simp (disch := omega) only [wrap64]); (repeat refine ⟨by omega, ?_⟩); refine hK _ ?_; clear hK K) | refine aops.nil ?_ | refine AW.seqR ttOK etOK ?_ | refine AW.lastR ttOK etOK ?_ | refine AW.seqSkip ?_ | refine AW.seq ?_ | refine AW.block ?_ | (refine AW.skip ?_; simp only [andThen, inBlk, ↓reduceIte]) | (refine AW.exit ?_; simp (disch := omega) only [andThen, inBlk, ↓reduceIte, Nat.reduceEqDiff]) | (guard_target =~ andThen _ _ _ _; simp only [andThen, inBlk, ↓reduceIte])
    refine AW.cond _ (by rfl) (fun _ => ?_) (fun hx => absurd hx (by simp [h2]))
    repeat first | (refine aops.cons fun K hK => ?_; simp [and_assoc]; (try simp (disch := omega) only [wrap64]); (repeat refine ⟨by omega, ?_⟩); refine hK _ ?_; clear hK K) | refine aops.nil ?_ | refine AW.seqR ttOK etOK ?_ | refine AW.lastR ttOK etOK ?_ | refine AW.seqSkip ?_ | refine AW.seq ?_ | refine AW.block ?_ | (refine AW.skip ?_; simp only [andThen, inBlk, ↓reduceIte]) | (refine AW.exit ?_; simp (disch := omega) only [andThen, inBlk, ↓reduceIte, Nat.reduceEqDiff]) | (guard_target =~ andThen _ _ _ _; simp only [andThen, inBlk, ↓reduceIte])
    exact AW.ret (by simp [resL, resA, resV, resVs, andThen, inBlk, h2, takes])
  repeat first | (refine aops.cons fun K hK => ?_; simp [and_assoc]; (try simp (disch := omega) only [wrap64]); (repeat refine ⟨by omega, ?_⟩); refine hK _ ?_; clear hK K) | refine aops.nil ?_ | refine AW.seqR ttOK etOK ?_ | refine AW.lastR ttOK etOK ?_ | refine AW.seqSkip ?_ | refine AW.seq ?_ | refine AW.block ?_ | (refine AW.skip ?_; simp only [andThen, inBlk, ↓reduceIte]) | (refine AW.exit ?_; simp (disch := omega) only [andThen, inBlk, ↓reduceIte, Nat.reduceEqDiff]) | (guard_target =~ andThen _ _ _ _; simp only [andThen, inBlk, ↓reduceIte])
  refine AW.cond _ (by rfl) (fun h3 => ?_) (fun h3 => ?_) <;> (try simp at h3)
  · repeat first | (refine aops.cons fun K hK => ?_; simp [and_assoc]; (try simp (disch := omega) only [wrap64]); (repeat refine ⟨by omega, ?_⟩); refine hK _ ?_; clear hK K) | refine aops.nil ?_ | refine AW.seqR ttOK etOK ?_ | refine AW.lastR ttOK etOK ?_ | refine AW.seqSkip ?_ | refine AW.seq ?_ | refine AW.block ?_ | (refine AW.skip ?_; simp only [andThen, inBlk, ↓reduceIte]) | (refine AW.exit ?_; simp (disch := omega) only [andThen, inBlk, ↓reduceIte, Nat.reduceEqDiff]) | (guard_target =~ andThen _ _ _ _; simp only [andThen, inBlk, ↓reduceIte])
    exact AW.ret (by simp [resL, resA, resV, resVs, andThen, inBlk, h1, h2, h3, takes])
  · repeat first | (refine aops.cons fun K hK => ?_; simp [and_assoc]; (try simp (disch := omega) only [wrap64]); (repeat refine ⟨by omega, ?_⟩); refine hK _ ?_; clear hK K) | refine aops.nil ?_ | refine AW.seqR ttOK etOK ?_ | refine AW.lastR ttOK etOK ?_ | refine AW.seqSkip ?_ | refine AW.seq ?_ | refine AW.block ?_ | (refine AW.skip ?_; simp only [andThen, inBlk, ↓reduceIte]) | (refine AW.exit ?_; simp (disch := omega) only [andThen, inBlk, ↓reduceIte, Nat.reduceEqDiff]) | (guard_target =~ andThen _ _ _ _; simp only [andThen, inBlk, ↓reduceIte])
    exact AW.ret (by simp [resL, resA, resV, resVs, andThen, inBlk, h1, h2, h3, takes])

def fromAt (i : Nat) (st : List Int) (s : PStep) : Int := (st[st.length - takes s.kind]?).getD i
def stNext (i : Nat) (st : List Int) (s : PStep) : List Int := st.take (st.length - takes s.kind) ++ [fromAt i st s]
def startsGo : Nat → List Int → List PStep → List Int
  | _, _, [] => []
  | i, st, s :: r => fromAt i st s :: startsGo (i + 1) (stNext i st s) r
def wfGo : Nat → List PStep → Bool
  | _, [] => true
  | n, s :: r => inR s.kind 1 9 && decide (takes s.kind ≤ n) && wfGo (n + 1 - takes s.kind) r
theorem takes_le (k : Int) : takes k ≤ 2 := by unfold takes; split <;> (try split) <;> (try split) <;> omega
theorem good_Starts (p : List PStep) (hp : p.length ≤ 2000000) (hw : wfGo 0 p = true) : Good Try.prog 15 [aPlan p] (.d (.sl 1 (eI (startsGo 0 [] p)))) := by
  refine goodF ttOK Try.func15 (vs := [.tmp 2]) (nt := 43) rfl rfl rfl (by kernel_rfl) (by simp) trivial ?_
  repeat first | (refine aops.cons fun K hK => ?_; simp [and_assoc]; (try simp (disch := omega) only [wrap64]); (repeat refine ⟨by omega, ?_⟩); refine hK _ ?_; clear hK K) | refine aops.nil ?_ | refine AW.seqR ttOK etOK ?_ | refine AW.lastR ttOK etOK ?_ | refine AW.seqSkip ?_ | refine AW.seq ?_ | refine AW.block ?_ | (refine AW.skip ?_; simp only [andThen, inBlk, ↓reduceIte]) | (refine AW.exit ?_; simp (disch := omega) only [andThen, inBlk, ↓reduceIte, Nat.reduceEqDiff]) | (guard_target =~ andThen _ _ _ _; simp only [andThen, inBlk, ↓reduceIte])
  refine AW.iterI (fun k s => ∃ stack out, s = ⟨43, [(3, .ms 40 1 0 out.length), (4, .ms 36 1 0 stack.length), (10, .d (.sl 9 (p.map stepC))), (11, aI p.length), (12, aI k)], [(40, .arr 1 (eI out)), (36, .arr 1 (eI stack))]⟩ ∧ stack.length ≤ k ∧ out.length = k ∧ wfGo stack.length (p.drop k) = true ∧ out ++ startsGo k stack (p.drop k) = startsGo 0 [] p) p.length (s₀ := ⟨43, [(3, .ms 40 1 0 0), (4, .ms 36 1 0 0), (10, .d (.sl 9 (p.map stepC))), (11, aI p.length), (12, aI 0)], [(40, .arr 1 (eI [])), (36, .arr 1 (eI []))]⟩) ?_ ?_ ?_
  · refine Weak.thenE (Weak.own _ 4 36 1 (by rfl) (by rfl)) (by simp; rfl) ?_
    refine Weak.thenE (Weak.own _ 3 40 1 (by rfl) (by rfl)) (by simp; rfl) ?_
    refine Weak.thenE (Weak.killE _ 1) (by simp; rfl) ?_
    exact Weak.to (by simp)
  · exact ⟨[], [], rfl, by simp, rfl, hw, rfl⟩
  rintro k s hk ⟨stack, out, rfl, h1, h2, h3, h4⟩
  have hk' : (k : Int) ≤ 2000000 := by omega
  cases hd : p.drop k with
  | nil =>
    have : p.length ≤ k := by simpa using hd
    repeat first | (refine aops.cons fun K hK => ?_; simp [and_assoc]; (try simp (disch := omega) only [wrap64]); (repeat refine ⟨by omega, ?_⟩); refine hK _ ?_; clear hK K) | refine aops.nil ?_ | refine AW.seqR ttOK etOK ?_ | refine AW.lastR ttOK etOK ?_ | refine AW.seqSkip ?_ | refine AW.seq ?_ | refine AW.block ?_ | (refine AW.skip ?_; simp only [andThen, inBlk, ↓reduceIte]) | (refine AW.exit ?_; simp (disch := omega) only [andThen, inBlk, ↓reduceIte, Nat.reduceEqDiff]) | (guard_target =~ andThen _ _ _ _; simp only [andThen, inBlk, ↓reduceIte])
    refine AW.cond _ (by rfl) (fun hx => absurd hx (by simp [this])) (fun _ => ?_)
    repeat first | (refine aops.cons fun K hK => ?_; simp [and_assoc]; (try simp (disch := omega) only [wrap64]); (repeat refine ⟨by omega, ?_⟩); refine hK _ ?_; clear hK K) | refine aops.nil ?_ | refine AW.seqR ttOK etOK ?_ | refine AW.lastR ttOK etOK ?_ | refine AW.seqSkip ?_ | refine AW.seq ?_ | refine AW.block ?_ | (refine AW.skip ?_; simp only [andThen, inBlk, ↓reduceIte]) | (refine AW.exit ?_; simp (disch := omega) only [andThen, inBlk, ↓reduceIte, Nat.reduceEqDiff]) | (guard_target =~ andThen _ _ _ _; simp only [andThen, inBlk, ↓reduceIte])
    refine AW.weakE (Weak.freeze _ 40 (by rfl)) (by simp; rfl) ?_
    exact AW.ret (by simp [resL, resA, resV, resVs, andThen, inBlk, eI_take, ← h4, hd, startsGo])
  | cons x r =>
    obtain ⟨hx, hr, hlt⟩ := get_of_drop hd
    rw [hd] at h3 h4
    repeat first | (refine aops.cons fun K hK => ?_; simp [and_assoc]; (try simp (disch := omega) only [wrap64]); (repeat refine ⟨by omega, ?_⟩); refine hK _ ?_; clear hK K) | refine aops.nil ?_ | refine AW.seqR ttOK etOK ?_ | refine AW.lastR ttOK etOK ?_ | refine AW.seqSkip ?_ | refine AW.seq ?_ | refine AW.block ?_ | (refine AW.skip ?_; simp only [andThen, inBlk, ↓reduceIte]) | (refine AW.exit ?_; simp (disch := omega) only [andThen, inBlk, ↓reduceIte, Nat.reduceEqDiff]) | (guard_target =~ andThen _ _ _ _; simp only [andThen, inBlk, ↓reduceIte])
    refine AW.cond _ (by rfl) (fun _ => ?_) (fun hx => absurd hx (by simp [hlt]))
    repeat first | (refine aops.cons fun K hK => ?_; simp [and_assoc, hx]; (try simp (disch := omega) only [wrap64]); (repeat refine ⟨by omega, ?_⟩); refine hK _ ?_; clear hK K) | refine aops.nil ?_ | refine AW.seqR ttOK etOK ?_ | refine AW.lastR ttOK etOK ?_ | refine AW.seqSkip ?_ | refine AW.seq ?_ | refine AW.block ?_ | (refine AW.skip ?_; simp only [andThen, inBlk, ↓reduceIte]) | (refine AW.exit ?_; simp (disch := omega) only [andThen, inBlk, ↓reduceIte, Nat.reduceEqDiff]) | (guard_target =~ andThen _ _ _ _; simp only [andThen, inBlk, ↓reduceIte])
    have ht := takes_le x.kind
    have h5 : takes x.kind ≤ stack.length := by
      simp [wfGo] at h3; omega
    obtain ⟨m, hm⟩ : ∃ m, stack.length - takes x.kind = m := ⟨_, rfl⟩
    have e : (stack.length : Int) - (takes x.kind : Int) = (m : Int) := by omega
    refine aops.cons fun K hK => ?_
    simp [and_assoc, hx]
    refine callA (good_Takes x) (by repeat' constructor) (hK _ ?_)
    clear hK K
    repeat first | (refine aops.cons fun K hK => ?_; simp [and_assoc, e]; (try simp (disch := omega) only [wrap64]); (repeat refine ⟨by omega, ?_⟩); refine hK _ ?_; clear hK K) | refine aops.nil ?_ | refine AW.seqR ttOK etOK ?_ | refine AW.lastR ttOK etOK ?_ | refine AW.seqSkip ?_ | refine AW.seq ?_ | refine AW.block ?_ | (refine AW.skip ?_; simp only [andThen, inBlk, ↓reduceIte]) | (refine AW.exit ?_; simp (disch := omega) only [andThen, inBlk, ↓reduceIte, Nat.reduceEqDiff]) | (guard_target =~ andThen _ _ _ _; simp only [andThen, inBlk, ↓reduceIte])
    refine AW.join ⟨43, [(3, .ms 40 1 0 out.length), (4, .ms 36 1 0 stack.length), (7, aI m), (8, aI (fromAt k stack x)), (10, .d (.sl 9 (p.map stepC))), (11, aI p.length), (12, aI k)], [(40, .arr 1 (eI out)), (36, .arr 1 (eI stack))]⟩ ?_ ?_
    · refine AW.cond _ (by rfl) (fun h6 => ?_) (fun h6 => ?_) <;> (try simp at h6)
      · repeat first | (refine aops.cons fun K hK => ?_; simp [and_assoc, h6]; (try simp (disch := omega) only [wrap64]); (repeat refine ⟨by omega, ?_⟩); refine hK _ ?_; clear hK K) | refine aops.nil ?_ | refine AW.seqR ttOK etOK ?_ | refine AW.lastR ttOK etOK ?_ | refine AW.seqSkip ?_ | refine AW.seq ?_ | refine AW.block ?_ | (refine AW.skip ?_; simp only [andThen, inBlk, ↓reduceIte]) | (refine AW.exit ?_; simp (disch := omega) only [andThen, inBlk, ↓reduceIte, Nat.reduceEqDiff]) | (guard_target =~ andThen _ _ _ _; simp only [andThen, inBlk, ↓reduceIte])
        refine Weak.thenE (Weak.killE _ 6) (by simp; rfl) ?_
        exact Weak.to (by simp [fromAt, hm, h6])
      · repeat first | (refine aops.cons fun K hK => ?_; simp [and_assoc]; (try simp (disch := omega) only [wrap64]); (repeat refine ⟨by omega, ?_⟩); refine hK _ ?_; clear hK K) | refine aops.nil ?_ | refine AW.seqR ttOK etOK ?_ | refine AW.lastR ttOK etOK ?_ | refine AW.seqSkip ?_ | refine AW.seq ?_ | refine AW.block ?_ | (refine AW.skip ?_; simp only [andThen, inBlk, ↓reduceIte]) | (refine AW.exit ?_; simp (disch := omega) only [andThen, inBlk, ↓reduceIte, Nat.reduceEqDiff]) | (guard_target =~ andThen _ _ _ _; simp only [andThen, inBlk, ↓reduceIte])
        refine Weak.thenE (Weak.killE _ 6) (by simp; rfl) ?_
        exact Weak.to (by simp [fromAt, hm, List.getElem?_eq_none h6])
    · have hml : m ≤ stack.length := by omega
      repeat first | (refine aops.cons fun K hK => ?_; simp [and_assoc, hml, eI_take, eI_append, eI_one]; (try simp (disch := omega) only [wrap64]); (repeat refine ⟨by omega, ?_⟩); refine hK _ ?_; clear hK K) | refine aops.nil ?_ | refine AW.seqR ttOK etOK ?_ | refine AW.lastR ttOK etOK ?_ | refine AW.seqSkip ?_ | refine AW.seq ?_ | refine AW.block ?_ | (refine AW.skip ?_; simp only [andThen, inBlk, ↓reduceIte]) | (refine AW.exit ?_; simp (disch := omega) only [andThen, inBlk, ↓reduceIte, Nat.reduceEqDiff]) | (guard_target =~ andThen _ _ _ _; simp only [andThen, inBlk, ↓reduceIte])
      have hs : stNext k stack x = stack.take m ++ [fromAt k stack x] := by simp [stNext, hm]
      refine ⟨hlt, ⟨43, [(3, .ms 40 1 0 (out.length + 1)), (4, .ms 36 1 0 (m + 1)), (10, .d (.sl 9 (p.map stepC))), (11, aI p.length), (12, aI (k + 1))], [(40, .arr 1 (eI (out ++ [fromAt k stack x]))), (36, .arr 1 (eI (stack.take m ++ [fromAt k stack x])))]⟩, ?_, stack.take m ++ [fromAt k stack x], out ++ [fromAt k stack x], ?_⟩
      · refine Weak.thenE (Weak.killE _ 39) (by simp; rfl) ?_
        refine Weak.thenE (Weak.killE _ 35) (by simp; rfl) ?_
        exact Weak.to (by simp)
      · have hl : (stack.take m ++ [fromAt k stack x]).length = m + 1 := by simp; omega
        refine ⟨by simp [hl], by omega, by simp [h2], ?_, ?_⟩
        · rw [hr, hl]
          simp only [wfGo, Bool.and_eq_true] at h3
          have := h3.2
          rwa [show stack.length + 1 - takes x.kind = m + 1 by omega] at this
        · rw [hr, ← hs]
          simpa [startsGo] using h4
end Go.Proofs.Ab.Try
