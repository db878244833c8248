/- A part of the proof of the law: it holds for all states of the abstract kind told in the first of these texts; no condition besides those its statements name. -/
import Derived.Test.YtkpnoifnfoijbaaAbF4
import Derived.Test.YtkpnoifnfoijbaaAbA25
namespace Go.Proofs.Ab.Try
open Go Go.Proofs Go.Proofs.Ab
set_option linter.unusedSimpArgs false
set_option linter.unusedVariables false
set_option maxHeartbeats 8000000
def findR (n : Nat) : Code → List (List Oper)
  | .seq x y => findR n x ++ findR n y
  | .cond _ x y => findR n x ++ findR n y
  | .block _ c => findR n c
  | .loop c => findR n c
  | .region id ops _ => if id = n then [ops.toList] else []
  | _ => []
noncomputable def r19ops : Array Oper := ⟨((Try.f18.body.map (findR 19)).getD []).headD []⟩
noncomputable def r19o (i : Nat) : Oper := (r19ops[i]?).getD { dst := none, op := .move (.tmp 0), type := 0, pos := "", after := #[], guard := none }
theorem r19e0 : r19ops[0]? = some (r19o 0) := by kernel_rfl
theorem r19d0 : (r19o 0).dst = some 49 := by kernel_rfl
theorem r19p0 : (r19o 0).op = Go.Op.fieldAddr 46 (Go.Operand.tmp 4) 0 := by kernel_rfl
theorem r19g0 : (r19o 0).guard = none := by kernel_rfl
theorem r19e1 : r19ops[1]? = some (r19o 1) := by kernel_rfl
theorem r19d1 : (r19o 1).dst = some 50 := by kernel_rfl
theorem r19p1 : (r19o 1).op = Go.Op.load 36 (Go.Operand.tmp 49) := by kernel_rfl
theorem r19g1 : (r19o 1).guard = none := by kernel_rfl
theorem r19e2 : r19ops[2]? = some (r19o 2) := by kernel_rfl
theorem r19d2 : (r19o 2).dst = some 51 := by kernel_rfl
theorem r19p2 : (r19o 2).op = Go.Op.move (Go.Operand.tmp 7) := by kernel_rfl
theorem r19g2 : (r19o 2).guard = none := by kernel_rfl
theorem r19e3 : r19ops[3]? = some (r19o 3) := by kernel_rfl
theorem r19d3 : (r19o 3).dst = some 52 := by kernel_rfl
theorem r19p3 : (r19o 3).op = Go.Op.buildSlice 36 1 #[(0, Go.Operand.tmp 51)] := by kernel_rfl
theorem r19g3 : (r19o 3).guard = none := by kernel_rfl
theorem r19e4 : r19ops[4]? = some (r19o 4) := by kernel_rfl
theorem r19d4 : (r19o 4).dst = some 53 := by kernel_rfl
theorem r19p4 : (r19o 4).op = Go.Op.call { callee := Go.Callee.builtin Go.Builtin.append, args := #[Go.Operand.tmp 50, Go.Operand.tmp 52], argTypes := #[36, 36] } := by kernel_rfl
theorem r19g4 : (r19o 4).guard = none := by kernel_rfl
theorem r19e5 : r19ops[5]? = some (r19o 5) := by kernel_rfl
theorem r19d5 : (r19o 5).dst = some 54 := by kernel_rfl
theorem r19p5 : (r19o 5).op = Go.Op.fieldAddr 46 (Go.Operand.tmp 4) 1 := by kernel_rfl
theorem r19g5 : (r19o 5).guard = none := by kernel_rfl
theorem r19e6 : r19ops[6]? = some (r19o 6) := by kernel_rfl
theorem r19d6 : (r19o 6).dst = some 55 := by kernel_rfl
theorem r19p6 : (r19o 6).op = Go.Op.load 25 (Go.Operand.tmp 54) := by kernel_rfl
theorem r19g6 : (r19o 6).guard = none := by kernel_rfl
theorem r19e7 : r19ops[7]? = some (r19o 7) := by kernel_rfl
theorem r19d7 : (r19o 7).dst = some 56 := by kernel_rfl
theorem r19p7 : (r19o 7).op = Go.Op.move (Go.Operand.tmp 8) := by kernel_rfl
theorem r19g7 : (r19o 7).guard = none := by kernel_rfl
theorem r19e8 : r19ops[8]? = some (r19o 8) := by kernel_rfl
theorem r19d8 : (r19o 8).dst = some 57 := by kernel_rfl
theorem r19p8 : (r19o 8).op = Go.Op.buildSlice 25 1 #[(0, Go.Operand.tmp 56)] := by kernel_rfl
theorem r19g8 : (r19o 8).guard = none := by kernel_rfl
theorem r19e9 : r19ops[9]? = some (r19o 9) := by kernel_rfl
theorem r19d9 : (r19o 9).dst = some 58 := by kernel_rfl
theorem r19p9 : (r19o 9).op = Go.Op.call { callee := Go.Callee.builtin Go.Builtin.append, args := #[Go.Operand.tmp 55, Go.Operand.tmp 57], argTypes := #[25, 25] } := by kernel_rfl
theorem r19g9 : (r19o 9).guard = none := by kernel_rfl
theorem r19e10 : r19ops[10]? = some (r19o 10) := by kernel_rfl
theorem r19d10 : (r19o 10).dst = some 59 := by kernel_rfl
theorem r19p10 : (r19o 10).op = Go.Op.fieldAddr 46 (Go.Operand.tmp 4) 0 := by kernel_rfl
theorem r19g10 : (r19o 10).guard = none := by kernel_rfl
theorem r19e11 : r19ops[11]? = some (r19o 11) := by kernel_rfl
theorem r19d11 : (r19o 11).dst = none := by kernel_rfl
theorem r19p11 : (r19o 11).op = Go.Op.store 36 (Go.Operand.tmp 59) (Go.Operand.tmp 53) := by kernel_rfl
theorem r19g11 : (r19o 11).guard = none := by kernel_rfl
theorem r19e12 : r19ops[12]? = some (r19o 12) := by kernel_rfl
theorem r19d12 : (r19o 12).dst = some 60 := by kernel_rfl
theorem r19p12 : (r19o 12).op = Go.Op.fieldAddr 46 (Go.Operand.tmp 4) 1 := by kernel_rfl
theorem r19g12 : (r19o 12).guard = none := by kernel_rfl
theorem r19e13 : r19ops[13]? = some (r19o 13) := by kernel_rfl
theorem r19d13 : (r19o 13).dst = none := by kernel_rfl
theorem r19p13 : (r19o 13).op = Go.Op.store 25 (Go.Operand.tmp 60) (Go.Operand.tmp 58) := by kernel_rfl
theorem r19g13 : (r19o 13).guard = none := by kernel_rfl
theorem r19h11111111111111 (ps : List (List D)) (k : Nat) (own fs : List Int) (gs : List (List Int)) (a : Int) (hg : gs.length ≤ 2000000) (hf : fs.length ≤ 2000000) (Q : Exit → St → Prop)
    (hQ : ∀ s', Weak s' ⟨62, [(0, .d (.sl 9 ps)), (2, .pt 2 0), (4, .pt 4 0), (5, aI k), (7, .d (.sl 1 (eI own))), (8, aI a)], [(58, .arr 1 (eI (fs ++ [a]))), (53, .arr 1 (eG (gs ++ [own]))), (4, .var [.ms 53 1 0 (gs.length + 1), .ms 58 1 0 (fs.length + 1)]), (2, .var [aNil, aNil])]⟩ → Q .normal s') : AnyW Try.prog r19ops [true, true, true, true, true, true, true, true, true, true, true, true, true, true] ⟨62, [(0, .d (.sl 9 ps)), (2, .pt 2 0), (4, .pt 4 0), (5, aI k), (7, .d (.sl 1 (eI own))), (8, aI a), (49, .pt 4 0), (53, .ms 53 1 0 (gs.length + 1)), (54, .pt 4 1), (58, .ms 58 1 0 (fs.length + 1)), (59, .pt 4 0), (60, .pt 4 1)], [(52, .arr 1 (eG [own])), (57, .arr 1 (eI [a])), (58, .arr 1 (eI (fs ++ [a]))), (53, .arr 1 (eG (gs ++ [own]))), (4, .var [.ms 53 1 0 (gs.length + 1), .ms 58 1 0 (fs.length + 1)]), (2, .var [aNil, aNil])]⟩ Q := by
  refine AnyW.done (by decide +kernel) (hQ _ ?_)
  refine Weak.thenE (Weak.killE _ 52) (by simp; rfl) ?_
  refine Weak.thenE (Weak.killE _ 57) (by simp; rfl) ?_
  exact Weak.to2 (by simp) (by simp)
theorem r19h11111111111110 (ps : List (List D)) (k : Nat) (own fs : List Int) (gs : List (List Int)) (a : Int) (hg : gs.length ≤ 2000000) (hf : fs.length ≤ 2000000) (Q : Exit → St → Prop)
    (hQ : ∀ s', Weak s' ⟨62, [(0, .d (.sl 9 ps)), (2, .pt 2 0), (4, .pt 4 0), (5, aI k), (7, .d (.sl 1 (eI own))), (8, aI a)], [(58, .arr 1 (eI (fs ++ [a]))), (53, .arr 1 (eG (gs ++ [own]))), (4, .var [.ms 53 1 0 (gs.length + 1), .ms 58 1 0 (fs.length + 1)]), (2, .var [aNil, aNil])]⟩ → Q .normal s') : AnyW Try.prog r19ops [true, true, true, true, true, true, true, true, true, true, true, true, true, false] ⟨62, [(0, .d (.sl 9 ps)), (2, .pt 2 0), (4, .pt 4 0), (5, aI k), (7, .d (.sl 1 (eI own))), (8, aI a), (49, .pt 4 0), (53, .ms 53 1 0 (gs.length + 1)), (54, .pt 4 1), (58, .ms 58 1 0 (fs.length + 1)), (59, .pt 4 0), (60, .pt 4 1)], [(52, .arr 1 (eG [own])), (57, .arr 1 (eI [a])), (58, .arr 1 (eI (fs ++ [a]))), (53, .arr 1 (eG (gs ++ [own]))), (4, .var [.ms 53 1 0 (gs.length + 1), .un]), (2, .var [aNil, aNil])]⟩ Q := by
  refine AnyW.step ttOK etOK [13] (by decide +kernel) rfl rfl ?_
  refine AnyW.all1 ?_ ?_
  · refine AnyW.one (o := r19o 13) r19e13 rfl fun K hK => ?_
    simp [r19d13, r19p13, r19g13, and_assoc, eG_take, eI_take, eG_append, eG_one, eI_append, eI_one]
    first | refine hK _ ?_ | refine ⟨by omega, hK _ ?_⟩ | refine ⟨by omega, by omega, hK _ ?_⟩
    refine AnyW.weak ?_ (r19h11111111111111 ps k own fs gs a hg hf Q hQ)
    first | (refine Weak.to2 (Eq.refl _) ?_; simp; done) | exact Weak.to3 (by intro i; simp only [lk]; (repeat' split) <;> first | rfl | omega) (by simp)
  exact AnyW.all0
theorem r19h11111111111100 (ps : List (List D)) (k : Nat) (own fs : List Int) (gs : List (List Int)) (a : Int) (hg : gs.length ≤ 2000000) (hf : fs.length ≤ 2000000) (Q : Exit → St → Prop)
    (hQ : ∀ s', Weak s' ⟨62, [(0, .d (.sl 9 ps)), (2, .pt 2 0), (4, .pt 4 0), (5, aI k), (7, .d (.sl 1 (eI own))), (8, aI a)], [(58, .arr 1 (eI (fs ++ [a]))), (53, .arr 1 (eG (gs ++ [own]))), (4, .var [.ms 53 1 0 (gs.length + 1), .ms 58 1 0 (fs.length + 1)]), (2, .var [aNil, aNil])]⟩ → Q .normal s') : AnyW Try.prog r19ops [true, true, true, true, true, true, true, true, true, true, true, true, false, false] ⟨62, [(0, .d (.sl 9 ps)), (2, .pt 2 0), (4, .pt 4 0), (5, aI k), (7, .d (.sl 1 (eI own))), (8, aI a), (49, .pt 4 0), (53, .ms 53 1 0 (gs.length + 1)), (54, .pt 4 1), (58, .ms 58 1 0 (fs.length + 1)), (59, .pt 4 0)], [(52, .arr 1 (eG [own])), (57, .arr 1 (eI [a])), (58, .arr 1 (eI (fs ++ [a]))), (53, .arr 1 (eG (gs ++ [own]))), (4, .var [.ms 53 1 0 (gs.length + 1), .un]), (2, .var [aNil, aNil])]⟩ Q := by
  refine AnyW.step ttOK etOK [12] (by decide +kernel) rfl rfl ?_
  refine AnyW.all1 ?_ ?_
  · refine AnyW.one (o := r19o 12) r19e12 rfl fun K hK => ?_
    simp [r19d12, r19p12, r19g12, and_assoc, eG_take, eI_take, eG_append, eG_one, eI_append, eI_one]
    first | refine hK _ ?_ | refine ⟨by omega, hK _ ?_⟩ | refine ⟨by omega, by omega, hK _ ?_⟩
    refine AnyW.weak ?_ (r19h11111111111110 ps k own fs gs a hg hf Q hQ)
    first | (refine Weak.to2 (Eq.refl _) ?_; simp; done) | exact Weak.to3 (by intro i; simp only [lk]; (repeat' split) <;> first | rfl | omega) (by simp)
  exact AnyW.all0
theorem r19h11111111111000 (ps : List (List D)) (k : Nat) (own fs : List Int) (gs : List (List Int)) (a : Int) (hg : gs.length ≤ 2000000) (hf : fs.length ≤ 2000000) (Q : Exit → St → Prop)
    (hQ : ∀ s', Weak s' ⟨62, [(0, .d (.sl 9 ps)), (2, .pt 2 0), (4, .pt 4 0), (5, aI k), (7, .d (.sl 1 (eI own))), (8, aI a)], [(58, .arr 1 (eI (fs ++ [a]))), (53, .arr 1 (eG (gs ++ [own]))), (4, .var [.ms 53 1 0 (gs.length + 1), .ms 58 1 0 (fs.length + 1)]), (2, .var [aNil, aNil])]⟩ → Q .normal s') : AnyW Try.prog r19ops [true, true, true, true, true, true, true, true, true, true, true, false, false, false] ⟨62, [(0, .d (.sl 9 ps)), (2, .pt 2 0), (4, .pt 4 0), (5, aI k), (7, .d (.sl 1 (eI own))), (8, aI a), (49, .pt 4 0), (53, .ms 53 1 0 (gs.length + 1)), (54, .pt 4 1), (58, .ms 58 1 0 (fs.length + 1)), (59, .pt 4 0)], [(52, .arr 1 (eG [own])), (57, .arr 1 (eI [a])), (58, .arr 1 (eI (fs ++ [a]))), (53, .arr 1 (eG (gs ++ [own]))), (4, .var [.un, .un]), (2, .var [aNil, aNil])]⟩ Q := by
  refine AnyW.step ttOK etOK [11] (by decide +kernel) rfl rfl ?_
  refine AnyW.all1 ?_ ?_
  · refine AnyW.one (o := r19o 11) r19e11 rfl fun K hK => ?_
    simp [r19d11, r19p11, r19g11, and_assoc, eG_take, eI_take, eG_append, eG_one, eI_append, eI_one]
    first | refine hK _ ?_ | refine ⟨by omega, hK _ ?_⟩ | refine ⟨by omega, by omega, hK _ ?_⟩
    refine AnyW.weak ?_ (r19h11111111111100 ps k own fs gs a hg hf Q hQ)
    first | (refine Weak.to2 (Eq.refl _) ?_; simp; done) | exact Weak.to3 (by intro i; simp only [lk]; (repeat' split) <;> first | rfl | omega) (by simp)
  exact AnyW.all0
theorem r19h11111111110000 (ps : List (List D)) (k : Nat) (own fs : List Int) (gs : List (List Int)) (a : Int) (hg : gs.length ≤ 2000000) (hf : fs.length ≤ 2000000) (Q : Exit → St → Prop)
    (hQ : ∀ s', Weak s' ⟨62, [(0, .d (.sl 9 ps)), (2, .pt 2 0), (4, .pt 4 0), (5, aI k), (7, .d (.sl 1 (eI own))), (8, aI a)], [(58, .arr 1 (eI (fs ++ [a]))), (53, .arr 1 (eG (gs ++ [own]))), (4, .var [.ms 53 1 0 (gs.length + 1), .ms 58 1 0 (fs.length + 1)]), (2, .var [aNil, aNil])]⟩ → Q .normal s') : AnyW Try.prog r19ops [true, true, true, true, true, true, true, true, true, true, false, false, false, false] ⟨62, [(0, .d (.sl 9 ps)), (2, .pt 2 0), (4, .pt 4 0), (5, aI k), (7, .d (.sl 1 (eI own))), (8, aI a), (49, .pt 4 0), (53, .ms 53 1 0 (gs.length + 1)), (54, .pt 4 1), (58, .ms 58 1 0 (fs.length + 1))], [(52, .arr 1 (eG [own])), (57, .arr 1 (eI [a])), (58, .arr 1 (eI (fs ++ [a]))), (53, .arr 1 (eG (gs ++ [own]))), (4, .var [.un, .un]), (2, .var [aNil, aNil])]⟩ Q := by
  refine AnyW.step ttOK etOK [10] (by decide +kernel) rfl rfl ?_
  refine AnyW.all1 ?_ ?_
  · refine AnyW.one (o := r19o 10) r19e10 rfl fun K hK => ?_
    simp [r19d10, r19p10, r19g10, and_assoc, eG_take, eI_take, eG_append, eG_one, eI_append, eI_one]
    first | refine hK _ ?_ | refine ⟨by omega, hK _ ?_⟩ | refine ⟨by omega, by omega, hK _ ?_⟩
    refine AnyW.weak ?_ (r19h11111111111000 ps k own fs gs a hg hf Q hQ)
    first | (refine Weak.to2 (Eq.refl _) ?_; simp; done) | exact Weak.to3 (by intro i; simp only [lk]; (repeat' split) <;> first | rfl | omega) (by simp)
  exact AnyW.all0
theorem r19h11111111101000 (ps : List (List D)) (k : Nat) (own fs : List Int) (gs : List (List Int)) (a : Int) (hg : gs.length ≤ 2000000) (hf : fs.length ≤ 2000000) (Q : Exit → St → Prop)
    (hQ : ∀ s', Weak s' ⟨62, [(0, .d (.sl 9 ps)), (2, .pt 2 0), (4, .pt 4 0), (5, aI k), (7, .d (.sl 1 (eI own))), (8, aI a)], [(58, .arr 1 (eI (fs ++ [a]))), (53, .arr 1 (eG (gs ++ [own]))), (4, .var [.ms 53 1 0 (gs.length + 1), .ms 58 1 0 (fs.length + 1)]), (2, .var [aNil, aNil])]⟩ → Q .normal s') : AnyW Try.prog r19ops [true, true, true, true, true, true, true, true, true, false, true, false, false, false] ⟨62, [(0, .d (.sl 9 ps)), (2, .pt 2 0), (4, .pt 4 0), (5, aI k), (7, .d (.sl 1 (eI own))), (8, aI a), (49, .pt 4 0), (53, .ms 53 1 0 (gs.length + 1)), (54, .pt 4 1), (55, .ms 58 1 0 fs.length), (57, .ms 57 1 0 1), (59, .pt 4 0)], [(52, .arr 1 (eG [own])), (57, .arr 1 (eI [a])), (58, .arr 1 (eI fs)), (53, .arr 1 (eG (gs ++ [own]))), (4, .var [.un, .ms 58 1 0 fs.length]), (2, .var [aNil, aNil])]⟩ Q := by
  refine AnyW.step ttOK etOK [9] (by decide +kernel) rfl rfl ?_
  refine AnyW.all1 ?_ ?_
  · refine AnyW.one (o := r19o 9) r19e9 rfl fun K hK => ?_
    simp [r19d9, r19p9, r19g9, and_assoc, eG_take, eI_take, eG_append, eG_one, eI_append, eI_one]
    first | refine hK _ ?_ | refine ⟨by omega, hK _ ?_⟩ | refine ⟨by omega, by omega, hK _ ?_⟩
    refine AnyW.weak ?_ (r19h11111111111000 ps k own fs gs a hg hf Q hQ)
    first | (refine Weak.to2 (Eq.refl _) ?_; simp; done) | exact Weak.to3 (by intro i; simp only [lk]; (repeat' split) <;> first | rfl | omega) (by simp)
  exact AnyW.all0
theorem r19h11111111100000 (ps : List (List D)) (k : Nat) (own fs : List Int) (gs : List (List Int)) (a : Int) (hg : gs.length ≤ 2000000) (hf : fs.length ≤ 2000000) (Q : Exit → St → Prop)
    (hQ : ∀ s', Weak s' ⟨62, [(0, .d (.sl 9 ps)), (2, .pt 2 0), (4, .pt 4 0), (5, aI k), (7, .d (.sl 1 (eI own))), (8, aI a)], [(58, .arr 1 (eI (fs ++ [a]))), (53, .arr 1 (eG (gs ++ [own]))), (4, .var [.ms 53 1 0 (gs.length + 1), .ms 58 1 0 (fs.length + 1)]), (2, .var [aNil, aNil])]⟩ → Q .normal s') : AnyW Try.prog r19ops [true, true, true, true, true, true, true, true, true, false, false, false, false, false] ⟨62, [(0, .d (.sl 9 ps)), (2, .pt 2 0), (4, .pt 4 0), (5, aI k), (7, .d (.sl 1 (eI own))), (8, aI a), (49, .pt 4 0), (53, .ms 53 1 0 (gs.length + 1)), (54, .pt 4 1), (55, .ms 58 1 0 fs.length), (57, .ms 57 1 0 1)], [(52, .arr 1 (eG [own])), (57, .arr 1 (eI [a])), (58, .arr 1 (eI fs)), (53, .arr 1 (eG (gs ++ [own]))), (4, .var [.un, .ms 58 1 0 fs.length]), (2, .var [aNil, aNil])]⟩ Q := by
  refine AnyW.step ttOK etOK [9, 10] (by decide +kernel) rfl rfl ?_
  refine AnyW.all1 ?_ ?_
  · refine AnyW.one (o := r19o 9) r19e9 rfl fun K hK => ?_
    simp [r19d9, r19p9, r19g9, and_assoc, eG_take, eI_take, eG_append, eG_one, eI_append, eI_one]
    first | refine hK _ ?_ | refine ⟨by omega, hK _ ?_⟩ | refine ⟨by omega, by omega, hK _ ?_⟩
    refine AnyW.weak ?_ (r19h11111111110000 ps k own fs gs a hg hf Q hQ)
    first | (refine Weak.to2 (Eq.refl _) ?_; simp; done) | exact Weak.to3 (by intro i; simp only [lk]; (repeat' split) <;> first | rfl | omega) (by simp)
  refine AnyW.all1 ?_ ?_
  · refine AnyW.one (o := r19o 10) r19e10 rfl fun K hK => ?_
    simp [r19d10, r19p10, r19g10, and_assoc, eG_take, eI_take, eG_append, eG_one, eI_append, eI_one]
    first | refine hK _ ?_ | refine ⟨by omega, hK _ ?_⟩ | refine ⟨by omega, by omega, hK _ ?_⟩
    refine AnyW.weak ?_ (r19h11111111101000 ps k own fs gs a hg hf Q hQ)
    first | (refine Weak.to2 (Eq.refl _) ?_; simp; done) | exact Weak.to3 (by intro i; simp only [lk]; (repeat' split) <;> first | rfl | omega) (by simp)
  exact AnyW.all0
theorem r19h11111111001000 (ps : List (List D)) (k : Nat) (own fs : List Int) (gs : List (List Int)) (a : Int) (hg : gs.length ≤ 2000000) (hf : fs.length ≤ 2000000) (Q : Exit → St → Prop)
    (hQ : ∀ s', Weak s' ⟨62, [(0, .d (.sl 9 ps)), (2, .pt 2 0), (4, .pt 4 0), (5, aI k), (7, .d (.sl 1 (eI own))), (8, aI a)], [(58, .arr 1 (eI (fs ++ [a]))), (53, .arr 1 (eG (gs ++ [own]))), (4, .var [.ms 53 1 0 (gs.length + 1), .ms 58 1 0 (fs.length + 1)]), (2, .var [aNil, aNil])]⟩ → Q .normal s') : AnyW Try.prog r19ops [true, true, true, true, true, true, true, true, false, false, true, false, false, false] ⟨62, [(0, .d (.sl 9 ps)), (2, .pt 2 0), (4, .pt 4 0), (5, aI k), (7, .d (.sl 1 (eI own))), (8, aI a), (49, .pt 4 0), (53, .ms 53 1 0 (gs.length + 1)), (54, .pt 4 1), (55, .ms 58 1 0 fs.length), (56, aI a), (59, .pt 4 0)], [(52, .arr 1 (eG [own])), (58, .arr 1 (eI fs)), (53, .arr 1 (eG (gs ++ [own]))), (4, .var [.un, .ms 58 1 0 fs.length]), (2, .var [aNil, aNil])]⟩ Q := by
  refine AnyW.step ttOK etOK [8] (by decide +kernel) rfl rfl ?_
  refine AnyW.all1 ?_ ?_
  · refine AnyW.one (o := r19o 8) r19e8 rfl fun K hK => ?_
    simp [r19d8, r19p8, r19g8, and_assoc, eG_take, eI_take, eG_append, eG_one, eI_append, eI_one]
    first | refine hK _ ?_ | refine ⟨by omega, hK _ ?_⟩ | refine ⟨by omega, by omega, hK _ ?_⟩
    refine AnyW.weak ?_ (r19h11111111101000 ps k own fs gs a hg hf Q hQ)
    first | (refine Weak.to2 (Eq.refl _) ?_; simp; done) | exact Weak.to3 (by intro i; simp only [lk]; (repeat' split) <;> first | rfl | omega) (by simp)
  exact AnyW.all0
theorem r19h11111111000000 (ps : List (List D)) (k : Nat) (own fs : List Int) (gs : List (List Int)) (a : Int) (hg : gs.length ≤ 2000000) (hf : fs.length ≤ 2000000) (Q : Exit → St → Prop)
    (hQ : ∀ s', Weak s' ⟨62, [(0, .d (.sl 9 ps)), (2, .pt 2 0), (4, .pt 4 0), (5, aI k), (7, .d (.sl 1 (eI own))), (8, aI a)], [(58, .arr 1 (eI (fs ++ [a]))), (53, .arr 1 (eG (gs ++ [own]))), (4, .var [.ms 53 1 0 (gs.length + 1), .ms 58 1 0 (fs.length + 1)]), (2, .var [aNil, aNil])]⟩ → Q .normal s') : AnyW Try.prog r19ops [true, true, true, true, true, true, true, true, false, false, false, false, false, false] ⟨62, [(0, .d (.sl 9 ps)), (2, .pt 2 0), (4, .pt 4 0), (5, aI k), (7, .d (.sl 1 (eI own))), (8, aI a), (49, .pt 4 0), (53, .ms 53 1 0 (gs.length + 1)), (54, .pt 4 1), (55, .ms 58 1 0 fs.length), (56, aI a)], [(52, .arr 1 (eG [own])), (58, .arr 1 (eI fs)), (53, .arr 1 (eG (gs ++ [own]))), (4, .var [.un, .ms 58 1 0 fs.length]), (2, .var [aNil, aNil])]⟩ Q := by
  refine AnyW.step ttOK etOK [8, 10] (by decide +kernel) rfl rfl ?_
  refine AnyW.all1 ?_ ?_
  · refine AnyW.one (o := r19o 8) r19e8 rfl fun K hK => ?_
    simp [r19d8, r19p8, r19g8, and_assoc, eG_take, eI_take, eG_append, eG_one, eI_append, eI_one]
    first | refine hK _ ?_ | refine ⟨by omega, hK _ ?_⟩ | refine ⟨by omega, by omega, hK _ ?_⟩
    refine AnyW.weak ?_ (r19h11111111100000 ps k own fs gs a hg hf Q hQ)
    first | (refine Weak.to2 (Eq.refl _) ?_; simp; done) | exact Weak.to3 (by intro i; simp only [lk]; (repeat' split) <;> first | rfl | omega) (by simp)
  refine AnyW.all1 ?_ ?_
  · refine AnyW.one (o := r19o 10) r19e10 rfl fun K hK => ?_
    simp [r19d10, r19p10, r19g10, and_assoc, eG_take, eI_take, eG_append, eG_one, eI_append, eI_one]
    first | refine hK _ ?_ | refine ⟨by omega, hK _ ?_⟩ | refine ⟨by omega, by omega, hK _ ?_⟩
    refine AnyW.weak ?_ (r19h11111111001000 ps k own fs gs a hg hf Q hQ)
    first | (refine Weak.to2 (Eq.refl _) ?_; simp; done) | exact Weak.to3 (by intro i; simp only [lk]; (repeat' split) <;> first | rfl | omega) (by simp)
  exact AnyW.all0
theorem r19h11111110001000 (ps : List (List D)) (k : Nat) (own fs : List Int) (gs : List (List Int)) (a : Int) (hg : gs.length ≤ 2000000) (hf : fs.length ≤ 2000000) (Q : Exit → St → Prop)
    (hQ : ∀ s', Weak s' ⟨62, [(0, .d (.sl 9 ps)), (2, .pt 2 0), (4, .pt 4 0), (5, aI k), (7, .d (.sl 1 (eI own))), (8, aI a)], [(58, .arr 1 (eI (fs ++ [a]))), (53, .arr 1 (eG (gs ++ [own]))), (4, .var [.ms 53 1 0 (gs.length + 1), .ms 58 1 0 (fs.length + 1)]), (2, .var [aNil, aNil])]⟩ → Q .normal s') : AnyW Try.prog r19ops [true, true, true, true, true, true, true, false, false, false, true, false, false, false] ⟨62, [(0, .d (.sl 9 ps)), (2, .pt 2 0), (4, .pt 4 0), (5, aI k), (7, .d (.sl 1 (eI own))), (8, aI a), (49, .pt 4 0), (53, .ms 53 1 0 (gs.length + 1)), (54, .pt 4 1), (55, .ms 58 1 0 fs.length), (59, .pt 4 0)], [(52, .arr 1 (eG [own])), (58, .arr 1 (eI fs)), (53, .arr 1 (eG (gs ++ [own]))), (4, .var [.un, .ms 58 1 0 fs.length]), (2, .var [aNil, aNil])]⟩ Q := by
  refine AnyW.step ttOK etOK [7] (by decide +kernel) rfl rfl ?_
  refine AnyW.all1 ?_ ?_
  · refine AnyW.one (o := r19o 7) r19e7 rfl fun K hK => ?_
    simp [r19d7, r19p7, r19g7, and_assoc, eG_take, eI_take, eG_append, eG_one, eI_append, eI_one]
    first | refine hK _ ?_ | refine ⟨by omega, hK _ ?_⟩ | refine ⟨by omega, by omega, hK _ ?_⟩
    refine AnyW.weak ?_ (r19h11111111001000 ps k own fs gs a hg hf Q hQ)
    first | (refine Weak.to2 (Eq.refl _) ?_; simp; done) | exact Weak.to3 (by intro i; simp only [lk]; (repeat' split) <;> first | rfl | omega) (by simp)
  exact AnyW.all0
theorem r19h11111101100000 (ps : List (List D)) (k : Nat) (own fs : List Int) (gs : List (List Int)) (a : Int) (hg : gs.length ≤ 2000000) (hf : fs.length ≤ 2000000) (Q : Exit → St → Prop)
    (hQ : ∀ s', Weak s' ⟨62, [(0, .d (.sl 9 ps)), (2, .pt 2 0), (4, .pt 4 0), (5, aI k), (7, .d (.sl 1 (eI own))), (8, aI a)], [(58, .arr 1 (eI (fs ++ [a]))), (53, .arr 1 (eG (gs ++ [own]))), (4, .var [.ms 53 1 0 (gs.length + 1), .ms 58 1 0 (fs.length + 1)]), (2, .var [aNil, aNil])]⟩ → Q .normal s') : AnyW Try.prog r19ops [true, true, true, true, true, true, false, true, true, false, false, false, false, false] ⟨62, [(0, .d (.sl 9 ps)), (2, .pt 2 0), (4, .pt 4 0), (5, aI k), (7, .d (.sl 1 (eI own))), (8, aI a), (49, .pt 4 0), (53, .ms 53 1 0 (gs.length + 1)), (54, .pt 4 1), (57, .ms 57 1 0 1)], [(52, .arr 1 (eG [own])), (57, .arr 1 (eI [a])), (58, .arr 1 (eI fs)), (53, .arr 1 (eG (gs ++ [own]))), (4, .var [.un, .ms 58 1 0 fs.length]), (2, .var [aNil, aNil])]⟩ Q := by
  refine AnyW.step ttOK etOK [6] (by decide +kernel) rfl rfl ?_
  refine AnyW.all1 ?_ ?_
  · refine AnyW.one (o := r19o 6) r19e6 rfl fun K hK => ?_
    simp [r19d6, r19p6, r19g6, and_assoc, eG_take, eI_take, eG_append, eG_one, eI_append, eI_one]
    first | refine hK _ ?_ | refine ⟨by omega, hK _ ?_⟩ | refine ⟨by omega, by omega, hK _ ?_⟩
    refine AnyW.weak ?_ (r19h11111111100000 ps k own fs gs a hg hf Q hQ)
    first | (refine Weak.to2 (Eq.refl _) ?_; simp; done) | exact Weak.to3 (by intro i; simp only [lk]; (repeat' split) <;> first | rfl | omega) (by simp)
  exact AnyW.all0
theorem r19h11110111100000 (ps : List (List D)) (k : Nat) (own fs : List Int) (gs : List (List Int)) (a : Int) (hg : gs.length ≤ 2000000) (hf : fs.length ≤ 2000000) (Q : Exit → St → Prop)
    (hQ : ∀ s', Weak s' ⟨62, [(0, .d (.sl 9 ps)), (2, .pt 2 0), (4, .pt 4 0), (5, aI k), (7, .d (.sl 1 (eI own))), (8, aI a)], [(58, .arr 1 (eI (fs ++ [a]))), (53, .arr 1 (eG (gs ++ [own]))), (4, .var [.ms 53 1 0 (gs.length + 1), .ms 58 1 0 (fs.length + 1)]), (2, .var [aNil, aNil])]⟩ → Q .normal s') : AnyW Try.prog r19ops [true, true, true, true, false, true, true, true, true, false, false, false, false, false] ⟨62, [(0, .d (.sl 9 ps)), (2, .pt 2 0), (4, .pt 4 0), (5, aI k), (7, .d (.sl 1 (eI own))), (8, aI a), (49, .pt 4 0), (50, .ms 53 1 0 gs.length), (52, .ms 52 1 0 1), (54, .pt 4 1), (55, .ms 58 1 0 fs.length), (57, .ms 57 1 0 1)], [(52, .arr 1 (eG [own])), (57, .arr 1 (eI [a])), (58, .arr 1 (eI fs)), (53, .arr 1 (eG gs)), (4, .var [.ms 53 1 0 gs.length, .ms 58 1 0 fs.length]), (2, .var [aNil, aNil])]⟩ Q := by
  refine AnyW.step ttOK etOK [4] (by decide +kernel) rfl rfl ?_
  refine AnyW.all1 ?_ ?_
  · refine AnyW.one (o := r19o 4) r19e4 rfl fun K hK => ?_
    simp [r19d4, r19p4, r19g4, and_assoc, eG_take, eI_take, eG_append, eG_one, eI_append, eI_one]
    first | refine hK _ ?_ | refine ⟨by omega, hK _ ?_⟩ | refine ⟨by omega, by omega, hK _ ?_⟩
    refine AnyW.weak ?_ (r19h11111111100000 ps k own fs gs a hg hf Q hQ)
    first | (refine Weak.to2 (Eq.refl _) ?_; simp; done) | exact Weak.to3 (by intro i; simp only [lk]; (repeat' split) <;> first | rfl | omega) (by simp)
  exact AnyW.all0
theorem r19h11111110000000 (ps : List (List D)) (k : Nat) (own fs : List Int) (gs : List (List Int)) (a : Int) (hg : gs.length ≤ 2000000) (hf : fs.length ≤ 2000000) (Q : Exit → St → Prop)
    (hQ : ∀ s', Weak s' ⟨62, [(0, .d (.sl 9 ps)), (2, .pt 2 0), (4, .pt 4 0), (5, aI k), (7, .d (.sl 1 (eI own))), (8, aI a)], [(58, .arr 1 (eI (fs ++ [a]))), (53, .arr 1 (eG (gs ++ [own]))), (4, .var [.ms 53 1 0 (gs.length + 1), .ms 58 1 0 (fs.length + 1)]), (2, .var [aNil, aNil])]⟩ → Q .normal s') : AnyW Try.prog r19ops [true, true, true, true, true, true, true, false, false, false, false, false, false, false] ⟨62, [(0, .d (.sl 9 ps)), (2, .pt 2 0), (4, .pt 4 0), (5, aI k), (7, .d (.sl 1 (eI own))), (8, aI a), (49, .pt 4 0), (53, .ms 53 1 0 (gs.length + 1)), (54, .pt 4 1), (55, .ms 58 1 0 fs.length)], [(52, .arr 1 (eG [own])), (58, .arr 1 (eI fs)), (53, .arr 1 (eG (gs ++ [own]))), (4, .var [.un, .ms 58 1 0 fs.length]), (2, .var [aNil, aNil])]⟩ Q := by
  refine AnyW.step ttOK etOK [7, 10] (by decide +kernel) rfl rfl ?_
  refine AnyW.all1 ?_ ?_
  · refine AnyW.one (o := r19o 7) r19e7 rfl fun K hK => ?_
    simp [r19d7, r19p7, r19g7, and_assoc, eG_take, eI_take, eG_append, eG_one, eI_append, eI_one]
    first | refine hK _ ?_ | refine ⟨by omega, hK _ ?_⟩ | refine ⟨by omega, by omega, hK _ ?_⟩
    refine AnyW.weak ?_ (r19h11111111000000 ps k own fs gs a hg hf Q hQ)
    first | (refine Weak.to2 (Eq.refl _) ?_; simp; done) | exact Weak.to3 (by intro i; simp only [lk]; (repeat' split) <;> first | rfl | omega) (by simp)
  refine AnyW.all1 ?_ ?_
  · refine AnyW.one (o := r19o 10) r19e10 rfl fun K hK => ?_
    simp [r19d10, r19p10, r19g10, and_assoc, eG_take, eI_take, eG_append, eG_one, eI_append, eI_one]
    first | refine hK _ ?_ | refine ⟨by omega, hK _ ?_⟩ | refine ⟨by omega, by omega, hK _ ?_⟩
    refine AnyW.weak ?_ (r19h11111110001000 ps k own fs gs a hg hf Q hQ)
    first | (refine Weak.to2 (Eq.refl _) ?_; simp; done) | exact Weak.to3 (by intro i; simp only [lk]; (repeat' split) <;> first | rfl | omega) (by simp)
  exact AnyW.all0
theorem r19h11111101000000 (ps : List (List D)) (k : Nat) (own fs : List Int) (gs : List (List Int)) (a : Int) (hg : gs.length ≤ 2000000) (hf : fs.length ≤ 2000000) (Q : Exit → St → Prop)
    (hQ : ∀ s', Weak s' ⟨62, [(0, .d (.sl 9 ps)), (2, .pt 2 0), (4, .pt 4 0), (5, aI k), (7, .d (.sl 1 (eI own))), (8, aI a)], [(58, .arr 1 (eI (fs ++ [a]))), (53, .arr 1 (eG (gs ++ [own]))), (4, .var [.ms 53 1 0 (gs.length + 1), .ms 58 1 0 (fs.length + 1)]), (2, .var [aNil, aNil])]⟩ → Q .normal s') : AnyW Try.prog r19ops [true, true, true, true, true, true, false, true, false, false, false, false, false, false] ⟨62, [(0, .d (.sl 9 ps)), (2, .pt 2 0), (4, .pt 4 0), (5, aI k), (7, .d (.sl 1 (eI own))), (8, aI a), (49, .pt 4 0), (53, .ms 53 1 0 (gs.length + 1)), (54, .pt 4 1), (56, aI a)], [(52, .arr 1 (eG [own])), (58, .arr 1 (eI fs)), (53, .arr 1 (eG (gs ++ [own]))), (4, .var [.un, .ms 58 1 0 fs.length]), (2, .var [aNil, aNil])]⟩ Q := by
  refine AnyW.step ttOK etOK [6, 8] (by decide +kernel) rfl rfl ?_
  refine AnyW.all1 ?_ ?_
  · refine AnyW.one (o := r19o 6) r19e6 rfl fun K hK => ?_
    simp [r19d6, r19p6, r19g6, and_assoc, eG_take, eI_take, eG_append, eG_one, eI_append, eI_one]
    first | refine hK _ ?_ | refine ⟨by omega, hK _ ?_⟩ | refine ⟨by omega, by omega, hK _ ?_⟩
    refine AnyW.weak ?_ (r19h11111111000000 ps k own fs gs a hg hf Q hQ)
    first | (refine Weak.to2 (Eq.refl _) ?_; simp; done) | exact Weak.to3 (by intro i; simp only [lk]; (repeat' split) <;> first | rfl | omega) (by simp)
  refine AnyW.all1 ?_ ?_
  · refine AnyW.one (o := r19o 8) r19e8 rfl fun K hK => ?_
    simp [r19d8, r19p8, r19g8, and_assoc, eG_take, eI_take, eG_append, eG_one, eI_append, eI_one]
    first | refine hK _ ?_ | refine ⟨by omega, hK _ ?_⟩ | refine ⟨by omega, by omega, hK _ ?_⟩
    refine AnyW.weak ?_ (r19h11111101100000 ps k own fs gs a hg hf Q hQ)
    first | (refine Weak.to2 (Eq.refl _) ?_; simp; done) | exact Weak.to3 (by intro i; simp only [lk]; (repeat' split) <;> first | rfl | omega) (by simp)
  exact AnyW.all0
theorem r19h11111001100000 (ps : List (List D)) (k : Nat) (own fs : List Int) (gs : List (List Int)) (a : Int) (hg : gs.length ≤ 2000000) (hf : fs.length ≤ 2000000) (Q : Exit → St → Prop)
    (hQ : ∀ s', Weak s' ⟨62, [(0, .d (.sl 9 ps)), (2, .pt 2 0), (4, .pt 4 0), (5, aI k), (7, .d (.sl 1 (eI own))), (8, aI a)], [(58, .arr 1 (eI (fs ++ [a]))), (53, .arr 1 (eG (gs ++ [own]))), (4, .var [.ms 53 1 0 (gs.length + 1), .ms 58 1 0 (fs.length + 1)]), (2, .var [aNil, aNil])]⟩ → Q .normal s') : AnyW Try.prog r19ops [true, true, true, true, true, false, false, true, true, false, false, false, false, false] ⟨62, [(0, .d (.sl 9 ps)), (2, .pt 2 0), (4, .pt 4 0), (5, aI k), (7, .d (.sl 1 (eI own))), (8, aI a), (49, .pt 4 0), (53, .ms 53 1 0 (gs.length + 1)), (57, .ms 57 1 0 1)], [(52, .arr 1 (eG [own])), (57, .arr 1 (eI [a])), (58, .arr 1 (eI fs)), (53, .arr 1 (eG (gs ++ [own]))), (4, .var [.un, .ms 58 1 0 fs.length]), (2, .var [aNil, aNil])]⟩ Q := by
  refine AnyW.step ttOK etOK [5] (by decide +kernel) rfl rfl ?_
  refine AnyW.all1 ?_ ?_
  · refine AnyW.one (o := r19o 5) r19e5 rfl fun K hK => ?_
    simp [r19d5, r19p5, r19g5, and_assoc, eG_take, eI_take, eG_append, eG_one, eI_append, eI_one]
    first | refine hK _ ?_ | refine ⟨by omega, hK _ ?_⟩ | refine ⟨by omega, by omega, hK _ ?_⟩
    refine AnyW.weak ?_ (r19h11111101100000 ps k own fs gs a hg hf Q hQ)
    first | (refine Weak.to2 (Eq.refl _) ?_; simp; done) | exact Weak.to3 (by intro i; simp only [lk]; (repeat' split) <;> first | rfl | omega) (by simp)
  exact AnyW.all0
theorem r19h11110111000000 (ps : List (List D)) (k : Nat) (own fs : List Int) (gs : List (List Int)) (a : Int) (hg : gs.length ≤ 2000000) (hf : fs.length ≤ 2000000) (Q : Exit → St → Prop)
    (hQ : ∀ s', Weak s' ⟨62, [(0, .d (.sl 9 ps)), (2, .pt 2 0), (4, .pt 4 0), (5, aI k), (7, .d (.sl 1 (eI own))), (8, aI a)], [(58, .arr 1 (eI (fs ++ [a]))), (53, .arr 1 (eG (gs ++ [own]))), (4, .var [.ms 53 1 0 (gs.length + 1), .ms 58 1 0 (fs.length + 1)]), (2, .var [aNil, aNil])]⟩ → Q .normal s') : AnyW Try.prog r19ops [true, true, true, true, false, true, true, true, false, false, false, false, false, false] ⟨62, [(0, .d (.sl 9 ps)), (2, .pt 2 0), (4, .pt 4 0), (5, aI k), (7, .d (.sl 1 (eI own))), (8, aI a), (49, .pt 4 0), (50, .ms 53 1 0 gs.length), (52, .ms 52 1 0 1), (54, .pt 4 1), (55, .ms 58 1 0 fs.length), (56, aI a)], [(52, .arr 1 (eG [own])), (58, .arr 1 (eI fs)), (53, .arr 1 (eG gs)), (4, .var [.ms 53 1 0 gs.length, .ms 58 1 0 fs.length]), (2, .var [aNil, aNil])]⟩ Q := by
  refine AnyW.step ttOK etOK [4, 8] (by decide +kernel) rfl rfl ?_
  refine AnyW.all1 ?_ ?_
  · refine AnyW.one (o := r19o 4) r19e4 rfl fun K hK => ?_
    simp [r19d4, r19p4, r19g4, and_assoc, eG_take, eI_take, eG_append, eG_one, eI_append, eI_one]
    first | refine hK _ ?_ | refine ⟨by omega, hK _ ?_⟩ | refine ⟨by omega, by omega, hK _ ?_⟩
    refine AnyW.weak ?_ (r19h11111111000000 ps k own fs gs a hg hf Q hQ)
    first | (refine Weak.to2 (Eq.refl _) ?_; simp; done) | exact Weak.to3 (by intro i; simp only [lk]; (repeat' split) <;> first | rfl | omega) (by simp)
  refine AnyW.all1 ?_ ?_
  · refine AnyW.one (o := r19o 8) r19e8 rfl fun K hK => ?_
    simp [r19d8, r19p8, r19g8, and_assoc, eG_take, eI_take, eG_append, eG_one, eI_append, eI_one]
    first | refine hK _ ?_ | refine ⟨by omega, hK _ ?_⟩ | refine ⟨by omega, by omega, hK _ ?_⟩
    refine AnyW.weak ?_ (r19h11110111100000 ps k own fs gs a hg hf Q hQ)
    first | (refine Weak.to2 (Eq.refl _) ?_; simp; done) | exact Weak.to3 (by intro i; simp only [lk]; (repeat' split) <;> first | rfl | omega) (by simp)
  exact AnyW.all0
theorem r19h11110101100000 (ps : List (List D)) (k : Nat) (own fs : List Int) (gs : List (List Int)) (a : Int) (hg : gs.length ≤ 2000000) (hf : fs.length ≤ 2000000) (Q : Exit → St → Prop)
    (hQ : ∀ s', Weak s' ⟨62, [(0, .d (.sl 9 ps)), (2, .pt 2 0), (4, .pt 4 0), (5, aI k), (7, .d (.sl 1 (eI own))), (8, aI a)], [(58, .arr 1 (eI (fs ++ [a]))), (53, .arr 1 (eG (gs ++ [own]))), (4, .var [.ms 53 1 0 (gs.length + 1), .ms 58 1 0 (fs.length + 1)]), (2, .var [aNil, aNil])]⟩ → Q .normal s') : AnyW Try.prog r19ops [true, true, true, true, false, true, false, true, true, false, false, false, false, false] ⟨62, [(0, .d (.sl 9 ps)), (2, .pt 2 0), (4, .pt 4 0), (5, aI k), (7, .d (.sl 1 (eI own))), (8, aI a), (49, .pt 4 0), (50, .ms 53 1 0 gs.length), (52, .ms 52 1 0 1), (54, .pt 4 1), (57, .ms 57 1 0 1)], [(52, .arr 1 (eG [own])), (57, .arr 1 (eI [a])), (58, .arr 1 (eI fs)), (53, .arr 1 (eG gs)), (4, .var [.ms 53 1 0 gs.length, .ms 58 1 0 fs.length]), (2, .var [aNil, aNil])]⟩ Q := by
  refine AnyW.step ttOK etOK [4, 6] (by decide +kernel) rfl rfl ?_
  refine AnyW.all1 ?_ ?_
  · refine AnyW.one (o := r19o 4) r19e4 rfl fun K hK => ?_
    simp [r19d4, r19p4, r19g4, and_assoc, eG_take, eI_take, eG_append, eG_one, eI_append, eI_one]
    first | refine hK _ ?_ | refine ⟨by omega, hK _ ?_⟩ | refine ⟨by omega, by omega, hK _ ?_⟩
    refine AnyW.weak ?_ (r19h11111101100000 ps k own fs gs a hg hf Q hQ)
    first | (refine Weak.to2 (Eq.refl _) ?_; simp; done) | exact Weak.to3 (by intro i; simp only [lk]; (repeat' split) <;> first | rfl | omega) (by simp)
  refine AnyW.all1 ?_ ?_
  · refine AnyW.one (o := r19o 6) r19e6 rfl fun K hK => ?_
    simp [r19d6, r19p6, r19g6, and_assoc, eG_take, eI_take, eG_append, eG_one, eI_append, eI_one]
    first | refine hK _ ?_ | refine ⟨by omega, hK _ ?_⟩ | refine ⟨by omega, by omega, hK _ ?_⟩
    refine AnyW.weak ?_ (r19h11110111100000 ps k own fs gs a hg hf Q hQ)
    first | (refine Weak.to2 (Eq.refl _) ?_; simp; done) | exact Weak.to3 (by intro i; simp only [lk]; (repeat' split) <;> first | rfl | omega) (by simp)
  exact AnyW.all0
theorem r19h11100111100000 (ps : List (List D)) (k : Nat) (own fs : List Int) (gs : List (List Int)) (a : Int) (hg : gs.length ≤ 2000000) (hf : fs.length ≤ 2000000) (Q : Exit → St → Prop)
    (hQ : ∀ s', Weak s' ⟨62, [(0, .d (.sl 9 ps)), (2, .pt 2 0), (4, .pt 4 0), (5, aI k), (7, .d (.sl 1 (eI own))), (8, aI a)], [(58, .arr 1 (eI (fs ++ [a]))), (53, .arr 1 (eG (gs ++ [own]))), (4, .var [.ms 53 1 0 (gs.length + 1), .ms 58 1 0 (fs.length + 1)]), (2, .var [aNil, aNil])]⟩ → Q .normal s') : AnyW Try.prog r19ops [true, true, true, false, false, true, true, true, true, false, false, false, false, false] ⟨62, [(0, .d (.sl 9 ps)), (2, .pt 2 0), (4, .pt 4 0), (5, aI k), (7, .d (.sl 1 (eI own))), (8, aI a), (49, .pt 4 0), (50, .ms 53 1 0 gs.length), (51, .d (.sl 1 (eI own))), (54, .pt 4 1), (55, .ms 58 1 0 fs.length), (57, .ms 57 1 0 1)], [(57, .arr 1 (eI [a])), (58, .arr 1 (eI fs)), (53, .arr 1 (eG gs)), (4, .var [.ms 53 1 0 gs.length, .ms 58 1 0 fs.length]), (2, .var [aNil, aNil])]⟩ Q := by
  refine AnyW.step ttOK etOK [3] (by decide +kernel) rfl rfl ?_
  refine AnyW.all1 ?_ ?_
  · refine AnyW.one (o := r19o 3) r19e3 rfl fun K hK => ?_
    simp [r19d3, r19p3, r19g3, and_assoc, eG_take, eI_take, eG_append, eG_one, eI_append, eI_one]
    first | refine hK _ ?_ | refine ⟨by omega, hK _ ?_⟩ | refine ⟨by omega, by omega, hK _ ?_⟩
    refine AnyW.weak ?_ (r19h11110111100000 ps k own fs gs a hg hf Q hQ)
    first | (refine Weak.to2 (Eq.refl _) ?_; simp; done) | exact Weak.to3 (by intro i; simp only [lk]; (repeat' split) <;> first | rfl | omega) (by simp)
  exact AnyW.all0
theorem r19h10110111100000 (ps : List (List D)) (k : Nat) (own fs : List Int) (gs : List (List Int)) (a : Int) (hg : gs.length ≤ 2000000) (hf : fs.length ≤ 2000000) (Q : Exit → St → Prop)
    (hQ : ∀ s', Weak s' ⟨62, [(0, .d (.sl 9 ps)), (2, .pt 2 0), (4, .pt 4 0), (5, aI k), (7, .d (.sl 1 (eI own))), (8, aI a)], [(58, .arr 1 (eI (fs ++ [a]))), (53, .arr 1 (eG (gs ++ [own]))), (4, .var [.ms 53 1 0 (gs.length + 1), .ms 58 1 0 (fs.length + 1)]), (2, .var [aNil, aNil])]⟩ → Q .normal s') : AnyW Try.prog r19ops [true, false, true, true, false, true, true, true, true, false, false, false, false, false] ⟨62, [(0, .d (.sl 9 ps)), (2, .pt 2 0), (4, .pt 4 0), (5, aI k), (7, .d (.sl 1 (eI own))), (8, aI a), (49, .pt 4 0), (52, .ms 52 1 0 1), (54, .pt 4 1), (55, .ms 58 1 0 fs.length), (57, .ms 57 1 0 1)], [(52, .arr 1 (eG [own])), (57, .arr 1 (eI [a])), (58, .arr 1 (eI fs)), (53, .arr 1 (eG gs)), (4, .var [.ms 53 1 0 gs.length, .ms 58 1 0 fs.length]), (2, .var [aNil, aNil])]⟩ Q := by
  refine AnyW.step ttOK etOK [1] (by decide +kernel) rfl rfl ?_
  refine AnyW.all1 ?_ ?_
  · refine AnyW.one (o := r19o 1) r19e1 rfl fun K hK => ?_
    simp [r19d1, r19p1, r19g1, and_assoc, eG_take, eI_take, eG_append, eG_one, eI_append, eI_one]
    first | refine hK _ ?_ | refine ⟨by omega, hK _ ?_⟩ | refine ⟨by omega, by omega, hK _ ?_⟩
    refine AnyW.weak ?_ (r19h11110111100000 ps k own fs gs a hg hf Q hQ)
    first | (refine Weak.to2 (Eq.refl _) ?_; simp; done) | exact Weak.to3 (by intro i; simp only [lk]; (repeat' split) <;> first | rfl | omega) (by simp)
  exact AnyW.all0
theorem r19h11111100000000 (ps : List (List D)) (k : Nat) (own fs : List Int) (gs : List (List Int)) (a : Int) (hg : gs.length ≤ 2000000) (hf : fs.length ≤ 2000000) (Q : Exit → St → Prop)
    (hQ : ∀ s', Weak s' ⟨62, [(0, .d (.sl 9 ps)), (2, .pt 2 0), (4, .pt 4 0), (5, aI k), (7, .d (.sl 1 (eI own))), (8, aI a)], [(58, .arr 1 (eI (fs ++ [a]))), (53, .arr 1 (eG (gs ++ [own]))), (4, .var [.ms 53 1 0 (gs.length + 1), .ms 58 1 0 (fs.length + 1)]), (2, .var [aNil, aNil])]⟩ → Q .normal s') : AnyW Try.prog r19ops [true, true, true, true, true, true, false, false, false, false, false, false, false, false] ⟨62, [(0, .d (.sl 9 ps)), (2, .pt 2 0), (4, .pt 4 0), (5, aI k), (7, .d (.sl 1 (eI own))), (8, aI a), (49, .pt 4 0), (53, .ms 53 1 0 (gs.length + 1)), (54, .pt 4 1)], [(52, .arr 1 (eG [own])), (58, .arr 1 (eI fs)), (53, .arr 1 (eG (gs ++ [own]))), (4, .var [.un, .ms 58 1 0 fs.length]), (2, .var [aNil, aNil])]⟩ Q := by
  refine AnyW.step ttOK etOK [6, 7] (by decide +kernel) rfl rfl ?_
  refine AnyW.all1 ?_ ?_
  · refine AnyW.one (o := r19o 6) r19e6 rfl fun K hK => ?_
    simp [r19d6, r19p6, r19g6, and_assoc, eG_take, eI_take, eG_append, eG_one, eI_append, eI_one]
    first | refine hK _ ?_ | refine ⟨by omega, hK _ ?_⟩ | refine ⟨by omega, by omega, hK _ ?_⟩
    refine AnyW.weak ?_ (r19h11111110000000 ps k own fs gs a hg hf Q hQ)
    first | (refine Weak.to2 (Eq.refl _) ?_; simp; done) | exact Weak.to3 (by intro i; simp only [lk]; (repeat' split) <;> first | rfl | omega) (by simp)
  refine AnyW.all1 ?_ ?_
  · refine AnyW.one (o := r19o 7) r19e7 rfl fun K hK => ?_
    simp [r19d7, r19p7, r19g7, and_assoc, eG_take, eI_take, eG_append, eG_one, eI_append, eI_one]
    first | refine hK _ ?_ | refine ⟨by omega, hK _ ?_⟩ | refine ⟨by omega, by omega, hK _ ?_⟩
    refine AnyW.weak ?_ (r19h11111101000000 ps k own fs gs a hg hf Q hQ)
    first | (refine Weak.to2 (Eq.refl _) ?_; simp; done) | exact Weak.to3 (by intro i; simp only [lk]; (repeat' split) <;> first | rfl | omega) (by simp)
  exact AnyW.all0
theorem r19h11111001000000 (ps : List (List D)) (k : Nat) (own fs : List Int) (gs : List (List Int)) (a : Int) (hg : gs.length ≤ 2000000) (hf : fs.length ≤ 2000000) (Q : Exit → St → Prop)
    (hQ : ∀ s', Weak s' ⟨62, [(0, .d (.sl 9 ps)), (2, .pt 2 0), (4, .pt 4 0), (5, aI k), (7, .d (.sl 1 (eI own))), (8, aI a)], [(58, .arr 1 (eI (fs ++ [a]))), (53, .arr 1 (eG (gs ++ [own]))), (4, .var [.ms 53 1 0 (gs.length + 1), .ms 58 1 0 (fs.length + 1)]), (2, .var [aNil, aNil])]⟩ → Q .normal s') : AnyW Try.prog r19ops [true, true, true, true, true, false, false, true, false, false, false, false, false, false] ⟨62, [(0, .d (.sl 9 ps)), (2, .pt 2 0), (4, .pt 4 0), (5, aI k), (7, .d (.sl 1 (eI own))), (8, aI a), (49, .pt 4 0), (53, .ms 53 1 0 (gs.length + 1)), (56, aI a)], [(52, .arr 1 (eG [own])), (58, .arr 1 (eI fs)), (53, .arr 1 (eG (gs ++ [own]))), (4, .var [.un, .ms 58 1 0 fs.length]), (2, .var [aNil, aNil])]⟩ Q := by
  refine AnyW.step ttOK etOK [5, 8] (by decide +kernel) rfl rfl ?_
  refine AnyW.all1 ?_ ?_
  · refine AnyW.one (o := r19o 5) r19e5 rfl fun K hK => ?_
    simp [r19d5, r19p5, r19g5, and_assoc, eG_take, eI_take, eG_append, eG_one, eI_append, eI_one]
    first | refine hK _ ?_ | refine ⟨by omega, hK _ ?_⟩ | refine ⟨by omega, by omega, hK _ ?_⟩
    refine AnyW.weak ?_ (r19h11111101000000 ps k own fs gs a hg hf Q hQ)
    first | (refine Weak.to2 (Eq.refl _) ?_; simp; done) | exact Weak.to3 (by intro i; simp only [lk]; (repeat' split) <;> first | rfl | omega) (by simp)
  refine AnyW.all1 ?_ ?_
  · refine AnyW.one (o := r19o 8) r19e8 rfl fun K hK => ?_
    simp [r19d8, r19p8, r19g8, and_assoc, eG_take, eI_take, eG_append, eG_one, eI_append, eI_one]
    first | refine hK _ ?_ | refine ⟨by omega, hK _ ?_⟩ | refine ⟨by omega, by omega, hK _ ?_⟩
    refine AnyW.weak ?_ (r19h11111001100000 ps k own fs gs a hg hf Q hQ)
    first | (refine Weak.to2 (Eq.refl _) ?_; simp; done) | exact Weak.to3 (by intro i; simp only [lk]; (repeat' split) <;> first | rfl | omega) (by simp)
  exact AnyW.all0
theorem r19h11110110000000 (ps : List (List D)) (k : Nat) (own fs : List Int) (gs : List (List Int)) (a : Int) (hg : gs.length ≤ 2000000) (hf : fs.length ≤ 2000000) (Q : Exit → St → Prop)
    (hQ : ∀ s', Weak s' ⟨62, [(0, .d (.sl 9 ps)), (2, .pt 2 0), (4, .pt 4 0), (5, aI k), (7, .d (.sl 1 (eI own))), (8, aI a)], [(58, .arr 1 (eI (fs ++ [a]))), (53, .arr 1 (eG (gs ++ [own]))), (4, .var [.ms 53 1 0 (gs.length + 1), .ms 58 1 0 (fs.length + 1)]), (2, .var [aNil, aNil])]⟩ → Q .normal s') : AnyW Try.prog r19ops [true, true, true, true, false, true, true, false, false, false, false, false, false, false] ⟨62, [(0, .d (.sl 9 ps)), (2, .pt 2 0), (4, .pt 4 0), (5, aI k), (7, .d (.sl 1 (eI own))), (8, aI a), (49, .pt 4 0), (50, .ms 53 1 0 gs.length), (52, .ms 52 1 0 1), (54, .pt 4 1), (55, .ms 58 1 0 fs.length)], [(52, .arr 1 (eG [own])), (58, .arr 1 (eI fs)), (53, .arr 1 (eG gs)), (4, .var [.ms 53 1 0 gs.length, .ms 58 1 0 fs.length]), (2, .var [aNil, aNil])]⟩ Q := by
  refine AnyW.step ttOK etOK [4, 7] (by decide +kernel) rfl rfl ?_
  refine AnyW.all1 ?_ ?_
  · refine AnyW.one (o := r19o 4) r19e4 rfl fun K hK => ?_
    simp [r19d4, r19p4, r19g4, and_assoc, eG_take, eI_take, eG_append, eG_one, eI_append, eI_one]
    first | refine hK _ ?_ | refine ⟨by omega, hK _ ?_⟩ | refine ⟨by omega, by omega, hK _ ?_⟩
    refine AnyW.weak ?_ (r19h11111110000000 ps k own fs gs a hg hf Q hQ)
    first | (refine Weak.to2 (Eq.refl _) ?_; simp; done) | exact Weak.to3 (by intro i; simp only [lk]; (repeat' split) <;> first | rfl | omega) (by simp)
  refine AnyW.all1 ?_ ?_
  · refine AnyW.one (o := r19o 7) r19e7 rfl fun K hK => ?_
    simp [r19d7, r19p7, r19g7, and_assoc, eG_take, eI_take, eG_append, eG_one, eI_append, eI_one]
    first | refine hK _ ?_ | refine ⟨by omega, hK _ ?_⟩ | refine ⟨by omega, by omega, hK _ ?_⟩
    refine AnyW.weak ?_ (r19h11110111000000 ps k own fs gs a hg hf Q hQ)
    first | (refine Weak.to2 (Eq.refl _) ?_; simp; done) | exact Weak.to3 (by intro i; simp only [lk]; (repeat' split) <;> first | rfl | omega) (by simp)
  exact AnyW.all0
theorem r19h11110101000000 (ps : List (List D)) (k : Nat) (own fs : List Int) (gs : List (List Int)) (a : Int) (hg : gs.length ≤ 2000000) (hf : fs.length ≤ 2000000) (Q : Exit → St → Prop)
    (hQ : ∀ s', Weak s' ⟨62, [(0, .d (.sl 9 ps)), (2, .pt 2 0), (4, .pt 4 0), (5, aI k), (7, .d (.sl 1 (eI own))), (8, aI a)], [(58, .arr 1 (eI (fs ++ [a]))), (53, .arr 1 (eG (gs ++ [own]))), (4, .var [.ms 53 1 0 (gs.length + 1), .ms 58 1 0 (fs.length + 1)]), (2, .var [aNil, aNil])]⟩ → Q .normal s') : AnyW Try.prog r19ops [true, true, true, true, false, true, false, true, false, false, false, false, false, false] ⟨62, [(0, .d (.sl 9 ps)), (2, .pt 2 0), (4, .pt 4 0), (5, aI k), (7, .d (.sl 1 (eI own))), (8, aI a), (49, .pt 4 0), (50, .ms 53 1 0 gs.length), (52, .ms 52 1 0 1), (54, .pt 4 1), (56, aI a)], [(52, .arr 1 (eG [own])), (58, .arr 1 (eI fs)), (53, .arr 1 (eG gs)), (4, .var [.ms 53 1 0 gs.length, .ms 58 1 0 fs.length]), (2, .var [aNil, aNil])]⟩ Q := by
  refine AnyW.step ttOK etOK [4, 6, 8] (by decide +kernel) rfl rfl ?_
  refine AnyW.all1 ?_ ?_
  · refine AnyW.one (o := r19o 4) r19e4 rfl fun K hK => ?_
    simp [r19d4, r19p4, r19g4, and_assoc, eG_take, eI_take, eG_append, eG_one, eI_append, eI_one]
    first | refine hK _ ?_ | refine ⟨by omega, hK _ ?_⟩ | refine ⟨by omega, by omega, hK _ ?_⟩
    refine AnyW.weak ?_ (r19h11111101000000 ps k own fs gs a hg hf Q hQ)
    first | (refine Weak.to2 (Eq.refl _) ?_; simp; done) | exact Weak.to3 (by intro i; simp only [lk]; (repeat' split) <;> first | rfl | omega) (by simp)
  refine AnyW.all1 ?_ ?_
  · refine AnyW.one (o := r19o 6) r19e6 rfl fun K hK => ?_
    simp [r19d6, r19p6, r19g6, and_assoc, eG_take, eI_take, eG_append, eG_one, eI_append, eI_one]
    first | refine hK _ ?_ | refine ⟨by omega, hK _ ?_⟩ | refine ⟨by omega, by omega, hK _ ?_⟩
    refine AnyW.weak ?_ (r19h11110111000000 ps k own fs gs a hg hf Q hQ)
    first | (refine Weak.to2 (Eq.refl _) ?_; simp; done) | exact Weak.to3 (by intro i; simp only [lk]; (repeat' split) <;> first | rfl | omega) (by simp)
  refine AnyW.all1 ?_ ?_
  · refine AnyW.one (o := r19o 8) r19e8 rfl fun K hK => ?_
    simp [r19d8, r19p8, r19g8, and_assoc, eG_take, eI_take, eG_append, eG_one, eI_append, eI_one]
    first | refine hK _ ?_ | refine ⟨by omega, hK _ ?_⟩ | refine ⟨by omega, by omega, hK _ ?_⟩
    refine AnyW.weak ?_ (r19h11110101100000 ps k own fs gs a hg hf Q hQ)
    first | (refine Weak.to2 (Eq.refl _) ?_; simp; done) | exact Weak.to3 (by intro i; simp only [lk]; (repeat' split) <;> first | rfl | omega) (by simp)
  exact AnyW.all0
theorem r19h11110001100000 (ps : List (List D)) (k : Nat) (own fs : List Int) (gs : List (List Int)) (a : Int) (hg : gs.length ≤ 2000000) (hf : fs.length ≤ 2000000) (Q : Exit → St → Prop)
    (hQ : ∀ s', Weak s' ⟨62, [(0, .d (.sl 9 ps)), (2, .pt 2 0), (4, .pt 4 0), (5, aI k), (7, .d (.sl 1 (eI own))), (8, aI a)], [(58, .arr 1 (eI (fs ++ [a]))), (53, .arr 1 (eG (gs ++ [own]))), (4, .var [.ms 53 1 0 (gs.length + 1), .ms 58 1 0 (fs.length + 1)]), (2, .var [aNil, aNil])]⟩ → Q .normal s') : AnyW Try.prog r19ops [true, true, true, true, false, false, false, true, true, false, false, false, false, false] ⟨62, [(0, .d (.sl 9 ps)), (2, .pt 2 0), (4, .pt 4 0), (5, aI k), (7, .d (.sl 1 (eI own))), (8, aI a), (49, .pt 4 0), (50, .ms 53 1 0 gs.length), (52, .ms 52 1 0 1), (57, .ms 57 1 0 1)], [(52, .arr 1 (eG [own])), (57, .arr 1 (eI [a])), (58, .arr 1 (eI fs)), (53, .arr 1 (eG gs)), (4, .var [.ms 53 1 0 gs.length, .ms 58 1 0 fs.length]), (2, .var [aNil, aNil])]⟩ Q := by
  refine AnyW.step ttOK etOK [4, 5] (by decide +kernel) rfl rfl ?_
  refine AnyW.all1 ?_ ?_
  · refine AnyW.one (o := r19o 4) r19e4 rfl fun K hK => ?_
    simp [r19d4, r19p4, r19g4, and_assoc, eG_take, eI_take, eG_append, eG_one, eI_append, eI_one]
    first | refine hK _ ?_ | refine ⟨by omega, hK _ ?_⟩ | refine ⟨by omega, by omega, hK _ ?_⟩
    refine AnyW.weak ?_ (r19h11111001100000 ps k own fs gs a hg hf Q hQ)
    first | (refine Weak.to2 (Eq.refl _) ?_; simp; done) | exact Weak.to3 (by intro i; simp only [lk]; (repeat' split) <;> first | rfl | omega) (by simp)
  refine AnyW.all1 ?_ ?_
  · refine AnyW.one (o := r19o 5) r19e5 rfl fun K hK => ?_
    simp [r19d5, r19p5, r19g5, and_assoc, eG_take, eI_take, eG_append, eG_one, eI_append, eI_one]
    first | refine hK _ ?_ | refine ⟨by omega, hK _ ?_⟩ | refine ⟨by omega, by omega, hK _ ?_⟩
    refine AnyW.weak ?_ (r19h11110101100000 ps k own fs gs a hg hf Q hQ)
    first | (refine Weak.to2 (Eq.refl _) ?_; simp; done) | exact Weak.to3 (by intro i; simp only [lk]; (repeat' split) <;> first | rfl | omega) (by simp)
  exact AnyW.all0
theorem r19h11100111000000 (ps : List (List D)) (k : Nat) (own fs : List Int) (gs : List (List Int)) (a : Int) (hg : gs.length ≤ 2000000) (hf : fs.length ≤ 2000000) (Q : Exit → St → Prop)
    (hQ : ∀ s', Weak s' ⟨62, [(0, .d (.sl 9 ps)), (2, .pt 2 0), (4, .pt 4 0), (5, aI k), (7, .d (.sl 1 (eI own))), (8, aI a)], [(58, .arr 1 (eI (fs ++ [a]))), (53, .arr 1 (eG (gs ++ [own]))), (4, .var [.ms 53 1 0 (gs.length + 1), .ms 58 1 0 (fs.length + 1)]), (2, .var [aNil, aNil])]⟩ → Q .normal s') : AnyW Try.prog r19ops [true, true, true, false, false, true, true, true, false, false, false, false, false, false] ⟨62, [(0, .d (.sl 9 ps)), (2, .pt 2 0), (4, .pt 4 0), (5, aI k), (7, .d (.sl 1 (eI own))), (8, aI a), (49, .pt 4 0), (50, .ms 53 1 0 gs.length), (51, .d (.sl 1 (eI own))), (54, .pt 4 1), (55, .ms 58 1 0 fs.length), (56, aI a)], [(58, .arr 1 (eI fs)), (53, .arr 1 (eG gs)), (4, .var [.ms 53 1 0 gs.length, .ms 58 1 0 fs.length]), (2, .var [aNil, aNil])]⟩ Q := by
  refine AnyW.step ttOK etOK [3, 8] (by decide +kernel) rfl rfl ?_
  refine AnyW.all1 ?_ ?_
  · refine AnyW.one (o := r19o 3) r19e3 rfl fun K hK => ?_
    simp [r19d3, r19p3, r19g3, and_assoc, eG_take, eI_take, eG_append, eG_one, eI_append, eI_one]
    first | refine hK _ ?_ | refine ⟨by omega, hK _ ?_⟩ | refine ⟨by omega, by omega, hK _ ?_⟩
    refine AnyW.weak ?_ (r19h11110111000000 ps k own fs gs a hg hf Q hQ)
    first | (refine Weak.to2 (Eq.refl _) ?_; simp; done) | exact Weak.to3 (by intro i; simp only [lk]; (repeat' split) <;> first | rfl | omega) (by simp)
  refine AnyW.all1 ?_ ?_
  · refine AnyW.one (o := r19o 8) r19e8 rfl fun K hK => ?_
    simp [r19d8, r19p8, r19g8, and_assoc, eG_take, eI_take, eG_append, eG_one, eI_append, eI_one]
    first | refine hK _ ?_ | refine ⟨by omega, hK _ ?_⟩ | refine ⟨by omega, by omega, hK _ ?_⟩
    refine AnyW.weak ?_ (r19h11100111100000 ps k own fs gs a hg hf Q hQ)
    first | (refine Weak.to2 (Eq.refl _) ?_; simp; done) | exact Weak.to3 (by intro i; simp only [lk]; (repeat' split) <;> first | rfl | omega) (by simp)
  exact AnyW.all0
theorem r19h11100101100000 (ps : List (List D)) (k : Nat) (own fs : List Int) (gs : List (List Int)) (a : Int) (hg : gs.length ≤ 2000000) (hf : fs.length ≤ 2000000) (Q : Exit → St → Prop)
    (hQ : ∀ s', Weak s' ⟨62, [(0, .d (.sl 9 ps)), (2, .pt 2 0), (4, .pt 4 0), (5, aI k), (7, .d (.sl 1 (eI own))), (8, aI a)], [(58, .arr 1 (eI (fs ++ [a]))), (53, .arr 1 (eG (gs ++ [own]))), (4, .var [.ms 53 1 0 (gs.length + 1), .ms 58 1 0 (fs.length + 1)]), (2, .var [aNil, aNil])]⟩ → Q .normal s') : AnyW Try.prog r19ops [true, true, true, false, false, true, false, true, true, false, false, false, false, false] ⟨62, [(0, .d (.sl 9 ps)), (2, .pt 2 0), (4, .pt 4 0), (5, aI k), (7, .d (.sl 1 (eI own))), (8, aI a), (49, .pt 4 0), (50, .ms 53 1 0 gs.length), (51, .d (.sl 1 (eI own))), (54, .pt 4 1), (57, .ms 57 1 0 1)], [(57, .arr 1 (eI [a])), (58, .arr 1 (eI fs)), (53, .arr 1 (eG gs)), (4, .var [.ms 53 1 0 gs.length, .ms 58 1 0 fs.length]), (2, .var [aNil, aNil])]⟩ Q := by
  refine AnyW.step ttOK etOK [3, 6] (by decide +kernel) rfl rfl ?_
  refine AnyW.all1 ?_ ?_
  · refine AnyW.one (o := r19o 3) r19e3 rfl fun K hK => ?_
    simp [r19d3, r19p3, r19g3, and_assoc, eG_take, eI_take, eG_append, eG_one, eI_append, eI_one]
    first | refine hK _ ?_ | refine ⟨by omega, hK _ ?_⟩ | refine ⟨by omega, by omega, hK _ ?_⟩
    refine AnyW.weak ?_ (r19h11110101100000 ps k own fs gs a hg hf Q hQ)
    first | (refine Weak.to2 (Eq.refl _) ?_; simp; done) | exact Weak.to3 (by intro i; simp only [lk]; (repeat' split) <;> first | rfl | omega) (by simp)
  refine AnyW.all1 ?_ ?_
  · refine AnyW.one (o := r19o 6) r19e6 rfl fun K hK => ?_
    simp [r19d6, r19p6, r19g6, and_assoc, eG_take, eI_take, eG_append, eG_one, eI_append, eI_one]
    first | refine hK _ ?_ | refine ⟨by omega, hK _ ?_⟩ | refine ⟨by omega, by omega, hK _ ?_⟩
    refine AnyW.weak ?_ (r19h11100111100000 ps k own fs gs a hg hf Q hQ)
    first | (refine Weak.to2 (Eq.refl _) ?_; simp; done) | exact Weak.to3 (by intro i; simp only [lk]; (repeat' split) <;> first | rfl | omega) (by simp)
  exact AnyW.all0
theorem r19h11000111100000 (ps : List (List D)) (k : Nat) (own fs : List Int) (gs : List (List Int)) (a : Int) (hg : gs.length ≤ 2000000) (hf : fs.length ≤ 2000000) (Q : Exit → St → Prop)
    (hQ : ∀ s', Weak s' ⟨62, [(0, .d (.sl 9 ps)), (2, .pt 2 0), (4, .pt 4 0), (5, aI k), (7, .d (.sl 1 (eI own))), (8, aI a)], [(58, .arr 1 (eI (fs ++ [a]))), (53, .arr 1 (eG (gs ++ [own]))), (4, .var [.ms 53 1 0 (gs.length + 1), .ms 58 1 0 (fs.length + 1)]), (2, .var [aNil, aNil])]⟩ → Q .normal s') : AnyW Try.prog r19ops [true, true, false, false, false, true, true, true, true, false, false, false, false, false] ⟨62, [(0, .d (.sl 9 ps)), (2, .pt 2 0), (4, .pt 4 0), (5, aI k), (7, .d (.sl 1 (eI own))), (8, aI a), (49, .pt 4 0), (50, .ms 53 1 0 gs.length), (54, .pt 4 1), (55, .ms 58 1 0 fs.length), (57, .ms 57 1 0 1)], [(57, .arr 1 (eI [a])), (58, .arr 1 (eI fs)), (53, .arr 1 (eG gs)), (4, .var [.ms 53 1 0 gs.length, .ms 58 1 0 fs.length]), (2, .var [aNil, aNil])]⟩ Q := by
  refine AnyW.step ttOK etOK [2] (by decide +kernel) rfl rfl ?_
  refine AnyW.all1 ?_ ?_
  · refine AnyW.one (o := r19o 2) r19e2 rfl fun K hK => ?_
    simp [r19d2, r19p2, r19g2, and_assoc, eG_take, eI_take, eG_append, eG_one, eI_append, eI_one]
    first | refine hK _ ?_ | refine ⟨by omega, hK _ ?_⟩ | refine ⟨by omega, by omega, hK _ ?_⟩
    refine AnyW.weak ?_ (r19h11100111100000 ps k own fs gs a hg hf Q hQ)
    first | (refine Weak.to2 (Eq.refl _) ?_; simp; done) | exact Weak.to3 (by intro i; simp only [lk]; (repeat' split) <;> first | rfl | omega) (by simp)
  exact AnyW.all0
theorem r19h10110111000000 (ps : List (List D)) (k : Nat) (own fs : List Int) (gs : List (List Int)) (a : Int) (hg : gs.length ≤ 2000000) (hf : fs.length ≤ 2000000) (Q : Exit → St → Prop)
    (hQ : ∀ s', Weak s' ⟨62, [(0, .d (.sl 9 ps)), (2, .pt 2 0), (4, .pt 4 0), (5, aI k), (7, .d (.sl 1 (eI own))), (8, aI a)], [(58, .arr 1 (eI (fs ++ [a]))), (53, .arr 1 (eG (gs ++ [own]))), (4, .var [.ms 53 1 0 (gs.length + 1), .ms 58 1 0 (fs.length + 1)]), (2, .var [aNil, aNil])]⟩ → Q .normal s') : AnyW Try.prog r19ops [true, false, true, true, false, true, true, true, false, false, false, false, false, false] ⟨62, [(0, .d (.sl 9 ps)), (2, .pt 2 0), (4, .pt 4 0), (5, aI k), (7, .d (.sl 1 (eI own))), (8, aI a), (49, .pt 4 0), (52, .ms 52 1 0 1), (54, .pt 4 1), (55, .ms 58 1 0 fs.length), (56, aI a)], [(52, .arr 1 (eG [own])), (58, .arr 1 (eI fs)), (53, .arr 1 (eG gs)), (4, .var [.ms 53 1 0 gs.length, .ms 58 1 0 fs.length]), (2, .var [aNil, aNil])]⟩ Q := by
  refine AnyW.step ttOK etOK [1, 8] (by decide +kernel) rfl rfl ?_
  refine AnyW.all1 ?_ ?_
  · refine AnyW.one (o := r19o 1) r19e1 rfl fun K hK => ?_
    simp [r19d1, r19p1, r19g1, and_assoc, eG_take, eI_take, eG_append, eG_one, eI_append, eI_one]
    first | refine hK _ ?_ | refine ⟨by omega, hK _ ?_⟩ | refine ⟨by omega, by omega, hK _ ?_⟩
    refine AnyW.weak ?_ (r19h11110111000000 ps k own fs gs a hg hf Q hQ)
    first | (refine Weak.to2 (Eq.refl _) ?_; simp; done) | exact Weak.to3 (by intro i; simp only [lk]; (repeat' split) <;> first | rfl | omega) (by simp)
  refine AnyW.all1 ?_ ?_
  · refine AnyW.one (o := r19o 8) r19e8 rfl fun K hK => ?_
    simp [r19d8, r19p8, r19g8, and_assoc, eG_take, eI_take, eG_append, eG_one, eI_append, eI_one]
    first | refine hK _ ?_ | refine ⟨by omega, hK _ ?_⟩ | refine ⟨by omega, by omega, hK _ ?_⟩
    refine AnyW.weak ?_ (r19h10110111100000 ps k own fs gs a hg hf Q hQ)
    first | (refine Weak.to2 (Eq.refl _) ?_; simp; done) | exact Weak.to3 (by intro i; simp only [lk]; (repeat' split) <;> first | rfl | omega) (by simp)
  exact AnyW.all0
theorem r19h10110101100000 (ps : List (List D)) (k : Nat) (own fs : List Int) (gs : List (List Int)) (a : Int) (hg : gs.length ≤ 2000000) (hf : fs.length ≤ 2000000) (Q : Exit → St → Prop)
    (hQ : ∀ s', Weak s' ⟨62, [(0, .d (.sl 9 ps)), (2, .pt 2 0), (4, .pt 4 0), (5, aI k), (7, .d (.sl 1 (eI own))), (8, aI a)], [(58, .arr 1 (eI (fs ++ [a]))), (53, .arr 1 (eG (gs ++ [own]))), (4, .var [.ms 53 1 0 (gs.length + 1), .ms 58 1 0 (fs.length + 1)]), (2, .var [aNil, aNil])]⟩ → Q .normal s') : AnyW Try.prog r19ops [true, false, true, true, false, true, false, true, true, false, false, false, false, false] ⟨62, [(0, .d (.sl 9 ps)), (2, .pt 2 0), (4, .pt 4 0), (5, aI k), (7, .d (.sl 1 (eI own))), (8, aI a), (49, .pt 4 0), (52, .ms 52 1 0 1), (54, .pt 4 1), (57, .ms 57 1 0 1)], [(52, .arr 1 (eG [own])), (57, .arr 1 (eI [a])), (58, .arr 1 (eI fs)), (53, .arr 1 (eG gs)), (4, .var [.ms 53 1 0 gs.length, .ms 58 1 0 fs.length]), (2, .var [aNil, aNil])]⟩ Q := by
  refine AnyW.step ttOK etOK [1, 6] (by decide +kernel) rfl rfl ?_
  refine AnyW.all1 ?_ ?_
  · refine AnyW.one (o := r19o 1) r19e1 rfl fun K hK => ?_
    simp [r19d1, r19p1, r19g1, and_assoc, eG_take, eI_take, eG_append, eG_one, eI_append, eI_one]
    first | refine hK _ ?_ | refine ⟨by omega, hK _ ?_⟩ | refine ⟨by omega, by omega, hK _ ?_⟩
    refine AnyW.weak ?_ (r19h11110101100000 ps k own fs gs a hg hf Q hQ)
    first | (refine Weak.to2 (Eq.refl _) ?_; simp; done) | exact Weak.to3 (by intro i; simp only [lk]; (repeat' split) <;> first | rfl | omega) (by simp)
  refine AnyW.all1 ?_ ?_
  · refine AnyW.one (o := r19o 6) r19e6 rfl fun K hK => ?_
    simp [r19d6, r19p6, r19g6, and_assoc, eG_take, eI_take, eG_append, eG_one, eI_append, eI_one]
    first | refine hK _ ?_ | refine ⟨by omega, hK _ ?_⟩ | refine ⟨by omega, by omega, hK _ ?_⟩
    refine AnyW.weak ?_ (r19h10110111100000 ps k own fs gs a hg hf Q hQ)
    first | (refine Weak.to2 (Eq.refl _) ?_; simp; done) | exact Weak.to3 (by intro i; simp only [lk]; (repeat' split) <;> first | rfl | omega) (by simp)
  exact AnyW.all0
theorem r19h10100111100000 (ps : List (List D)) (k : Nat) (own fs : List Int) (gs : List (List Int)) (a : Int) (hg : gs.length ≤ 2000000) (hf : fs.length ≤ 2000000) (Q : Exit → St → Prop)
    (hQ : ∀ s', Weak s' ⟨62, [(0, .d (.sl 9 ps)), (2, .pt 2 0), (4, .pt 4 0), (5, aI k), (7, .d (.sl 1 (eI own))), (8, aI a)], [(58, .arr 1 (eI (fs ++ [a]))), (53, .arr 1 (eG (gs ++ [own]))), (4, .var [.ms 53 1 0 (gs.length + 1), .ms 58 1 0 (fs.length + 1)]), (2, .var [aNil, aNil])]⟩ → Q .normal s') : AnyW Try.prog r19ops [true, false, true, false, false, true, true, true, true, false, false, false, false, false] ⟨62, [(0, .d (.sl 9 ps)), (2, .pt 2 0), (4, .pt 4 0), (5, aI k), (7, .d (.sl 1 (eI own))), (8, aI a), (49, .pt 4 0), (51, .d (.sl 1 (eI own))), (54, .pt 4 1), (55, .ms 58 1 0 fs.length), (57, .ms 57 1 0 1)], [(57, .arr 1 (eI [a])), (58, .arr 1 (eI fs)), (53, .arr 1 (eG gs)), (4, .var [.ms 53 1 0 gs.length, .ms 58 1 0 fs.length]), (2, .var [aNil, aNil])]⟩ Q := by
  refine AnyW.step ttOK etOK [1, 3] (by decide +kernel) rfl rfl ?_
  refine AnyW.all1 ?_ ?_
  · refine AnyW.one (o := r19o 1) r19e1 rfl fun K hK => ?_
    simp [r19d1, r19p1, r19g1, and_assoc, eG_take, eI_take, eG_append, eG_one, eI_append, eI_one]
    first | refine hK _ ?_ | refine ⟨by omega, hK _ ?_⟩ | refine ⟨by omega, by omega, hK _ ?_⟩
    refine AnyW.weak ?_ (r19h11100111100000 ps k own fs gs a hg hf Q hQ)
    first | (refine Weak.to2 (Eq.refl _) ?_; simp; done) | exact Weak.to3 (by intro i; simp only [lk]; (repeat' split) <;> first | rfl | omega) (by simp)
  refine AnyW.all1 ?_ ?_
  · refine AnyW.one (o := r19o 3) r19e3 rfl fun K hK => ?_
    simp [r19d3, r19p3, r19g3, and_assoc, eG_take, eI_take, eG_append, eG_one, eI_append, eI_one]
    first | refine hK _ ?_ | refine ⟨by omega, hK _ ?_⟩ | refine ⟨by omega, by omega, hK _ ?_⟩
    refine AnyW.weak ?_ (r19h10110111100000 ps k own fs gs a hg hf Q hQ)
    first | (refine Weak.to2 (Eq.refl _) ?_; simp; done) | exact Weak.to3 (by intro i; simp only [lk]; (repeat' split) <;> first | rfl | omega) (by simp)
  exact AnyW.all0
theorem r19h00110111100000 (ps : List (List D)) (k : Nat) (own fs : List Int) (gs : List (List Int)) (a : Int) (hg : gs.length ≤ 2000000) (hf : fs.length ≤ 2000000) (Q : Exit → St → Prop)
    (hQ : ∀ s', Weak s' ⟨62, [(0, .d (.sl 9 ps)), (2, .pt 2 0), (4, .pt 4 0), (5, aI k), (7, .d (.sl 1 (eI own))), (8, aI a)], [(58, .arr 1 (eI (fs ++ [a]))), (53, .arr 1 (eG (gs ++ [own]))), (4, .var [.ms 53 1 0 (gs.length + 1), .ms 58 1 0 (fs.length + 1)]), (2, .var [aNil, aNil])]⟩ → Q .normal s') : AnyW Try.prog r19ops [false, false, true, true, false, true, true, true, true, false, false, false, false, false] ⟨62, [(0, .d (.sl 9 ps)), (2, .pt 2 0), (4, .pt 4 0), (5, aI k), (7, .d (.sl 1 (eI own))), (8, aI a), (52, .ms 52 1 0 1), (54, .pt 4 1), (55, .ms 58 1 0 fs.length), (57, .ms 57 1 0 1)], [(52, .arr 1 (eG [own])), (57, .arr 1 (eI [a])), (58, .arr 1 (eI fs)), (53, .arr 1 (eG gs)), (4, .var [.ms 53 1 0 gs.length, .ms 58 1 0 fs.length]), (2, .var [aNil, aNil])]⟩ Q := by
  refine AnyW.step ttOK etOK [0] (by decide +kernel) rfl rfl ?_
  refine AnyW.all1 ?_ ?_
  · refine AnyW.one (o := r19o 0) r19e0 rfl fun K hK => ?_
    simp [r19d0, r19p0, r19g0, and_assoc, eG_take, eI_take, eG_append, eG_one, eI_append, eI_one]
    first | refine hK _ ?_ | refine ⟨by omega, hK _ ?_⟩ | refine ⟨by omega, by omega, hK _ ?_⟩
    refine AnyW.weak ?_ (r19h10110111100000 ps k own fs gs a hg hf Q hQ)
    first | (refine Weak.to2 (Eq.refl _) ?_; simp; done) | exact Weak.to3 (by intro i; simp only [lk]; (repeat' split) <;> first | rfl | omega) (by simp)
  exact AnyW.all0
theorem r19h11111000000000 (ps : List (List D)) (k : Nat) (own fs : List Int) (gs : List (List Int)) (a : Int) (hg : gs.length ≤ 2000000) (hf : fs.length ≤ 2000000) (Q : Exit → St → Prop)
    (hQ : ∀ s', Weak s' ⟨62, [(0, .d (.sl 9 ps)), (2, .pt 2 0), (4, .pt 4 0), (5, aI k), (7, .d (.sl 1 (eI own))), (8, aI a)], [(58, .arr 1 (eI (fs ++ [a]))), (53, .arr 1 (eG (gs ++ [own]))), (4, .var [.ms 53 1 0 (gs.length + 1), .ms 58 1 0 (fs.length + 1)]), (2, .var [aNil, aNil])]⟩ → Q .normal s') : AnyW Try.prog r19ops [true, true, true, true, true, false, false, false, false, false, false, false, false, false] ⟨62, [(0, .d (.sl 9 ps)), (2, .pt 2 0), (4, .pt 4 0), (5, aI k), (7, .d (.sl 1 (eI own))), (8, aI a), (49, .pt 4 0), (53, .ms 53 1 0 (gs.length + 1))], [(52, .arr 1 (eG [own])), (58, .arr 1 (eI fs)), (53, .arr 1 (eG (gs ++ [own]))), (4, .var [.un, .ms 58 1 0 fs.length]), (2, .var [aNil, aNil])]⟩ Q := by
  refine AnyW.step ttOK etOK [5, 7] (by decide +kernel) rfl rfl ?_
  refine AnyW.all1 ?_ ?_
  · refine AnyW.one (o := r19o 5) r19e5 rfl fun K hK => ?_
    simp [r19d5, r19p5, r19g5, and_assoc, eG_take, eI_take, eG_append, eG_one, eI_append, eI_one]
    first | refine hK _ ?_ | refine ⟨by omega, hK _ ?_⟩ | refine ⟨by omega, by omega, hK _ ?_⟩
    refine AnyW.weak ?_ (r19h11111100000000 ps k own fs gs a hg hf Q hQ)
    first | (refine Weak.to2 (Eq.refl _) ?_; simp; done) | exact Weak.to3 (by intro i; simp only [lk]; (repeat' split) <;> first | rfl | omega) (by simp)
  refine AnyW.all1 ?_ ?_
  · refine AnyW.one (o := r19o 7) r19e7 rfl fun K hK => ?_
    simp [r19d7, r19p7, r19g7, and_assoc, eG_take, eI_take, eG_append, eG_one, eI_append, eI_one]
    first | refine hK _ ?_ | refine ⟨by omega, hK _ ?_⟩ | refine ⟨by omega, by omega, hK _ ?_⟩
    refine AnyW.weak ?_ (r19h11111001000000 ps k own fs gs a hg hf Q hQ)
    first | (refine Weak.to2 (Eq.refl _) ?_; simp; done) | exact Weak.to3 (by intro i; simp only [lk]; (repeat' split) <;> first | rfl | omega) (by simp)
  exact AnyW.all0
theorem r19h11110100000000 (ps : List (List D)) (k : Nat) (own fs : List Int) (gs : List (List Int)) (a : Int) (hg : gs.length ≤ 2000000) (hf : fs.length ≤ 2000000) (Q : Exit → St → Prop)
    (hQ : ∀ s', Weak s' ⟨62, [(0, .d (.sl 9 ps)), (2, .pt 2 0), (4, .pt 4 0), (5, aI k), (7, .d (.sl 1 (eI own))), (8, aI a)], [(58, .arr 1 (eI (fs ++ [a]))), (53, .arr 1 (eG (gs ++ [own]))), (4, .var [.ms 53 1 0 (gs.length + 1), .ms 58 1 0 (fs.length + 1)]), (2, .var [aNil, aNil])]⟩ → Q .normal s') : AnyW Try.prog r19ops [true, true, true, true, false, true, false, false, false, false, false, false, false, false] ⟨62, [(0, .d (.sl 9 ps)), (2, .pt 2 0), (4, .pt 4 0), (5, aI k), (7, .d (.sl 1 (eI own))), (8, aI a), (49, .pt 4 0), (50, .ms 53 1 0 gs.length), (52, .ms 52 1 0 1), (54, .pt 4 1)], [(52, .arr 1 (eG [own])), (58, .arr 1 (eI fs)), (53, .arr 1 (eG gs)), (4, .var [.ms 53 1 0 gs.length, .ms 58 1 0 fs.length]), (2, .var [aNil, aNil])]⟩ Q := by
  refine AnyW.step ttOK etOK [4, 6, 7] (by decide +kernel) rfl rfl ?_
  refine AnyW.all1 ?_ ?_
  · refine AnyW.one (o := r19o 4) r19e4 rfl fun K hK => ?_
    simp [r19d4, r19p4, r19g4, and_assoc, eG_take, eI_take, eG_append, eG_one, eI_append, eI_one]
    first | refine hK _ ?_ | refine ⟨by omega, hK _ ?_⟩ | refine ⟨by omega, by omega, hK _ ?_⟩
    refine AnyW.weak ?_ (r19h11111100000000 ps k own fs gs a hg hf Q hQ)
    first | (refine Weak.to2 (Eq.refl _) ?_; simp; done) | exact Weak.to3 (by intro i; simp only [lk]; (repeat' split) <;> first | rfl | omega) (by simp)
  refine AnyW.all1 ?_ ?_
  · refine AnyW.one (o := r19o 6) r19e6 rfl fun K hK => ?_
    simp [r19d6, r19p6, r19g6, and_assoc, eG_take, eI_take, eG_append, eG_one, eI_append, eI_one]
    first | refine hK _ ?_ | refine ⟨by omega, hK _ ?_⟩ | refine ⟨by omega, by omega, hK _ ?_⟩
    refine AnyW.weak ?_ (r19h11110110000000 ps k own fs gs a hg hf Q hQ)
    first | (refine Weak.to2 (Eq.refl _) ?_; simp; done) | exact Weak.to3 (by intro i; simp only [lk]; (repeat' split) <;> first | rfl | omega) (by simp)
  refine AnyW.all1 ?_ ?_
  · refine AnyW.one (o := r19o 7) r19e7 rfl fun K hK => ?_
    simp [r19d7, r19p7, r19g7, and_assoc, eG_take, eI_take, eG_append, eG_one, eI_append, eI_one]
    first | refine hK _ ?_ | refine ⟨by omega, hK _ ?_⟩ | refine ⟨by omega, by omega, hK _ ?_⟩
    refine AnyW.weak ?_ (r19h11110101000000 ps k own fs gs a hg hf Q hQ)
    first | (refine Weak.to2 (Eq.refl _) ?_; simp; done) | exact Weak.to3 (by intro i; simp only [lk]; (repeat' split) <;> first | rfl | omega) (by simp)
  exact AnyW.all0
theorem r19h11110001000000 (ps : List (List D)) (k : Nat) (own fs : List Int) (gs : List (List Int)) (a : Int) (hg : gs.length ≤ 2000000) (hf : fs.length ≤ 2000000) (Q : Exit → St → Prop)
    (hQ : ∀ s', Weak s' ⟨62, [(0, .d (.sl 9 ps)), (2, .pt 2 0), (4, .pt 4 0), (5, aI k), (7, .d (.sl 1 (eI own))), (8, aI a)], [(58, .arr 1 (eI (fs ++ [a]))), (53, .arr 1 (eG (gs ++ [own]))), (4, .var [.ms 53 1 0 (gs.length + 1), .ms 58 1 0 (fs.length + 1)]), (2, .var [aNil, aNil])]⟩ → Q .normal s') : AnyW Try.prog r19ops [true, true, true, true, false, false, false, true, false, false, false, false, false, false] ⟨62, [(0, .d (.sl 9 ps)), (2, .pt 2 0), (4, .pt 4 0), (5, aI k), (7, .d (.sl 1 (eI own))), (8, aI a), (49, .pt 4 0), (50, .ms 53 1 0 gs.length), (52, .ms 52 1 0 1), (56, aI a)], [(52, .arr 1 (eG [own])), (58, .arr 1 (eI fs)), (53, .arr 1 (eG gs)), (4, .var [.ms 53 1 0 gs.length, .ms 58 1 0 fs.length]), (2, .var [aNil, aNil])]⟩ Q := by
  refine AnyW.step ttOK etOK [4, 5, 8] (by decide +kernel) rfl rfl ?_
  refine AnyW.all1 ?_ ?_
  · refine AnyW.one (o := r19o 4) r19e4 rfl fun K hK => ?_
    simp [r19d4, r19p4, r19g4, and_assoc, eG_take, eI_take, eG_append, eG_one, eI_append, eI_one]
    first | refine hK _ ?_ | refine ⟨by omega, hK _ ?_⟩ | refine ⟨by omega, by omega, hK _ ?_⟩
    refine AnyW.weak ?_ (r19h11111001000000 ps k own fs gs a hg hf Q hQ)
    first | (refine Weak.to2 (Eq.refl _) ?_; simp; done) | exact Weak.to3 (by intro i; simp only [lk]; (repeat' split) <;> first | rfl | omega) (by simp)
  refine AnyW.all1 ?_ ?_
  · refine AnyW.one (o := r19o 5) r19e5 rfl fun K hK => ?_
    simp [r19d5, r19p5, r19g5, and_assoc, eG_take, eI_take, eG_append, eG_one, eI_append, eI_one]
    first | refine hK _ ?_ | refine ⟨by omega, hK _ ?_⟩ | refine ⟨by omega, by omega, hK _ ?_⟩
    refine AnyW.weak ?_ (r19h11110101000000 ps k own fs gs a hg hf Q hQ)
    first | (refine Weak.to2 (Eq.refl _) ?_; simp; done) | exact Weak.to3 (by intro i; simp only [lk]; (repeat' split) <;> first | rfl | omega) (by simp)
  refine AnyW.all1 ?_ ?_
  · refine AnyW.one (o := r19o 8) r19e8 rfl fun K hK => ?_
    simp [r19d8, r19p8, r19g8, and_assoc, eG_take, eI_take, eG_append, eG_one, eI_append, eI_one]
    first | refine hK _ ?_ | refine ⟨by omega, hK _ ?_⟩ | refine ⟨by omega, by omega, hK _ ?_⟩
    refine AnyW.weak ?_ (r19h11110001100000 ps k own fs gs a hg hf Q hQ)
    first | (refine Weak.to2 (Eq.refl _) ?_; simp; done) | exact Weak.to3 (by intro i; simp only [lk]; (repeat' split) <;> first | rfl | omega) (by simp)
  exact AnyW.all0
theorem r19h11100110000000 (ps : List (List D)) (k : Nat) (own fs : List Int) (gs : List (List Int)) (a : Int) (hg : gs.length ≤ 2000000) (hf : fs.length ≤ 2000000) (Q : Exit → St → Prop)
    (hQ : ∀ s', Weak s' ⟨62, [(0, .d (.sl 9 ps)), (2, .pt 2 0), (4, .pt 4 0), (5, aI k), (7, .d (.sl 1 (eI own))), (8, aI a)], [(58, .arr 1 (eI (fs ++ [a]))), (53, .arr 1 (eG (gs ++ [own]))), (4, .var [.ms 53 1 0 (gs.length + 1), .ms 58 1 0 (fs.length + 1)]), (2, .var [aNil, aNil])]⟩ → Q .normal s') : AnyW Try.prog r19ops [true, true, true, false, false, true, true, false, false, false, false, false, false, false] ⟨62, [(0, .d (.sl 9 ps)), (2, .pt 2 0), (4, .pt 4 0), (5, aI k), (7, .d (.sl 1 (eI own))), (8, aI a), (49, .pt 4 0), (50, .ms 53 1 0 gs.length), (51, .d (.sl 1 (eI own))), (54, .pt 4 1), (55, .ms 58 1 0 fs.length)], [(58, .arr 1 (eI fs)), (53, .arr 1 (eG gs)), (4, .var [.ms 53 1 0 gs.length, .ms 58 1 0 fs.length]), (2, .var [aNil, aNil])]⟩ Q := by
  refine AnyW.step ttOK etOK [3, 7] (by decide +kernel) rfl rfl ?_
  refine AnyW.all1 ?_ ?_
  · refine AnyW.one (o := r19o 3) r19e3 rfl fun K hK => ?_
    simp [r19d3, r19p3, r19g3, and_assoc, eG_take, eI_take, eG_append, eG_one, eI_append, eI_one]
    first | refine hK _ ?_ | refine ⟨by omega, hK _ ?_⟩ | refine ⟨by omega, by omega, hK _ ?_⟩
    refine AnyW.weak ?_ (r19h11110110000000 ps k own fs gs a hg hf Q hQ)
    first | (refine Weak.to2 (Eq.refl _) ?_; simp; done) | exact Weak.to3 (by intro i; simp only [lk]; (repeat' split) <;> first | rfl | omega) (by simp)
  refine AnyW.all1 ?_ ?_
  · refine AnyW.one (o := r19o 7) r19e7 rfl fun K hK => ?_
    simp [r19d7, r19p7, r19g7, and_assoc, eG_take, eI_take, eG_append, eG_one, eI_append, eI_one]
    first | refine hK _ ?_ | refine ⟨by omega, hK _ ?_⟩ | refine ⟨by omega, by omega, hK _ ?_⟩
    refine AnyW.weak ?_ (r19h11100111000000 ps k own fs gs a hg hf Q hQ)
    first | (refine Weak.to2 (Eq.refl _) ?_; simp; done) | exact Weak.to3 (by intro i; simp only [lk]; (repeat' split) <;> first | rfl | omega) (by simp)
  exact AnyW.all0
theorem r19h11100101000000 (ps : List (List D)) (k : Nat) (own fs : List Int) (gs : List (List Int)) (a : Int) (hg : gs.length ≤ 2000000) (hf : fs.length ≤ 2000000) (Q : Exit → St → Prop)
    (hQ : ∀ s', Weak s' ⟨62, [(0, .d (.sl 9 ps)), (2, .pt 2 0), (4, .pt 4 0), (5, aI k), (7, .d (.sl 1 (eI own))), (8, aI a)], [(58, .arr 1 (eI (fs ++ [a]))), (53, .arr 1 (eG (gs ++ [own]))), (4, .var [.ms 53 1 0 (gs.length + 1), .ms 58 1 0 (fs.length + 1)]), (2, .var [aNil, aNil])]⟩ → Q .normal s') : AnyW Try.prog r19ops [true, true, true, false, false, true, false, true, false, false, false, false, false, false] ⟨62, [(0, .d (.sl 9 ps)), (2, .pt 2 0), (4, .pt 4 0), (5, aI k), (7, .d (.sl 1 (eI own))), (8, aI a), (49, .pt 4 0), (50, .ms 53 1 0 gs.length), (51, .d (.sl 1 (eI own))), (54, .pt 4 1), (56, aI a)], [(58, .arr 1 (eI fs)), (53, .arr 1 (eG gs)), (4, .var [.ms 53 1 0 gs.length, .ms 58 1 0 fs.length]), (2, .var [aNil, aNil])]⟩ Q := by
  refine AnyW.step ttOK etOK [3, 6, 8] (by decide +kernel) rfl rfl ?_
  refine AnyW.all1 ?_ ?_
  · refine AnyW.one (o := r19o 3) r19e3 rfl fun K hK => ?_
    simp [r19d3, r19p3, r19g3, and_assoc, eG_take, eI_take, eG_append, eG_one, eI_append, eI_one]
    first | refine hK _ ?_ | refine ⟨by omega, hK _ ?_⟩ | refine ⟨by omega, by omega, hK _ ?_⟩
    refine AnyW.weak ?_ (r19h11110101000000 ps k own fs gs a hg hf Q hQ)
    first | (refine Weak.to2 (Eq.refl _) ?_; simp; done) | exact Weak.to3 (by intro i; simp only [lk]; (repeat' split) <;> first | rfl | omega) (by simp)
  refine AnyW.all1 ?_ ?_
  · refine AnyW.one (o := r19o 6) r19e6 rfl fun K hK => ?_
    simp [r19d6, r19p6, r19g6, and_assoc, eG_take, eI_take, eG_append, eG_one, eI_append, eI_one]
    first | refine hK _ ?_ | refine ⟨by omega, hK _ ?_⟩ | refine ⟨by omega, by omega, hK _ ?_⟩
    refine AnyW.weak ?_ (r19h11100111000000 ps k own fs gs a hg hf Q hQ)
    first | (refine Weak.to2 (Eq.refl _) ?_; simp; done) | exact Weak.to3 (by intro i; simp only [lk]; (repeat' split) <;> first | rfl | omega) (by simp)
  refine AnyW.all1 ?_ ?_
  · refine AnyW.one (o := r19o 8) r19e8 rfl fun K hK => ?_
    simp [r19d8, r19p8, r19g8, and_assoc, eG_take, eI_take, eG_append, eG_one, eI_append, eI_one]
    first | refine hK _ ?_ | refine ⟨by omega, hK _ ?_⟩ | refine ⟨by omega, by omega, hK _ ?_⟩
    refine AnyW.weak ?_ (r19h11100101100000 ps k own fs gs a hg hf Q hQ)
    first | (refine Weak.to2 (Eq.refl _) ?_; simp; done) | exact Weak.to3 (by intro i; simp only [lk]; (repeat' split) <;> first | rfl | omega) (by simp)
  exact AnyW.all0
theorem r19h11100001100000 (ps : List (List D)) (k : Nat) (own fs : List Int) (gs : List (List Int)) (a : Int) (hg : gs.length ≤ 2000000) (hf : fs.length ≤ 2000000) (Q : Exit → St → Prop)
    (hQ : ∀ s', Weak s' ⟨62, [(0, .d (.sl 9 ps)), (2, .pt 2 0), (4, .pt 4 0), (5, aI k), (7, .d (.sl 1 (eI own))), (8, aI a)], [(58, .arr 1 (eI (fs ++ [a]))), (53, .arr 1 (eG (gs ++ [own]))), (4, .var [.ms 53 1 0 (gs.length + 1), .ms 58 1 0 (fs.length + 1)]), (2, .var [aNil, aNil])]⟩ → Q .normal s') : AnyW Try.prog r19ops [true, true, true, false, false, false, false, true, true, false, false, false, false, false] ⟨62, [(0, .d (.sl 9 ps)), (2, .pt 2 0), (4, .pt 4 0), (5, aI k), (7, .d (.sl 1 (eI own))), (8, aI a), (49, .pt 4 0), (50, .ms 53 1 0 gs.length), (51, .d (.sl 1 (eI own))), (57, .ms 57 1 0 1)], [(57, .arr 1 (eI [a])), (58, .arr 1 (eI fs)), (53, .arr 1 (eG gs)), (4, .var [.ms 53 1 0 gs.length, .ms 58 1 0 fs.length]), (2, .var [aNil, aNil])]⟩ Q := by
  refine AnyW.step ttOK etOK [3, 5] (by decide +kernel) rfl rfl ?_
  refine AnyW.all1 ?_ ?_
  · refine AnyW.one (o := r19o 3) r19e3 rfl fun K hK => ?_
    simp [r19d3, r19p3, r19g3, and_assoc, eG_take, eI_take, eG_append, eG_one, eI_append, eI_one]
    first | refine hK _ ?_ | refine ⟨by omega, hK _ ?_⟩ | refine ⟨by omega, by omega, hK _ ?_⟩
    refine AnyW.weak ?_ (r19h11110001100000 ps k own fs gs a hg hf Q hQ)
    first | (refine Weak.to2 (Eq.refl _) ?_; simp; done) | exact Weak.to3 (by intro i; simp only [lk]; (repeat' split) <;> first | rfl | omega) (by simp)
  refine AnyW.all1 ?_ ?_
  · refine AnyW.one (o := r19o 5) r19e5 rfl fun K hK => ?_
    simp [r19d5, r19p5, r19g5, and_assoc, eG_take, eI_take, eG_append, eG_one, eI_append, eI_one]
    first | refine hK _ ?_ | refine ⟨by omega, hK _ ?_⟩ | refine ⟨by omega, by omega, hK _ ?_⟩
    refine AnyW.weak ?_ (r19h11100101100000 ps k own fs gs a hg hf Q hQ)
    first | (refine Weak.to2 (Eq.refl _) ?_; simp; done) | exact Weak.to3 (by intro i; simp only [lk]; (repeat' split) <;> first | rfl | omega) (by simp)
  exact AnyW.all0
theorem r19h11000111000000 (ps : List (List D)) (k : Nat) (own fs : List Int) (gs : List (List Int)) (a : Int) (hg : gs.length ≤ 2000000) (hf : fs.length ≤ 2000000) (Q : Exit → St → Prop)
    (hQ : ∀ s', Weak s' ⟨62, [(0, .d (.sl 9 ps)), (2, .pt 2 0), (4, .pt 4 0), (5, aI k), (7, .d (.sl 1 (eI own))), (8, aI a)], [(58, .arr 1 (eI (fs ++ [a]))), (53, .arr 1 (eG (gs ++ [own]))), (4, .var [.ms 53 1 0 (gs.length + 1), .ms 58 1 0 (fs.length + 1)]), (2, .var [aNil, aNil])]⟩ → Q .normal s') : AnyW Try.prog r19ops [true, true, false, false, false, true, true, true, false, false, false, false, false, false] ⟨62, [(0, .d (.sl 9 ps)), (2, .pt 2 0), (4, .pt 4 0), (5, aI k), (7, .d (.sl 1 (eI own))), (8, aI a), (49, .pt 4 0), (50, .ms 53 1 0 gs.length), (54, .pt 4 1), (55, .ms 58 1 0 fs.length), (56, aI a)], [(58, .arr 1 (eI fs)), (53, .arr 1 (eG gs)), (4, .var [.ms 53 1 0 gs.length, .ms 58 1 0 fs.length]), (2, .var [aNil, aNil])]⟩ Q := by
  refine AnyW.step ttOK etOK [2, 8] (by decide +kernel) rfl rfl ?_
  refine AnyW.all1 ?_ ?_
  · refine AnyW.one (o := r19o 2) r19e2 rfl fun K hK => ?_
    simp [r19d2, r19p2, r19g2, and_assoc, eG_take, eI_take, eG_append, eG_one, eI_append, eI_one]
    first | refine hK _ ?_ | refine ⟨by omega, hK _ ?_⟩ | refine ⟨by omega, by omega, hK _ ?_⟩
    refine AnyW.weak ?_ (r19h11100111000000 ps k own fs gs a hg hf Q hQ)
    first | (refine Weak.to2 (Eq.refl _) ?_; simp; done) | exact Weak.to3 (by intro i; simp only [lk]; (repeat' split) <;> first | rfl | omega) (by simp)
  refine AnyW.all1 ?_ ?_
  · refine AnyW.one (o := r19o 8) r19e8 rfl fun K hK => ?_
    simp [r19d8, r19p8, r19g8, and_assoc, eG_take, eI_take, eG_append, eG_one, eI_append, eI_one]
    first | refine hK _ ?_ | refine ⟨by omega, hK _ ?_⟩ | refine ⟨by omega, by omega, hK _ ?_⟩
    refine AnyW.weak ?_ (r19h11000111100000 ps k own fs gs a hg hf Q hQ)
    first | (refine Weak.to2 (Eq.refl _) ?_; simp; done) | exact Weak.to3 (by intro i; simp only [lk]; (repeat' split) <;> first | rfl | omega) (by simp)
  exact AnyW.all0
theorem r19h11000101100000 (ps : List (List D)) (k : Nat) (own fs : List Int) (gs : List (List Int)) (a : Int) (hg : gs.length ≤ 2000000) (hf : fs.length ≤ 2000000) (Q : Exit → St → Prop)
    (hQ : ∀ s', Weak s' ⟨62, [(0, .d (.sl 9 ps)), (2, .pt 2 0), (4, .pt 4 0), (5, aI k), (7, .d (.sl 1 (eI own))), (8, aI a)], [(58, .arr 1 (eI (fs ++ [a]))), (53, .arr 1 (eG (gs ++ [own]))), (4, .var [.ms 53 1 0 (gs.length + 1), .ms 58 1 0 (fs.length + 1)]), (2, .var [aNil, aNil])]⟩ → Q .normal s') : AnyW Try.prog r19ops [true, true, false, false, false, true, false, true, true, false, false, false, false, false] ⟨62, [(0, .d (.sl 9 ps)), (2, .pt 2 0), (4, .pt 4 0), (5, aI k), (7, .d (.sl 1 (eI own))), (8, aI a), (49, .pt 4 0), (50, .ms 53 1 0 gs.length), (54, .pt 4 1), (57, .ms 57 1 0 1)], [(57, .arr 1 (eI [a])), (58, .arr 1 (eI fs)), (53, .arr 1 (eG gs)), (4, .var [.ms 53 1 0 gs.length, .ms 58 1 0 fs.length]), (2, .var [aNil, aNil])]⟩ Q := by
  refine AnyW.step ttOK etOK [2, 6] (by decide +kernel) rfl rfl ?_
  refine AnyW.all1 ?_ ?_
  · refine AnyW.one (o := r19o 2) r19e2 rfl fun K hK => ?_
    simp [r19d2, r19p2, r19g2, and_assoc, eG_take, eI_take, eG_append, eG_one, eI_append, eI_one]
    first | refine hK _ ?_ | refine ⟨by omega, hK _ ?_⟩ | refine ⟨by omega, by omega, hK _ ?_⟩
    refine AnyW.weak ?_ (r19h11100101100000 ps k own fs gs a hg hf Q hQ)
    first | (refine Weak.to2 (Eq.refl _) ?_; simp; done) | exact Weak.to3 (by intro i; simp only [lk]; (repeat' split) <;> first | rfl | omega) (by simp)
  refine AnyW.all1 ?_ ?_
  · refine AnyW.one (o := r19o 6) r19e6 rfl fun K hK => ?_
    simp [r19d6, r19p6, r19g6, and_assoc, eG_take, eI_take, eG_append, eG_one, eI_append, eI_one]
    first | refine hK _ ?_ | refine ⟨by omega, hK _ ?_⟩ | refine ⟨by omega, by omega, hK _ ?_⟩
    refine AnyW.weak ?_ (r19h11000111100000 ps k own fs gs a hg hf Q hQ)
    first | (refine Weak.to2 (Eq.refl _) ?_; simp; done) | exact Weak.to3 (by intro i; simp only [lk]; (repeat' split) <;> first | rfl | omega) (by simp)
  exact AnyW.all0
theorem r19h10110110000000 (ps : List (List D)) (k : Nat) (own fs : List Int) (gs : List (List Int)) (a : Int) (hg : gs.length ≤ 2000000) (hf : fs.length ≤ 2000000) (Q : Exit → St → Prop)
    (hQ : ∀ s', Weak s' ⟨62, [(0, .d (.sl 9 ps)), (2, .pt 2 0), (4, .pt 4 0), (5, aI k), (7, .d (.sl 1 (eI own))), (8, aI a)], [(58, .arr 1 (eI (fs ++ [a]))), (53, .arr 1 (eG (gs ++ [own]))), (4, .var [.ms 53 1 0 (gs.length + 1), .ms 58 1 0 (fs.length + 1)]), (2, .var [aNil, aNil])]⟩ → Q .normal s') : AnyW Try.prog r19ops [true, false, true, true, false, true, true, false, false, false, false, false, false, false] ⟨62, [(0, .d (.sl 9 ps)), (2, .pt 2 0), (4, .pt 4 0), (5, aI k), (7, .d (.sl 1 (eI own))), (8, aI a), (49, .pt 4 0), (52, .ms 52 1 0 1), (54, .pt 4 1), (55, .ms 58 1 0 fs.length)], [(52, .arr 1 (eG [own])), (58, .arr 1 (eI fs)), (53, .arr 1 (eG gs)), (4, .var [.ms 53 1 0 gs.length, .ms 58 1 0 fs.length]), (2, .var [aNil, aNil])]⟩ Q := by
  refine AnyW.step ttOK etOK [1, 7] (by decide +kernel) rfl rfl ?_
  refine AnyW.all1 ?_ ?_
  · refine AnyW.one (o := r19o 1) r19e1 rfl fun K hK => ?_
    simp [r19d1, r19p1, r19g1, and_assoc, eG_take, eI_take, eG_append, eG_one, eI_append, eI_one]
    first | refine hK _ ?_ | refine ⟨by omega, hK _ ?_⟩ | refine ⟨by omega, by omega, hK _ ?_⟩
    refine AnyW.weak ?_ (r19h11110110000000 ps k own fs gs a hg hf Q hQ)
    first | (refine Weak.to2 (Eq.refl _) ?_; simp; done) | exact Weak.to3 (by intro i; simp only [lk]; (repeat' split) <;> first | rfl | omega) (by simp)
  refine AnyW.all1 ?_ ?_
  · refine AnyW.one (o := r19o 7) r19e7 rfl fun K hK => ?_
    simp [r19d7, r19p7, r19g7, and_assoc, eG_take, eI_take, eG_append, eG_one, eI_append, eI_one]
    first | refine hK _ ?_ | refine ⟨by omega, hK _ ?_⟩ | refine ⟨by omega, by omega, hK _ ?_⟩
    refine AnyW.weak ?_ (r19h10110111000000 ps k own fs gs a hg hf Q hQ)
    first | (refine Weak.to2 (Eq.refl _) ?_; simp; done) | exact Weak.to3 (by intro i; simp only [lk]; (repeat' split) <;> first | rfl | omega) (by simp)
  exact AnyW.all0
theorem r19h10110101000000 (ps : List (List D)) (k : Nat) (own fs : List Int) (gs : List (List Int)) (a : Int) (hg : gs.length ≤ 2000000) (hf : fs.length ≤ 2000000) (Q : Exit → St → Prop)
    (hQ : ∀ s', Weak s' ⟨62, [(0, .d (.sl 9 ps)), (2, .pt 2 0), (4, .pt 4 0), (5, aI k), (7, .d (.sl 1 (eI own))), (8, aI a)], [(58, .arr 1 (eI (fs ++ [a]))), (53, .arr 1 (eG (gs ++ [own]))), (4, .var [.ms 53 1 0 (gs.length + 1), .ms 58 1 0 (fs.length + 1)]), (2, .var [aNil, aNil])]⟩ → Q .normal s') : AnyW Try.prog r19ops [true, false, true, true, false, true, false, true, false, false, false, false, false, false] ⟨62, [(0, .d (.sl 9 ps)), (2, .pt 2 0), (4, .pt 4 0), (5, aI k), (7, .d (.sl 1 (eI own))), (8, aI a), (49, .pt 4 0), (52, .ms 52 1 0 1), (54, .pt 4 1), (56, aI a)], [(52, .arr 1 (eG [own])), (58, .arr 1 (eI fs)), (53, .arr 1 (eG gs)), (4, .var [.ms 53 1 0 gs.length, .ms 58 1 0 fs.length]), (2, .var [aNil, aNil])]⟩ Q := by
  refine AnyW.step ttOK etOK [1, 6, 8] (by decide +kernel) rfl rfl ?_
  refine AnyW.all1 ?_ ?_
  · refine AnyW.one (o := r19o 1) r19e1 rfl fun K hK => ?_
    simp [r19d1, r19p1, r19g1, and_assoc, eG_take, eI_take, eG_append, eG_one, eI_append, eI_one]
    first | refine hK _ ?_ | refine ⟨by omega, hK _ ?_⟩ | refine ⟨by omega, by omega, hK _ ?_⟩
    refine AnyW.weak ?_ (r19h11110101000000 ps k own fs gs a hg hf Q hQ)
    first | (refine Weak.to2 (Eq.refl _) ?_; simp; done) | exact Weak.to3 (by intro i; simp only [lk]; (repeat' split) <;> first | rfl | omega) (by simp)
  refine AnyW.all1 ?_ ?_
  · refine AnyW.one (o := r19o 6) r19e6 rfl fun K hK => ?_
    simp [r19d6, r19p6, r19g6, and_assoc, eG_take, eI_take, eG_append, eG_one, eI_append, eI_one]
    first | refine hK _ ?_ | refine ⟨by omega, hK _ ?_⟩ | refine ⟨by omega, by omega, hK _ ?_⟩
    refine AnyW.weak ?_ (r19h10110111000000 ps k own fs gs a hg hf Q hQ)
    first | (refine Weak.to2 (Eq.refl _) ?_; simp; done) | exact Weak.to3 (by intro i; simp only [lk]; (repeat' split) <;> first | rfl | omega) (by simp)
  refine AnyW.all1 ?_ ?_
  · refine AnyW.one (o := r19o 8) r19e8 rfl fun K hK => ?_
    simp [r19d8, r19p8, r19g8, and_assoc, eG_take, eI_take, eG_append, eG_one, eI_append, eI_one]
    first | refine hK _ ?_ | refine ⟨by omega, hK _ ?_⟩ | refine ⟨by omega, by omega, hK _ ?_⟩
    refine AnyW.weak ?_ (r19h10110101100000 ps k own fs gs a hg hf Q hQ)
    first | (refine Weak.to2 (Eq.refl _) ?_; simp; done) | exact Weak.to3 (by intro i; simp only [lk]; (repeat' split) <;> first | rfl | omega) (by simp)
  exact AnyW.all0
theorem r19h10110001100000 (ps : List (List D)) (k : Nat) (own fs : List Int) (gs : List (List Int)) (a : Int) (hg : gs.length ≤ 2000000) (hf : fs.length ≤ 2000000) (Q : Exit → St → Prop)
    (hQ : ∀ s', Weak s' ⟨62, [(0, .d (.sl 9 ps)), (2, .pt 2 0), (4, .pt 4 0), (5, aI k), (7, .d (.sl 1 (eI own))), (8, aI a)], [(58, .arr 1 (eI (fs ++ [a]))), (53, .arr 1 (eG (gs ++ [own]))), (4, .var [.ms 53 1 0 (gs.length + 1), .ms 58 1 0 (fs.length + 1)]), (2, .var [aNil, aNil])]⟩ → Q .normal s') : AnyW Try.prog r19ops [true, false, true, true, false, false, false, true, true, false, false, false, false, false] ⟨62, [(0, .d (.sl 9 ps)), (2, .pt 2 0), (4, .pt 4 0), (5, aI k), (7, .d (.sl 1 (eI own))), (8, aI a), (49, .pt 4 0), (52, .ms 52 1 0 1), (57, .ms 57 1 0 1)], [(52, .arr 1 (eG [own])), (57, .arr 1 (eI [a])), (58, .arr 1 (eI fs)), (53, .arr 1 (eG gs)), (4, .var [.ms 53 1 0 gs.length, .ms 58 1 0 fs.length]), (2, .var [aNil, aNil])]⟩ Q := by
  refine AnyW.step ttOK etOK [1, 5] (by decide +kernel) rfl rfl ?_
  refine AnyW.all1 ?_ ?_
  · refine AnyW.one (o := r19o 1) r19e1 rfl fun K hK => ?_
    simp [r19d1, r19p1, r19g1, and_assoc, eG_take, eI_take, eG_append, eG_one, eI_append, eI_one]
    first | refine hK _ ?_ | refine ⟨by omega, hK _ ?_⟩ | refine ⟨by omega, by omega, hK _ ?_⟩
    refine AnyW.weak ?_ (r19h11110001100000 ps k own fs gs a hg hf Q hQ)
    first | (refine Weak.to2 (Eq.refl _) ?_; simp; done) | exact Weak.to3 (by intro i; simp only [lk]; (repeat' split) <;> first | rfl | omega) (by simp)
  refine AnyW.all1 ?_ ?_
  · refine AnyW.one (o := r19o 5) r19e5 rfl fun K hK => ?_
    simp [r19d5, r19p5, r19g5, and_assoc, eG_take, eI_take, eG_append, eG_one, eI_append, eI_one]
    first | refine hK _ ?_ | refine ⟨by omega, hK _ ?_⟩ | refine ⟨by omega, by omega, hK _ ?_⟩
    refine AnyW.weak ?_ (r19h10110101100000 ps k own fs gs a hg hf Q hQ)
    first | (refine Weak.to2 (Eq.refl _) ?_; simp; done) | exact Weak.to3 (by intro i; simp only [lk]; (repeat' split) <;> first | rfl | omega) (by simp)
  exact AnyW.all0
theorem r19h10100111000000 (ps : List (List D)) (k : Nat) (own fs : List Int) (gs : List (List Int)) (a : Int) (hg : gs.length ≤ 2000000) (hf : fs.length ≤ 2000000) (Q : Exit → St → Prop)
    (hQ : ∀ s', Weak s' ⟨62, [(0, .d (.sl 9 ps)), (2, .pt 2 0), (4, .pt 4 0), (5, aI k), (7, .d (.sl 1 (eI own))), (8, aI a)], [(58, .arr 1 (eI (fs ++ [a]))), (53, .arr 1 (eG (gs ++ [own]))), (4, .var [.ms 53 1 0 (gs.length + 1), .ms 58 1 0 (fs.length + 1)]), (2, .var [aNil, aNil])]⟩ → Q .normal s') : AnyW Try.prog r19ops [true, false, true, false, false, true, true, true, false, false, false, false, false, false] ⟨62, [(0, .d (.sl 9 ps)), (2, .pt 2 0), (4, .pt 4 0), (5, aI k), (7, .d (.sl 1 (eI own))), (8, aI a), (49, .pt 4 0), (51, .d (.sl 1 (eI own))), (54, .pt 4 1), (55, .ms 58 1 0 fs.length), (56, aI a)], [(58, .arr 1 (eI fs)), (53, .arr 1 (eG gs)), (4, .var [.ms 53 1 0 gs.length, .ms 58 1 0 fs.length]), (2, .var [aNil, aNil])]⟩ Q := by
  refine AnyW.step ttOK etOK [1, 3, 8] (by decide +kernel) rfl rfl ?_
  refine AnyW.all1 ?_ ?_
  · refine AnyW.one (o := r19o 1) r19e1 rfl fun K hK => ?_
    simp [r19d1, r19p1, r19g1, and_assoc, eG_take, eI_take, eG_append, eG_one, eI_append, eI_one]
    first | refine hK _ ?_ | refine ⟨by omega, hK _ ?_⟩ | refine ⟨by omega, by omega, hK _ ?_⟩
    refine AnyW.weak ?_ (r19h11100111000000 ps k own fs gs a hg hf Q hQ)
    first | (refine Weak.to2 (Eq.refl _) ?_; simp; done) | exact Weak.to3 (by intro i; simp only [lk]; (repeat' split) <;> first | rfl | omega) (by simp)
  refine AnyW.all1 ?_ ?_
  · refine AnyW.one (o := r19o 3) r19e3 rfl fun K hK => ?_
    simp [r19d3, r19p3, r19g3, and_assoc, eG_take, eI_take, eG_append, eG_one, eI_append, eI_one]
    first | refine hK _ ?_ | refine ⟨by omega, hK _ ?_⟩ | refine ⟨by omega, by omega, hK _ ?_⟩
    refine AnyW.weak ?_ (r19h10110111000000 ps k own fs gs a hg hf Q hQ)
    first | (refine Weak.to2 (Eq.refl _) ?_; simp; done) | exact Weak.to3 (by intro i; simp only [lk]; (repeat' split) <;> first | rfl | omega) (by simp)
  refine AnyW.all1 ?_ ?_
  · refine AnyW.one (o := r19o 8) r19e8 rfl fun K hK => ?_
    simp [r19d8, r19p8, r19g8, and_assoc, eG_take, eI_take, eG_append, eG_one, eI_append, eI_one]
    first | refine hK _ ?_ | refine ⟨by omega, hK _ ?_⟩ | refine ⟨by omega, by omega, hK _ ?_⟩
    refine AnyW.weak ?_ (r19h10100111100000 ps k own fs gs a hg hf Q hQ)
    first | (refine Weak.to2 (Eq.refl _) ?_; simp; done) | exact Weak.to3 (by intro i; simp only [lk]; (repeat' split) <;> first | rfl | omega) (by simp)
  exact AnyW.all0
theorem r19h10100101100000 (ps : List (List D)) (k : Nat) (own fs : List Int) (gs : List (List Int)) (a : Int) (hg : gs.length ≤ 2000000) (hf : fs.length ≤ 2000000) (Q : Exit → St → Prop)
    (hQ : ∀ s', Weak s' ⟨62, [(0, .d (.sl 9 ps)), (2, .pt 2 0), (4, .pt 4 0), (5, aI k), (7, .d (.sl 1 (eI own))), (8, aI a)], [(58, .arr 1 (eI (fs ++ [a]))), (53, .arr 1 (eG (gs ++ [own]))), (4, .var [.ms 53 1 0 (gs.length + 1), .ms 58 1 0 (fs.length + 1)]), (2, .var [aNil, aNil])]⟩ → Q .normal s') : AnyW Try.prog r19ops [true, false, true, false, false, true, false, true, true, false, false, false, false, false] ⟨62, [(0, .d (.sl 9 ps)), (2, .pt 2 0), (4, .pt 4 0), (5, aI k), (7, .d (.sl 1 (eI own))), (8, aI a), (49, .pt 4 0), (51, .d (.sl 1 (eI own))), (54, .pt 4 1), (57, .ms 57 1 0 1)], [(57, .arr 1 (eI [a])), (58, .arr 1 (eI fs)), (53, .arr 1 (eG gs)), (4, .var [.ms 53 1 0 gs.length, .ms 58 1 0 fs.length]), (2, .var [aNil, aNil])]⟩ Q := by
  refine AnyW.step ttOK etOK [1, 3, 6] (by decide +kernel) rfl rfl ?_
  refine AnyW.all1 ?_ ?_
  · refine AnyW.one (o := r19o 1) r19e1 rfl fun K hK => ?_
    simp [r19d1, r19p1, r19g1, and_assoc, eG_take, eI_take, eG_append, eG_one, eI_append, eI_one]
    first | refine hK _ ?_ | refine ⟨by omega, hK _ ?_⟩ | refine ⟨by omega, by omega, hK _ ?_⟩
    refine AnyW.weak ?_ (r19h11100101100000 ps k own fs gs a hg hf Q hQ)
    first | (refine Weak.to2 (Eq.refl _) ?_; simp; done) | exact Weak.to3 (by intro i; simp only [lk]; (repeat' split) <;> first | rfl | omega) (by simp)
  refine AnyW.all1 ?_ ?_
  · refine AnyW.one (o := r19o 3) r19e3 rfl fun K hK => ?_
    simp [r19d3, r19p3, r19g3, and_assoc, eG_take, eI_take, eG_append, eG_one, eI_append, eI_one]
    first | refine hK _ ?_ | refine ⟨by omega, hK _ ?_⟩ | refine ⟨by omega, by omega, hK _ ?_⟩
    refine AnyW.weak ?_ (r19h10110101100000 ps k own fs gs a hg hf Q hQ)
    first | (refine Weak.to2 (Eq.refl _) ?_; simp; done) | exact Weak.to3 (by intro i; simp only [lk]; (repeat' split) <;> first | rfl | omega) (by simp)
  refine AnyW.all1 ?_ ?_
  · refine AnyW.one (o := r19o 6) r19e6 rfl fun K hK => ?_
    simp [r19d6, r19p6, r19g6, and_assoc, eG_take, eI_take, eG_append, eG_one, eI_append, eI_one]
    first | refine hK _ ?_ | refine ⟨by omega, hK _ ?_⟩ | refine ⟨by omega, by omega, hK _ ?_⟩
    refine AnyW.weak ?_ (r19h10100111100000 ps k own fs gs a hg hf Q hQ)
    first | (refine Weak.to2 (Eq.refl _) ?_; simp; done) | exact Weak.to3 (by intro i; simp only [lk]; (repeat' split) <;> first | rfl | omega) (by simp)
  exact AnyW.all0
theorem r19h10000111100000 (ps : List (List D)) (k : Nat) (own fs : List Int) (gs : List (List Int)) (a : Int) (hg : gs.length ≤ 2000000) (hf : fs.length ≤ 2000000) (Q : Exit → St → Prop)
    (hQ : ∀ s', Weak s' ⟨62, [(0, .d (.sl 9 ps)), (2, .pt 2 0), (4, .pt 4 0), (5, aI k), (7, .d (.sl 1 (eI own))), (8, aI a)], [(58, .arr 1 (eI (fs ++ [a]))), (53, .arr 1 (eG (gs ++ [own]))), (4, .var [.ms 53 1 0 (gs.length + 1), .ms 58 1 0 (fs.length + 1)]), (2, .var [aNil, aNil])]⟩ → Q .normal s') : AnyW Try.prog r19ops [true, false, false, false, false, true, true, true, true, false, false, false, false, false] ⟨62, [(0, .d (.sl 9 ps)), (2, .pt 2 0), (4, .pt 4 0), (5, aI k), (7, .d (.sl 1 (eI own))), (8, aI a), (49, .pt 4 0), (54, .pt 4 1), (55, .ms 58 1 0 fs.length), (57, .ms 57 1 0 1)], [(57, .arr 1 (eI [a])), (58, .arr 1 (eI fs)), (53, .arr 1 (eG gs)), (4, .var [.ms 53 1 0 gs.length, .ms 58 1 0 fs.length]), (2, .var [aNil, aNil])]⟩ Q := by
  refine AnyW.step ttOK etOK [1, 2] (by decide +kernel) rfl rfl ?_
  refine AnyW.all1 ?_ ?_
  · refine AnyW.one (o := r19o 1) r19e1 rfl fun K hK => ?_
    simp [r19d1, r19p1, r19g1, and_assoc, eG_take, eI_take, eG_append, eG_one, eI_append, eI_one]
    first | refine hK _ ?_ | refine ⟨by omega, hK _ ?_⟩ | refine ⟨by omega, by omega, hK _ ?_⟩
    refine AnyW.weak ?_ (r19h11000111100000 ps k own fs gs a hg hf Q hQ)
    first | (refine Weak.to2 (Eq.refl _) ?_; simp; done) | exact Weak.to3 (by intro i; simp only [lk]; (repeat' split) <;> first | rfl | omega) (by simp)
  refine AnyW.all1 ?_ ?_
  · refine AnyW.one (o := r19o 2) r19e2 rfl fun K hK => ?_
    simp [r19d2, r19p2, r19g2, and_assoc, eG_take, eI_take, eG_append, eG_one, eI_append, eI_one]
    first | refine hK _ ?_ | refine ⟨by omega, hK _ ?_⟩ | refine ⟨by omega, by omega, hK _ ?_⟩
    refine AnyW.weak ?_ (r19h10100111100000 ps k own fs gs a hg hf Q hQ)
    first | (refine Weak.to2 (Eq.refl _) ?_; simp; done) | exact Weak.to3 (by intro i; simp only [lk]; (repeat' split) <;> first | rfl | omega) (by simp)
  exact AnyW.all0
theorem r19h00110111000000 (ps : List (List D)) (k : Nat) (own fs : List Int) (gs : List (List Int)) (a : Int) (hg : gs.length ≤ 2000000) (hf : fs.length ≤ 2000000) (Q : Exit → St → Prop)
    (hQ : ∀ s', Weak s' ⟨62, [(0, .d (.sl 9 ps)), (2, .pt 2 0), (4, .pt 4 0), (5, aI k), (7, .d (.sl 1 (eI own))), (8, aI a)], [(58, .arr 1 (eI (fs ++ [a]))), (53, .arr 1 (eG (gs ++ [own]))), (4, .var [.ms 53 1 0 (gs.length + 1), .ms 58 1 0 (fs.length + 1)]), (2, .var [aNil, aNil])]⟩ → Q .normal s') : AnyW Try.prog r19ops [false, false, true, true, false, true, true, true, false, false, false, false, false, false] ⟨62, [(0, .d (.sl 9 ps)), (2, .pt 2 0), (4, .pt 4 0), (5, aI k), (7, .d (.sl 1 (eI own))), (8, aI a), (52, .ms 52 1 0 1), (54, .pt 4 1), (55, .ms 58 1 0 fs.length), (56, aI a)], [(52, .arr 1 (eG [own])), (58, .arr 1 (eI fs)), (53, .arr 1 (eG gs)), (4, .var [.ms 53 1 0 gs.length, .ms 58 1 0 fs.length]), (2, .var [aNil, aNil])]⟩ Q := by
  refine AnyW.step ttOK etOK [0, 8] (by decide +kernel) rfl rfl ?_
  refine AnyW.all1 ?_ ?_
  · refine AnyW.one (o := r19o 0) r19e0 rfl fun K hK => ?_
    simp [r19d0, r19p0, r19g0, and_assoc, eG_take, eI_take, eG_append, eG_one, eI_append, eI_one]
    first | refine hK _ ?_ | refine ⟨by omega, hK _ ?_⟩ | refine ⟨by omega, by omega, hK _ ?_⟩
    refine AnyW.weak ?_ (r19h10110111000000 ps k own fs gs a hg hf Q hQ)
    first | (refine Weak.to2 (Eq.refl _) ?_; simp; done) | exact Weak.to3 (by intro i; simp only [lk]; (repeat' split) <;> first | rfl | omega) (by simp)
  refine AnyW.all1 ?_ ?_
  · refine AnyW.one (o := r19o 8) r19e8 rfl fun K hK => ?_
    simp [r19d8, r19p8, r19g8, and_assoc, eG_take, eI_take, eG_append, eG_one, eI_append, eI_one]
    first | refine hK _ ?_ | refine ⟨by omega, hK _ ?_⟩ | refine ⟨by omega, by omega, hK _ ?_⟩
    refine AnyW.weak ?_ (r19h00110111100000 ps k own fs gs a hg hf Q hQ)
    first | (refine Weak.to2 (Eq.refl _) ?_; simp; done) | exact Weak.to3 (by intro i; simp only [lk]; (repeat' split) <;> first | rfl | omega) (by simp)
  exact AnyW.all0
theorem r19h00110101100000 (ps : List (List D)) (k : Nat) (own fs : List Int) (gs : List (List Int)) (a : Int) (hg : gs.length ≤ 2000000) (hf : fs.length ≤ 2000000) (Q : Exit → St → Prop)
    (hQ : ∀ s', Weak s' ⟨62, [(0, .d (.sl 9 ps)), (2, .pt 2 0), (4, .pt 4 0), (5, aI k), (7, .d (.sl 1 (eI own))), (8, aI a)], [(58, .arr 1 (eI (fs ++ [a]))), (53, .arr 1 (eG (gs ++ [own]))), (4, .var [.ms 53 1 0 (gs.length + 1), .ms 58 1 0 (fs.length + 1)]), (2, .var [aNil, aNil])]⟩ → Q .normal s') : AnyW Try.prog r19ops [false, false, true, true, false, true, false, true, true, false, false, false, false, false] ⟨62, [(0, .d (.sl 9 ps)), (2, .pt 2 0), (4, .pt 4 0), (5, aI k), (7, .d (.sl 1 (eI own))), (8, aI a), (52, .ms 52 1 0 1), (54, .pt 4 1), (57, .ms 57 1 0 1)], [(52, .arr 1 (eG [own])), (57, .arr 1 (eI [a])), (58, .arr 1 (eI fs)), (53, .arr 1 (eG gs)), (4, .var [.ms 53 1 0 gs.length, .ms 58 1 0 fs.length]), (2, .var [aNil, aNil])]⟩ Q := by
  refine AnyW.step ttOK etOK [0, 6] (by decide +kernel) rfl rfl ?_
  refine AnyW.all1 ?_ ?_
  · refine AnyW.one (o := r19o 0) r19e0 rfl fun K hK => ?_
    simp [r19d0, r19p0, r19g0, and_assoc, eG_take, eI_take, eG_append, eG_one, eI_append, eI_one]
    first | refine hK _ ?_ | refine ⟨by omega, hK _ ?_⟩ | refine ⟨by omega, by omega, hK _ ?_⟩
    refine AnyW.weak ?_ (r19h10110101100000 ps k own fs gs a hg hf Q hQ)
    first | (refine Weak.to2 (Eq.refl _) ?_; simp; done) | exact Weak.to3 (by intro i; simp only [lk]; (repeat' split) <;> first | rfl | omega) (by simp)
  refine AnyW.all1 ?_ ?_
  · refine AnyW.one (o := r19o 6) r19e6 rfl fun K hK => ?_
    simp [r19d6, r19p6, r19g6, and_assoc, eG_take, eI_take, eG_append, eG_one, eI_append, eI_one]
    first | refine hK _ ?_ | refine ⟨by omega, hK _ ?_⟩ | refine ⟨by omega, by omega, hK _ ?_⟩
    refine AnyW.weak ?_ (r19h00110111100000 ps k own fs gs a hg hf Q hQ)
    first | (refine Weak.to2 (Eq.refl _) ?_; simp; done) | exact Weak.to3 (by intro i; simp only [lk]; (repeat' split) <;> first | rfl | omega) (by simp)
  exact AnyW.all0
theorem r19h00100111100000 (ps : List (List D)) (k : Nat) (own fs : List Int) (gs : List (List Int)) (a : Int) (hg : gs.length ≤ 2000000) (hf : fs.length ≤ 2000000) (Q : Exit → St → Prop)
    (hQ : ∀ s', Weak s' ⟨62, [(0, .d (.sl 9 ps)), (2, .pt 2 0), (4, .pt 4 0), (5, aI k), (7, .d (.sl 1 (eI own))), (8, aI a)], [(58, .arr 1 (eI (fs ++ [a]))), (53, .arr 1 (eG (gs ++ [own]))), (4, .var [.ms 53 1 0 (gs.length + 1), .ms 58 1 0 (fs.length + 1)]), (2, .var [aNil, aNil])]⟩ → Q .normal s') : AnyW Try.prog r19ops [false, false, true, false, false, true, true, true, true, false, false, false, false, false] ⟨62, [(0, .d (.sl 9 ps)), (2, .pt 2 0), (4, .pt 4 0), (5, aI k), (7, .d (.sl 1 (eI own))), (8, aI a), (51, .d (.sl 1 (eI own))), (54, .pt 4 1), (55, .ms 58 1 0 fs.length), (57, .ms 57 1 0 1)], [(57, .arr 1 (eI [a])), (58, .arr 1 (eI fs)), (53, .arr 1 (eG gs)), (4, .var [.ms 53 1 0 gs.length, .ms 58 1 0 fs.length]), (2, .var [aNil, aNil])]⟩ Q := by
  refine AnyW.step ttOK etOK [0, 3] (by decide +kernel) rfl rfl ?_
  refine AnyW.all1 ?_ ?_
  · refine AnyW.one (o := r19o 0) r19e0 rfl fun K hK => ?_
    simp [r19d0, r19p0, r19g0, and_assoc, eG_take, eI_take, eG_append, eG_one, eI_append, eI_one]
    first | refine hK _ ?_ | refine ⟨by omega, hK _ ?_⟩ | refine ⟨by omega, by omega, hK _ ?_⟩
    refine AnyW.weak ?_ (r19h10100111100000 ps k own fs gs a hg hf Q hQ)
    first | (refine Weak.to2 (Eq.refl _) ?_; simp; done) | exact Weak.to3 (by intro i; simp only [lk]; (repeat' split) <;> first | rfl | omega) (by simp)
  refine AnyW.all1 ?_ ?_
  · refine AnyW.one (o := r19o 3) r19e3 rfl fun K hK => ?_
    simp [r19d3, r19p3, r19g3, and_assoc, eG_take, eI_take, eG_append, eG_one, eI_append, eI_one]
    first | refine hK _ ?_ | refine ⟨by omega, hK _ ?_⟩ | refine ⟨by omega, by omega, hK _ ?_⟩
    refine AnyW.weak ?_ (r19h00110111100000 ps k own fs gs a hg hf Q hQ)
    first | (refine Weak.to2 (Eq.refl _) ?_; simp; done) | exact Weak.to3 (by intro i; simp only [lk]; (repeat' split) <;> first | rfl | omega) (by simp)
  exact AnyW.all0
theorem r19h11110000000000 (ps : List (List D)) (k : Nat) (own fs : List Int) (gs : List (List Int)) (a : Int) (hg : gs.length ≤ 2000000) (hf : fs.length ≤ 2000000) (Q : Exit → St → Prop)
    (hQ : ∀ s', Weak s' ⟨62, [(0, .d (.sl 9 ps)), (2, .pt 2 0), (4, .pt 4 0), (5, aI k), (7, .d (.sl 1 (eI own))), (8, aI a)], [(58, .arr 1 (eI (fs ++ [a]))), (53, .arr 1 (eG (gs ++ [own]))), (4, .var [.ms 53 1 0 (gs.length + 1), .ms 58 1 0 (fs.length + 1)]), (2, .var [aNil, aNil])]⟩ → Q .normal s') : AnyW Try.prog r19ops [true, true, true, true, false, false, false, false, false, false, false, false, false, false] ⟨62, [(0, .d (.sl 9 ps)), (2, .pt 2 0), (4, .pt 4 0), (5, aI k), (7, .d (.sl 1 (eI own))), (8, aI a), (49, .pt 4 0), (50, .ms 53 1 0 gs.length), (52, .ms 52 1 0 1)], [(52, .arr 1 (eG [own])), (58, .arr 1 (eI fs)), (53, .arr 1 (eG gs)), (4, .var [.ms 53 1 0 gs.length, .ms 58 1 0 fs.length]), (2, .var [aNil, aNil])]⟩ Q := by
  refine AnyW.step ttOK etOK [4, 5, 7] (by decide +kernel) rfl rfl ?_
  refine AnyW.all1 ?_ ?_
  · refine AnyW.one (o := r19o 4) r19e4 rfl fun K hK => ?_
    simp [r19d4, r19p4, r19g4, and_assoc, eG_take, eI_take, eG_append, eG_one, eI_append, eI_one]
    first | refine hK _ ?_ | refine ⟨by omega, hK _ ?_⟩ | refine ⟨by omega, by omega, hK _ ?_⟩
    refine AnyW.weak ?_ (r19h11111000000000 ps k own fs gs a hg hf Q hQ)
    first | (refine Weak.to2 (Eq.refl _) ?_; simp; done) | exact Weak.to3 (by intro i; simp only [lk]; (repeat' split) <;> first | rfl | omega) (by simp)
  refine AnyW.all1 ?_ ?_
  · refine AnyW.one (o := r19o 5) r19e5 rfl fun K hK => ?_
    simp [r19d5, r19p5, r19g5, and_assoc, eG_take, eI_take, eG_append, eG_one, eI_append, eI_one]
    first | refine hK _ ?_ | refine ⟨by omega, hK _ ?_⟩ | refine ⟨by omega, by omega, hK _ ?_⟩
    refine AnyW.weak ?_ (r19h11110100000000 ps k own fs gs a hg hf Q hQ)
    first | (refine Weak.to2 (Eq.refl _) ?_; simp; done) | exact Weak.to3 (by intro i; simp only [lk]; (repeat' split) <;> first | rfl | omega) (by simp)
  refine AnyW.all1 ?_ ?_
  · refine AnyW.one (o := r19o 7) r19e7 rfl fun K hK => ?_
    simp [r19d7, r19p7, r19g7, and_assoc, eG_take, eI_take, eG_append, eG_one, eI_append, eI_one]
    first | refine hK _ ?_ | refine ⟨by omega, hK _ ?_⟩ | refine ⟨by omega, by omega, hK _ ?_⟩
    refine AnyW.weak ?_ (r19h11110001000000 ps k own fs gs a hg hf Q hQ)
    first | (refine Weak.to2 (Eq.refl _) ?_; simp; done) | exact Weak.to3 (by intro i; simp only [lk]; (repeat' split) <;> first | rfl | omega) (by simp)
  exact AnyW.all0
theorem r19h11100100000000 (ps : List (List D)) (k : Nat) (own fs : List Int) (gs : List (List Int)) (a : Int) (hg : gs.length ≤ 2000000) (hf : fs.length ≤ 2000000) (Q : Exit → St → Prop)
    (hQ : ∀ s', Weak s' ⟨62, [(0, .d (.sl 9 ps)), (2, .pt 2 0), (4, .pt 4 0), (5, aI k), (7, .d (.sl 1 (eI own))), (8, aI a)], [(58, .arr 1 (eI (fs ++ [a]))), (53, .arr 1 (eG (gs ++ [own]))), (4, .var [.ms 53 1 0 (gs.length + 1), .ms 58 1 0 (fs.length + 1)]), (2, .var [aNil, aNil])]⟩ → Q .normal s') : AnyW Try.prog r19ops [true, true, true, false, false, true, false, false, false, false, false, false, false, false] ⟨62, [(0, .d (.sl 9 ps)), (2, .pt 2 0), (4, .pt 4 0), (5, aI k), (7, .d (.sl 1 (eI own))), (8, aI a), (49, .pt 4 0), (50, .ms 53 1 0 gs.length), (51, .d (.sl 1 (eI own))), (54, .pt 4 1)], [(58, .arr 1 (eI fs)), (53, .arr 1 (eG gs)), (4, .var [.ms 53 1 0 gs.length, .ms 58 1 0 fs.length]), (2, .var [aNil, aNil])]⟩ Q := by
  refine AnyW.step ttOK etOK [3, 6, 7] (by decide +kernel) rfl rfl ?_
  refine AnyW.all1 ?_ ?_
  · refine AnyW.one (o := r19o 3) r19e3 rfl fun K hK => ?_
    simp [r19d3, r19p3, r19g3, and_assoc, eG_take, eI_take, eG_append, eG_one, eI_append, eI_one]
    first | refine hK _ ?_ | refine ⟨by omega, hK _ ?_⟩ | refine ⟨by omega, by omega, hK _ ?_⟩
    refine AnyW.weak ?_ (r19h11110100000000 ps k own fs gs a hg hf Q hQ)
    first | (refine Weak.to2 (Eq.refl _) ?_; simp; done) | exact Weak.to3 (by intro i; simp only [lk]; (repeat' split) <;> first | rfl | omega) (by simp)
  refine AnyW.all1 ?_ ?_
  · refine AnyW.one (o := r19o 6) r19e6 rfl fun K hK => ?_
    simp [r19d6, r19p6, r19g6, and_assoc, eG_take, eI_take, eG_append, eG_one, eI_append, eI_one]
    first | refine hK _ ?_ | refine ⟨by omega, hK _ ?_⟩ | refine ⟨by omega, by omega, hK _ ?_⟩
    refine AnyW.weak ?_ (r19h11100110000000 ps k own fs gs a hg hf Q hQ)
    first | (refine Weak.to2 (Eq.refl _) ?_; simp; done) | exact Weak.to3 (by intro i; simp only [lk]; (repeat' split) <;> first | rfl | omega) (by simp)
  refine AnyW.all1 ?_ ?_
  · refine AnyW.one (o := r19o 7) r19e7 rfl fun K hK => ?_
    simp [r19d7, r19p7, r19g7, and_assoc, eG_take, eI_take, eG_append, eG_one, eI_append, eI_one]
    first | refine hK _ ?_ | refine ⟨by omega, hK _ ?_⟩ | refine ⟨by omega, by omega, hK _ ?_⟩
    refine AnyW.weak ?_ (r19h11100101000000 ps k own fs gs a hg hf Q hQ)
    first | (refine Weak.to2 (Eq.refl _) ?_; simp; done) | exact Weak.to3 (by intro i; simp only [lk]; (repeat' split) <;> first | rfl | omega) (by simp)
  exact AnyW.all0
theorem r19h11100001000000 (ps : List (List D)) (k : Nat) (own fs : List Int) (gs : List (List Int)) (a : Int) (hg : gs.length ≤ 2000000) (hf : fs.length ≤ 2000000) (Q : Exit → St → Prop)
    (hQ : ∀ s', Weak s' ⟨62, [(0, .d (.sl 9 ps)), (2, .pt 2 0), (4, .pt 4 0), (5, aI k), (7, .d (.sl 1 (eI own))), (8, aI a)], [(58, .arr 1 (eI (fs ++ [a]))), (53, .arr 1 (eG (gs ++ [own]))), (4, .var [.ms 53 1 0 (gs.length + 1), .ms 58 1 0 (fs.length + 1)]), (2, .var [aNil, aNil])]⟩ → Q .normal s') : AnyW Try.prog r19ops [true, true, true, false, false, false, false, true, false, false, false, false, false, false] ⟨62, [(0, .d (.sl 9 ps)), (2, .pt 2 0), (4, .pt 4 0), (5, aI k), (7, .d (.sl 1 (eI own))), (8, aI a), (49, .pt 4 0), (50, .ms 53 1 0 gs.length), (51, .d (.sl 1 (eI own))), (56, aI a)], [(58, .arr 1 (eI fs)), (53, .arr 1 (eG gs)), (4, .var [.ms 53 1 0 gs.length, .ms 58 1 0 fs.length]), (2, .var [aNil, aNil])]⟩ Q := by
  refine AnyW.step ttOK etOK [3, 5, 8] (by decide +kernel) rfl rfl ?_
  refine AnyW.all1 ?_ ?_
  · refine AnyW.one (o := r19o 3) r19e3 rfl fun K hK => ?_
    simp [r19d3, r19p3, r19g3, and_assoc, eG_take, eI_take, eG_append, eG_one, eI_append, eI_one]
    first | refine hK _ ?_ | refine ⟨by omega, hK _ ?_⟩ | refine ⟨by omega, by omega, hK _ ?_⟩
    refine AnyW.weak ?_ (r19h11110001000000 ps k own fs gs a hg hf Q hQ)
    first | (refine Weak.to2 (Eq.refl _) ?_; simp; done) | exact Weak.to3 (by intro i; simp only [lk]; (repeat' split) <;> first | rfl | omega) (by simp)
  refine AnyW.all1 ?_ ?_
  · refine AnyW.one (o := r19o 5) r19e5 rfl fun K hK => ?_
    simp [r19d5, r19p5, r19g5, and_assoc, eG_take, eI_take, eG_append, eG_one, eI_append, eI_one]
    first | refine hK _ ?_ | refine ⟨by omega, hK _ ?_⟩ | refine ⟨by omega, by omega, hK _ ?_⟩
    refine AnyW.weak ?_ (r19h11100101000000 ps k own fs gs a hg hf Q hQ)
    first | (refine Weak.to2 (Eq.refl _) ?_; simp; done) | exact Weak.to3 (by intro i; simp only [lk]; (repeat' split) <;> first | rfl | omega) (by simp)
  refine AnyW.all1 ?_ ?_
  · refine AnyW.one (o := r19o 8) r19e8 rfl fun K hK => ?_
    simp [r19d8, r19p8, r19g8, and_assoc, eG_take, eI_take, eG_append, eG_one, eI_append, eI_one]
    first | refine hK _ ?_ | refine ⟨by omega, hK _ ?_⟩ | refine ⟨by omega, by omega, hK _ ?_⟩
    refine AnyW.weak ?_ (r19h11100001100000 ps k own fs gs a hg hf Q hQ)
    first | (refine Weak.to2 (Eq.refl _) ?_; simp; done) | exact Weak.to3 (by intro i; simp only [lk]; (repeat' split) <;> first | rfl | omega) (by simp)
  exact AnyW.all0
theorem r19h11000110000000 (ps : List (List D)) (k : Nat) (own fs : List Int) (gs : List (List Int)) (a : Int) (hg : gs.length ≤ 2000000) (hf : fs.length ≤ 2000000) (Q : Exit → St → Prop)
    (hQ : ∀ s', Weak s' ⟨62, [(0, .d (.sl 9 ps)), (2, .pt 2 0), (4, .pt 4 0), (5, aI k), (7, .d (.sl 1 (eI own))), (8, aI a)], [(58, .arr 1 (eI (fs ++ [a]))), (53, .arr 1 (eG (gs ++ [own]))), (4, .var [.ms 53 1 0 (gs.length + 1), .ms 58 1 0 (fs.length + 1)]), (2, .var [aNil, aNil])]⟩ → Q .normal s') : AnyW Try.prog r19ops [true, true, false, false, false, true, true, false, false, false, false, false, false, false] ⟨62, [(0, .d (.sl 9 ps)), (2, .pt 2 0), (4, .pt 4 0), (5, aI k), (7, .d (.sl 1 (eI own))), (8, aI a), (49, .pt 4 0), (50, .ms 53 1 0 gs.length), (54, .pt 4 1), (55, .ms 58 1 0 fs.length)], [(58, .arr 1 (eI fs)), (53, .arr 1 (eG gs)), (4, .var [.ms 53 1 0 gs.length, .ms 58 1 0 fs.length]), (2, .var [aNil, aNil])]⟩ Q := by
  refine AnyW.step ttOK etOK [2, 7] (by decide +kernel) rfl rfl ?_
  refine AnyW.all1 ?_ ?_
  · refine AnyW.one (o := r19o 2) r19e2 rfl fun K hK => ?_
    simp [r19d2, r19p2, r19g2, and_assoc, eG_take, eI_take, eG_append, eG_one, eI_append, eI_one]
    first | refine hK _ ?_ | refine ⟨by omega, hK _ ?_⟩ | refine ⟨by omega, by omega, hK _ ?_⟩
    refine AnyW.weak ?_ (r19h11100110000000 ps k own fs gs a hg hf Q hQ)
    first | (refine Weak.to2 (Eq.refl _) ?_; simp; done) | exact Weak.to3 (by intro i; simp only [lk]; (repeat' split) <;> first | rfl | omega) (by simp)
  refine AnyW.all1 ?_ ?_
  · refine AnyW.one (o := r19o 7) r19e7 rfl fun K hK => ?_
    simp [r19d7, r19p7, r19g7, and_assoc, eG_take, eI_take, eG_append, eG_one, eI_append, eI_one]
    first | refine hK _ ?_ | refine ⟨by omega, hK _ ?_⟩ | refine ⟨by omega, by omega, hK _ ?_⟩
    refine AnyW.weak ?_ (r19h11000111000000 ps k own fs gs a hg hf Q hQ)
    first | (refine Weak.to2 (Eq.refl _) ?_; simp; done) | exact Weak.to3 (by intro i; simp only [lk]; (repeat' split) <;> first | rfl | omega) (by simp)
  exact AnyW.all0
theorem r19h11000101000000 (ps : List (List D)) (k : Nat) (own fs : List Int) (gs : List (List Int)) (a : Int) (hg : gs.length ≤ 2000000) (hf : fs.length ≤ 2000000) (Q : Exit → St → Prop)
    (hQ : ∀ s', Weak s' ⟨62, [(0, .d (.sl 9 ps)), (2, .pt 2 0), (4, .pt 4 0), (5, aI k), (7, .d (.sl 1 (eI own))), (8, aI a)], [(58, .arr 1 (eI (fs ++ [a]))), (53, .arr 1 (eG (gs ++ [own]))), (4, .var [.ms 53 1 0 (gs.length + 1), .ms 58 1 0 (fs.length + 1)]), (2, .var [aNil, aNil])]⟩ → Q .normal s') : AnyW Try.prog r19ops [true, true, false, false, false, true, false, true, false, false, false, false, false, false] ⟨62, [(0, .d (.sl 9 ps)), (2, .pt 2 0), (4, .pt 4 0), (5, aI k), (7, .d (.sl 1 (eI own))), (8, aI a), (49, .pt 4 0), (50, .ms 53 1 0 gs.length), (54, .pt 4 1), (56, aI a)], [(58, .arr 1 (eI fs)), (53, .arr 1 (eG gs)), (4, .var [.ms 53 1 0 gs.length, .ms 58 1 0 fs.length]), (2, .var [aNil, aNil])]⟩ Q := by
  refine AnyW.step ttOK etOK [2, 6, 8] (by decide +kernel) rfl rfl ?_
  refine AnyW.all1 ?_ ?_
  · refine AnyW.one (o := r19o 2) r19e2 rfl fun K hK => ?_
    simp [r19d2, r19p2, r19g2, and_assoc, eG_take, eI_take, eG_append, eG_one, eI_append, eI_one]
    first | refine hK _ ?_ | refine ⟨by omega, hK _ ?_⟩ | refine ⟨by omega, by omega, hK _ ?_⟩
    refine AnyW.weak ?_ (r19h11100101000000 ps k own fs gs a hg hf Q hQ)
    first | (refine Weak.to2 (Eq.refl _) ?_; simp; done) | exact Weak.to3 (by intro i; simp only [lk]; (repeat' split) <;> first | rfl | omega) (by simp)
  refine AnyW.all1 ?_ ?_
  · refine AnyW.one (o := r19o 6) r19e6 rfl fun K hK => ?_
    simp [r19d6, r19p6, r19g6, and_assoc, eG_take, eI_take, eG_append, eG_one, eI_append, eI_one]
    first | refine hK _ ?_ | refine ⟨by omega, hK _ ?_⟩ | refine ⟨by omega, by omega, hK _ ?_⟩
    refine AnyW.weak ?_ (r19h11000111000000 ps k own fs gs a hg hf Q hQ)
    first | (refine Weak.to2 (Eq.refl _) ?_; simp; done) | exact Weak.to3 (by intro i; simp only [lk]; (repeat' split) <;> first | rfl | omega) (by simp)
  refine AnyW.all1 ?_ ?_
  · refine AnyW.one (o := r19o 8) r19e8 rfl fun K hK => ?_
    simp [r19d8, r19p8, r19g8, and_assoc, eG_take, eI_take, eG_append, eG_one, eI_append, eI_one]
    first | refine hK _ ?_ | refine ⟨by omega, hK _ ?_⟩ | refine ⟨by omega, by omega, hK _ ?_⟩
    refine AnyW.weak ?_ (r19h11000101100000 ps k own fs gs a hg hf Q hQ)
    first | (refine Weak.to2 (Eq.refl _) ?_; simp; done) | exact Weak.to3 (by intro i; simp only [lk]; (repeat' split) <;> first | rfl | omega) (by simp)
  exact AnyW.all0
theorem r19h11000001100000 (ps : List (List D)) (k : Nat) (own fs : List Int) (gs : List (List Int)) (a : Int) (hg : gs.length ≤ 2000000) (hf : fs.length ≤ 2000000) (Q : Exit → St → Prop)
    (hQ : ∀ s', Weak s' ⟨62, [(0, .d (.sl 9 ps)), (2, .pt 2 0), (4, .pt 4 0), (5, aI k), (7, .d (.sl 1 (eI own))), (8, aI a)], [(58, .arr 1 (eI (fs ++ [a]))), (53, .arr 1 (eG (gs ++ [own]))), (4, .var [.ms 53 1 0 (gs.length + 1), .ms 58 1 0 (fs.length + 1)]), (2, .var [aNil, aNil])]⟩ → Q .normal s') : AnyW Try.prog r19ops [true, true, false, false, false, false, false, true, true, false, false, false, false, false] ⟨62, [(0, .d (.sl 9 ps)), (2, .pt 2 0), (4, .pt 4 0), (5, aI k), (7, .d (.sl 1 (eI own))), (8, aI a), (49, .pt 4 0), (50, .ms 53 1 0 gs.length), (57, .ms 57 1 0 1)], [(57, .arr 1 (eI [a])), (58, .arr 1 (eI fs)), (53, .arr 1 (eG gs)), (4, .var [.ms 53 1 0 gs.length, .ms 58 1 0 fs.length]), (2, .var [aNil, aNil])]⟩ Q := by
  refine AnyW.step ttOK etOK [2, 5] (by decide +kernel) rfl rfl ?_
  refine AnyW.all1 ?_ ?_
  · refine AnyW.one (o := r19o 2) r19e2 rfl fun K hK => ?_
    simp [r19d2, r19p2, r19g2, and_assoc, eG_take, eI_take, eG_append, eG_one, eI_append, eI_one]
    first | refine hK _ ?_ | refine ⟨by omega, hK _ ?_⟩ | refine ⟨by omega, by omega, hK _ ?_⟩
    refine AnyW.weak ?_ (r19h11100001100000 ps k own fs gs a hg hf Q hQ)
    first | (refine Weak.to2 (Eq.refl _) ?_; simp; done) | exact Weak.to3 (by intro i; simp only [lk]; (repeat' split) <;> first | rfl | omega) (by simp)
  refine AnyW.all1 ?_ ?_
  · refine AnyW.one (o := r19o 5) r19e5 rfl fun K hK => ?_
    simp [r19d5, r19p5, r19g5, and_assoc, eG_take, eI_take, eG_append, eG_one, eI_append, eI_one]
    first | refine hK _ ?_ | refine ⟨by omega, hK _ ?_⟩ | refine ⟨by omega, by omega, hK _ ?_⟩
    refine AnyW.weak ?_ (r19h11000101100000 ps k own fs gs a hg hf Q hQ)
    first | (refine Weak.to2 (Eq.refl _) ?_; simp; done) | exact Weak.to3 (by intro i; simp only [lk]; (repeat' split) <;> first | rfl | omega) (by simp)
  exact AnyW.all0
theorem r19h10110100000000 (ps : List (List D)) (k : Nat) (own fs : List Int) (gs : List (List Int)) (a : Int) (hg : gs.length ≤ 2000000) (hf : fs.length ≤ 2000000) (Q : Exit → St → Prop)
    (hQ : ∀ s', Weak s' ⟨62, [(0, .d (.sl 9 ps)), (2, .pt 2 0), (4, .pt 4 0), (5, aI k), (7, .d (.sl 1 (eI own))), (8, aI a)], [(58, .arr 1 (eI (fs ++ [a]))), (53, .arr 1 (eG (gs ++ [own]))), (4, .var [.ms 53 1 0 (gs.length + 1), .ms 58 1 0 (fs.length + 1)]), (2, .var [aNil, aNil])]⟩ → Q .normal s') : AnyW Try.prog r19ops [true, false, true, true, false, true, false, false, false, false, false, false, false, false] ⟨62, [(0, .d (.sl 9 ps)), (2, .pt 2 0), (4, .pt 4 0), (5, aI k), (7, .d (.sl 1 (eI own))), (8, aI a), (49, .pt 4 0), (52, .ms 52 1 0 1), (54, .pt 4 1)], [(52, .arr 1 (eG [own])), (58, .arr 1 (eI fs)), (53, .arr 1 (eG gs)), (4, .var [.ms 53 1 0 gs.length, .ms 58 1 0 fs.length]), (2, .var [aNil, aNil])]⟩ Q := by
  refine AnyW.step ttOK etOK [1, 6, 7] (by decide +kernel) rfl rfl ?_
  refine AnyW.all1 ?_ ?_
  · refine AnyW.one (o := r19o 1) r19e1 rfl fun K hK => ?_
    simp [r19d1, r19p1, r19g1, and_assoc, eG_take, eI_take, eG_append, eG_one, eI_append, eI_one]
    first | refine hK _ ?_ | refine ⟨by omega, hK _ ?_⟩ | refine ⟨by omega, by omega, hK _ ?_⟩
    refine AnyW.weak ?_ (r19h11110100000000 ps k own fs gs a hg hf Q hQ)
    first | (refine Weak.to2 (Eq.refl _) ?_; simp; done) | exact Weak.to3 (by intro i; simp only [lk]; (repeat' split) <;> first | rfl | omega) (by simp)
  refine AnyW.all1 ?_ ?_
  · refine AnyW.one (o := r19o 6) r19e6 rfl fun K hK => ?_
    simp [r19d6, r19p6, r19g6, and_assoc, eG_take, eI_take, eG_append, eG_one, eI_append, eI_one]
    first | refine hK _ ?_ | refine ⟨by omega, hK _ ?_⟩ | refine ⟨by omega, by omega, hK _ ?_⟩
    refine AnyW.weak ?_ (r19h10110110000000 ps k own fs gs a hg hf Q hQ)
    first | (refine Weak.to2 (Eq.refl _) ?_; simp; done) | exact Weak.to3 (by intro i; simp only [lk]; (repeat' split) <;> first | rfl | omega) (by simp)
  refine AnyW.all1 ?_ ?_
  · refine AnyW.one (o := r19o 7) r19e7 rfl fun K hK => ?_
    simp [r19d7, r19p7, r19g7, and_assoc, eG_take, eI_take, eG_append, eG_one, eI_append, eI_one]
    first | refine hK _ ?_ | refine ⟨by omega, hK _ ?_⟩ | refine ⟨by omega, by omega, hK _ ?_⟩
    refine AnyW.weak ?_ (r19h10110101000000 ps k own fs gs a hg hf Q hQ)
    first | (refine Weak.to2 (Eq.refl _) ?_; simp; done) | exact Weak.to3 (by intro i; simp only [lk]; (repeat' split) <;> first | rfl | omega) (by simp)
  exact AnyW.all0
theorem r19h10110001000000 (ps : List (List D)) (k : Nat) (own fs : List Int) (gs : List (List Int)) (a : Int) (hg : gs.length ≤ 2000000) (hf : fs.length ≤ 2000000) (Q : Exit → St → Prop)
    (hQ : ∀ s', Weak s' ⟨62, [(0, .d (.sl 9 ps)), (2, .pt 2 0), (4, .pt 4 0), (5, aI k), (7, .d (.sl 1 (eI own))), (8, aI a)], [(58, .arr 1 (eI (fs ++ [a]))), (53, .arr 1 (eG (gs ++ [own]))), (4, .var [.ms 53 1 0 (gs.length + 1), .ms 58 1 0 (fs.length + 1)]), (2, .var [aNil, aNil])]⟩ → Q .normal s') : AnyW Try.prog r19ops [true, false, true, true, false, false, false, true, false, false, false, false, false, false] ⟨62, [(0, .d (.sl 9 ps)), (2, .pt 2 0), (4, .pt 4 0), (5, aI k), (7, .d (.sl 1 (eI own))), (8, aI a), (49, .pt 4 0), (52, .ms 52 1 0 1), (56, aI a)], [(52, .arr 1 (eG [own])), (58, .arr 1 (eI fs)), (53, .arr 1 (eG gs)), (4, .var [.ms 53 1 0 gs.length, .ms 58 1 0 fs.length]), (2, .var [aNil, aNil])]⟩ Q := by
  refine AnyW.step ttOK etOK [1, 5, 8] (by decide +kernel) rfl rfl ?_
  refine AnyW.all1 ?_ ?_
  · refine AnyW.one (o := r19o 1) r19e1 rfl fun K hK => ?_
    simp [r19d1, r19p1, r19g1, and_assoc, eG_take, eI_take, eG_append, eG_one, eI_append, eI_one]
    first | refine hK _ ?_ | refine ⟨by omega, hK _ ?_⟩ | refine ⟨by omega, by omega, hK _ ?_⟩
    refine AnyW.weak ?_ (r19h11110001000000 ps k own fs gs a hg hf Q hQ)
    first | (refine Weak.to2 (Eq.refl _) ?_; simp; done) | exact Weak.to3 (by intro i; simp only [lk]; (repeat' split) <;> first | rfl | omega) (by simp)
  refine AnyW.all1 ?_ ?_
  · refine AnyW.one (o := r19o 5) r19e5 rfl fun K hK => ?_
    simp [r19d5, r19p5, r19g5, and_assoc, eG_take, eI_take, eG_append, eG_one, eI_append, eI_one]
    first | refine hK _ ?_ | refine ⟨by omega, hK _ ?_⟩ | refine ⟨by omega, by omega, hK _ ?_⟩
    refine AnyW.weak ?_ (r19h10110101000000 ps k own fs gs a hg hf Q hQ)
    first | (refine Weak.to2 (Eq.refl _) ?_; simp; done) | exact Weak.to3 (by intro i; simp only [lk]; (repeat' split) <;> first | rfl | omega) (by simp)
  refine AnyW.all1 ?_ ?_
  · refine AnyW.one (o := r19o 8) r19e8 rfl fun K hK => ?_
    simp [r19d8, r19p8, r19g8, and_assoc, eG_take, eI_take, eG_append, eG_one, eI_append, eI_one]
    first | refine hK _ ?_ | refine ⟨by omega, hK _ ?_⟩ | refine ⟨by omega, by omega, hK _ ?_⟩
    refine AnyW.weak ?_ (r19h10110001100000 ps k own fs gs a hg hf Q hQ)
    first | (refine Weak.to2 (Eq.refl _) ?_; simp; done) | exact Weak.to3 (by intro i; simp only [lk]; (repeat' split) <;> first | rfl | omega) (by simp)
  exact AnyW.all0
theorem r19h10100110000000 (ps : List (List D)) (k : Nat) (own fs : List Int) (gs : List (List Int)) (a : Int) (hg : gs.length ≤ 2000000) (hf : fs.length ≤ 2000000) (Q : Exit → St → Prop)
    (hQ : ∀ s', Weak s' ⟨62, [(0, .d (.sl 9 ps)), (2, .pt 2 0), (4, .pt 4 0), (5, aI k), (7, .d (.sl 1 (eI own))), (8, aI a)], [(58, .arr 1 (eI (fs ++ [a]))), (53, .arr 1 (eG (gs ++ [own]))), (4, .var [.ms 53 1 0 (gs.length + 1), .ms 58 1 0 (fs.length + 1)]), (2, .var [aNil, aNil])]⟩ → Q .normal s') : AnyW Try.prog r19ops [true, false, true, false, false, true, true, false, false, false, false, false, false, false] ⟨62, [(0, .d (.sl 9 ps)), (2, .pt 2 0), (4, .pt 4 0), (5, aI k), (7, .d (.sl 1 (eI own))), (8, aI a), (49, .pt 4 0), (51, .d (.sl 1 (eI own))), (54, .pt 4 1), (55, .ms 58 1 0 fs.length)], [(58, .arr 1 (eI fs)), (53, .arr 1 (eG gs)), (4, .var [.ms 53 1 0 gs.length, .ms 58 1 0 fs.length]), (2, .var [aNil, aNil])]⟩ Q := by
  refine AnyW.step ttOK etOK [1, 3, 7] (by decide +kernel) rfl rfl ?_
  refine AnyW.all1 ?_ ?_
  · refine AnyW.one (o := r19o 1) r19e1 rfl fun K hK => ?_
    simp [r19d1, r19p1, r19g1, and_assoc, eG_take, eI_take, eG_append, eG_one, eI_append, eI_one]
    first | refine hK _ ?_ | refine ⟨by omega, hK _ ?_⟩ | refine ⟨by omega, by omega, hK _ ?_⟩
    refine AnyW.weak ?_ (r19h11100110000000 ps k own fs gs a hg hf Q hQ)
    first | (refine Weak.to2 (Eq.refl _) ?_; simp; done) | exact Weak.to3 (by intro i; simp only [lk]; (repeat' split) <;> first | rfl | omega) (by simp)
  refine AnyW.all1 ?_ ?_
  · refine AnyW.one (o := r19o 3) r19e3 rfl fun K hK => ?_
    simp [r19d3, r19p3, r19g3, and_assoc, eG_take, eI_take, eG_append, eG_one, eI_append, eI_one]
    first | refine hK _ ?_ | refine ⟨by omega, hK _ ?_⟩ | refine ⟨by omega, by omega, hK _ ?_⟩
    refine AnyW.weak ?_ (r19h10110110000000 ps k own fs gs a hg hf Q hQ)
    first | (refine Weak.to2 (Eq.refl _) ?_; simp; done) | exact Weak.to3 (by intro i; simp only [lk]; (repeat' split) <;> first | rfl | omega) (by simp)
  refine AnyW.all1 ?_ ?_
  · refine AnyW.one (o := r19o 7) r19e7 rfl fun K hK => ?_
    simp [r19d7, r19p7, r19g7, and_assoc, eG_take, eI_take, eG_append, eG_one, eI_append, eI_one]
    first | refine hK _ ?_ | refine ⟨by omega, hK _ ?_⟩ | refine ⟨by omega, by omega, hK _ ?_⟩
    refine AnyW.weak ?_ (r19h10100111000000 ps k own fs gs a hg hf Q hQ)
    first | (refine Weak.to2 (Eq.refl _) ?_; simp; done) | exact Weak.to3 (by intro i; simp only [lk]; (repeat' split) <;> first | rfl | omega) (by simp)
  exact AnyW.all0
theorem r19h10100101000000 (ps : List (List D)) (k : Nat) (own fs : List Int) (gs : List (List Int)) (a : Int) (hg : gs.length ≤ 2000000) (hf : fs.length ≤ 2000000) (Q : Exit → St → Prop)
    (hQ : ∀ s', Weak s' ⟨62, [(0, .d (.sl 9 ps)), (2, .pt 2 0), (4, .pt 4 0), (5, aI k), (7, .d (.sl 1 (eI own))), (8, aI a)], [(58, .arr 1 (eI (fs ++ [a]))), (53, .arr 1 (eG (gs ++ [own]))), (4, .var [.ms 53 1 0 (gs.length + 1), .ms 58 1 0 (fs.length + 1)]), (2, .var [aNil, aNil])]⟩ → Q .normal s') : AnyW Try.prog r19ops [true, false, true, false, false, true, false, true, false, false, false, false, false, false] ⟨62, [(0, .d (.sl 9 ps)), (2, .pt 2 0), (4, .pt 4 0), (5, aI k), (7, .d (.sl 1 (eI own))), (8, aI a), (49, .pt 4 0), (51, .d (.sl 1 (eI own))), (54, .pt 4 1), (56, aI a)], [(58, .arr 1 (eI fs)), (53, .arr 1 (eG gs)), (4, .var [.ms 53 1 0 gs.length, .ms 58 1 0 fs.length]), (2, .var [aNil, aNil])]⟩ Q := by
  refine AnyW.step ttOK etOK [1, 3, 6, 8] (by decide +kernel) rfl rfl ?_
  refine AnyW.all1 ?_ ?_
  · refine AnyW.one (o := r19o 1) r19e1 rfl fun K hK => ?_
    simp [r19d1, r19p1, r19g1, and_assoc, eG_take, eI_take, eG_append, eG_one, eI_append, eI_one]
    first | refine hK _ ?_ | refine ⟨by omega, hK _ ?_⟩ | refine ⟨by omega, by omega, hK _ ?_⟩
    refine AnyW.weak ?_ (r19h11100101000000 ps k own fs gs a hg hf Q hQ)
    first | (refine Weak.to2 (Eq.refl _) ?_; simp; done) | exact Weak.to3 (by intro i; simp only [lk]; (repeat' split) <;> first | rfl | omega) (by simp)
  refine AnyW.all1 ?_ ?_
  · refine AnyW.one (o := r19o 3) r19e3 rfl fun K hK => ?_
    simp [r19d3, r19p3, r19g3, and_assoc, eG_take, eI_take, eG_append, eG_one, eI_append, eI_one]
    first | refine hK _ ?_ | refine ⟨by omega, hK _ ?_⟩ | refine ⟨by omega, by omega, hK _ ?_⟩
    refine AnyW.weak ?_ (r19h10110101000000 ps k own fs gs a hg hf Q hQ)
    first | (refine Weak.to2 (Eq.refl _) ?_; simp; done) | exact Weak.to3 (by intro i; simp only [lk]; (repeat' split) <;> first | rfl | omega) (by simp)
  refine AnyW.all1 ?_ ?_
  · refine AnyW.one (o := r19o 6) r19e6 rfl fun K hK => ?_
    simp [r19d6, r19p6, r19g6, and_assoc, eG_take, eI_take, eG_append, eG_one, eI_append, eI_one]
    first | refine hK _ ?_ | refine ⟨by omega, hK _ ?_⟩ | refine ⟨by omega, by omega, hK _ ?_⟩
    refine AnyW.weak ?_ (r19h10100111000000 ps k own fs gs a hg hf Q hQ)
    first | (refine Weak.to2 (Eq.refl _) ?_; simp; done) | exact Weak.to3 (by intro i; simp only [lk]; (repeat' split) <;> first | rfl | omega) (by simp)
  refine AnyW.all1 ?_ ?_
  · refine AnyW.one (o := r19o 8) r19e8 rfl fun K hK => ?_
    simp [r19d8, r19p8, r19g8, and_assoc, eG_take, eI_take, eG_append, eG_one, eI_append, eI_one]
    first | refine hK _ ?_ | refine ⟨by omega, hK _ ?_⟩ | refine ⟨by omega, by omega, hK _ ?_⟩
    refine AnyW.weak ?_ (r19h10100101100000 ps k own fs gs a hg hf Q hQ)
    first | (refine Weak.to2 (Eq.refl _) ?_; simp; done) | exact Weak.to3 (by intro i; simp only [lk]; (repeat' split) <;> first | rfl | omega) (by simp)
  exact AnyW.all0
theorem r19h10100001100000 (ps : List (List D)) (k : Nat) (own fs : List Int) (gs : List (List Int)) (a : Int) (hg : gs.length ≤ 2000000) (hf : fs.length ≤ 2000000) (Q : Exit → St → Prop)
    (hQ : ∀ s', Weak s' ⟨62, [(0, .d (.sl 9 ps)), (2, .pt 2 0), (4, .pt 4 0), (5, aI k), (7, .d (.sl 1 (eI own))), (8, aI a)], [(58, .arr 1 (eI (fs ++ [a]))), (53, .arr 1 (eG (gs ++ [own]))), (4, .var [.ms 53 1 0 (gs.length + 1), .ms 58 1 0 (fs.length + 1)]), (2, .var [aNil, aNil])]⟩ → Q .normal s') : AnyW Try.prog r19ops [true, false, true, false, false, false, false, true, true, false, false, false, false, false] ⟨62, [(0, .d (.sl 9 ps)), (2, .pt 2 0), (4, .pt 4 0), (5, aI k), (7, .d (.sl 1 (eI own))), (8, aI a), (49, .pt 4 0), (51, .d (.sl 1 (eI own))), (57, .ms 57 1 0 1)], [(57, .arr 1 (eI [a])), (58, .arr 1 (eI fs)), (53, .arr 1 (eG gs)), (4, .var [.ms 53 1 0 gs.length, .ms 58 1 0 fs.length]), (2, .var [aNil, aNil])]⟩ Q := by
  refine AnyW.step ttOK etOK [1, 3, 5] (by decide +kernel) rfl rfl ?_
  refine AnyW.all1 ?_ ?_
  · refine AnyW.one (o := r19o 1) r19e1 rfl fun K hK => ?_
    simp [r19d1, r19p1, r19g1, and_assoc, eG_take, eI_take, eG_append, eG_one, eI_append, eI_one]
    first | refine hK _ ?_ | refine ⟨by omega, hK _ ?_⟩ | refine ⟨by omega, by omega, hK _ ?_⟩
    refine AnyW.weak ?_ (r19h11100001100000 ps k own fs gs a hg hf Q hQ)
    first | (refine Weak.to2 (Eq.refl _) ?_; simp; done) | exact Weak.to3 (by intro i; simp only [lk]; (repeat' split) <;> first | rfl | omega) (by simp)
  refine AnyW.all1 ?_ ?_
  · refine AnyW.one (o := r19o 3) r19e3 rfl fun K hK => ?_
    simp [r19d3, r19p3, r19g3, and_assoc, eG_take, eI_take, eG_append, eG_one, eI_append, eI_one]
    first | refine hK _ ?_ | refine ⟨by omega, hK _ ?_⟩ | refine ⟨by omega, by omega, hK _ ?_⟩
    refine AnyW.weak ?_ (r19h10110001100000 ps k own fs gs a hg hf Q hQ)
    first | (refine Weak.to2 (Eq.refl _) ?_; simp; done) | exact Weak.to3 (by intro i; simp only [lk]; (repeat' split) <;> first | rfl | omega) (by simp)
  refine AnyW.all1 ?_ ?_
  · refine AnyW.one (o := r19o 5) r19e5 rfl fun K hK => ?_
    simp [r19d5, r19p5, r19g5, and_assoc, eG_take, eI_take, eG_append, eG_one, eI_append, eI_one]
    first | refine hK _ ?_ | refine ⟨by omega, hK _ ?_⟩ | refine ⟨by omega, by omega, hK _ ?_⟩
    refine AnyW.weak ?_ (r19h10100101100000 ps k own fs gs a hg hf Q hQ)
    first | (refine Weak.to2 (Eq.refl _) ?_; simp; done) | exact Weak.to3 (by intro i; simp only [lk]; (repeat' split) <;> first | rfl | omega) (by simp)
  exact AnyW.all0
theorem r19h10000111000000 (ps : List (List D)) (k : Nat) (own fs : List Int) (gs : List (List Int)) (a : Int) (hg : gs.length ≤ 2000000) (hf : fs.length ≤ 2000000) (Q : Exit → St → Prop)
    (hQ : ∀ s', Weak s' ⟨62, [(0, .d (.sl 9 ps)), (2, .pt 2 0), (4, .pt 4 0), (5, aI k), (7, .d (.sl 1 (eI own))), (8, aI a)], [(58, .arr 1 (eI (fs ++ [a]))), (53, .arr 1 (eG (gs ++ [own]))), (4, .var [.ms 53 1 0 (gs.length + 1), .ms 58 1 0 (fs.length + 1)]), (2, .var [aNil, aNil])]⟩ → Q .normal s') : AnyW Try.prog r19ops [true, false, false, false, false, true, true, true, false, false, false, false, false, false] ⟨62, [(0, .d (.sl 9 ps)), (2, .pt 2 0), (4, .pt 4 0), (5, aI k), (7, .d (.sl 1 (eI own))), (8, aI a), (49, .pt 4 0), (54, .pt 4 1), (55, .ms 58 1 0 fs.length), (56, aI a)], [(58, .arr 1 (eI fs)), (53, .arr 1 (eG gs)), (4, .var [.ms 53 1 0 gs.length, .ms 58 1 0 fs.length]), (2, .var [aNil, aNil])]⟩ Q := by
  refine AnyW.step ttOK etOK [1, 2, 8] (by decide +kernel) rfl rfl ?_
  refine AnyW.all1 ?_ ?_
  · refine AnyW.one (o := r19o 1) r19e1 rfl fun K hK => ?_
    simp [r19d1, r19p1, r19g1, and_assoc, eG_take, eI_take, eG_append, eG_one, eI_append, eI_one]
    first | refine hK _ ?_ | refine ⟨by omega, hK _ ?_⟩ | refine ⟨by omega, by omega, hK _ ?_⟩
    refine AnyW.weak ?_ (r19h11000111000000 ps k own fs gs a hg hf Q hQ)
    first | (refine Weak.to2 (Eq.refl _) ?_; simp; done) | exact Weak.to3 (by intro i; simp only [lk]; (repeat' split) <;> first | rfl | omega) (by simp)
  refine AnyW.all1 ?_ ?_
  · refine AnyW.one (o := r19o 2) r19e2 rfl fun K hK => ?_
    simp [r19d2, r19p2, r19g2, and_assoc, eG_take, eI_take, eG_append, eG_one, eI_append, eI_one]
    first | refine hK _ ?_ | refine ⟨by omega, hK _ ?_⟩ | refine ⟨by omega, by omega, hK _ ?_⟩
    refine AnyW.weak ?_ (r19h10100111000000 ps k own fs gs a hg hf Q hQ)
    first | (refine Weak.to2 (Eq.refl _) ?_; simp; done) | exact Weak.to3 (by intro i; simp only [lk]; (repeat' split) <;> first | rfl | omega) (by simp)
  refine AnyW.all1 ?_ ?_
  · refine AnyW.one (o := r19o 8) r19e8 rfl fun K hK => ?_
    simp [r19d8, r19p8, r19g8, and_assoc, eG_take, eI_take, eG_append, eG_one, eI_append, eI_one]
    first | refine hK _ ?_ | refine ⟨by omega, hK _ ?_⟩ | refine ⟨by omega, by omega, hK _ ?_⟩
    refine AnyW.weak ?_ (r19h10000111100000 ps k own fs gs a hg hf Q hQ)
    first | (refine Weak.to2 (Eq.refl _) ?_; simp; done) | exact Weak.to3 (by intro i; simp only [lk]; (repeat' split) <;> first | rfl | omega) (by simp)
  exact AnyW.all0
theorem r19h10000101100000 (ps : List (List D)) (k : Nat) (own fs : List Int) (gs : List (List Int)) (a : Int) (hg : gs.length ≤ 2000000) (hf : fs.length ≤ 2000000) (Q : Exit → St → Prop)
    (hQ : ∀ s', Weak s' ⟨62, [(0, .d (.sl 9 ps)), (2, .pt 2 0), (4, .pt 4 0), (5, aI k), (7, .d (.sl 1 (eI own))), (8, aI a)], [(58, .arr 1 (eI (fs ++ [a]))), (53, .arr 1 (eG (gs ++ [own]))), (4, .var [.ms 53 1 0 (gs.length + 1), .ms 58 1 0 (fs.length + 1)]), (2, .var [aNil, aNil])]⟩ → Q .normal s') : AnyW Try.prog r19ops [true, false, false, false, false, true, false, true, true, false, false, false, false, false] ⟨62, [(0, .d (.sl 9 ps)), (2, .pt 2 0), (4, .pt 4 0), (5, aI k), (7, .d (.sl 1 (eI own))), (8, aI a), (49, .pt 4 0), (54, .pt 4 1), (57, .ms 57 1 0 1)], [(57, .arr 1 (eI [a])), (58, .arr 1 (eI fs)), (53, .arr 1 (eG gs)), (4, .var [.ms 53 1 0 gs.length, .ms 58 1 0 fs.length]), (2, .var [aNil, aNil])]⟩ Q := by
  refine AnyW.step ttOK etOK [1, 2, 6] (by decide +kernel) rfl rfl ?_
  refine AnyW.all1 ?_ ?_
  · refine AnyW.one (o := r19o 1) r19e1 rfl fun K hK => ?_
    simp [r19d1, r19p1, r19g1, and_assoc, eG_take, eI_take, eG_append, eG_one, eI_append, eI_one]
    first | refine hK _ ?_ | refine ⟨by omega, hK _ ?_⟩ | refine ⟨by omega, by omega, hK _ ?_⟩
    refine AnyW.weak ?_ (r19h11000101100000 ps k own fs gs a hg hf Q hQ)
    first | (refine Weak.to2 (Eq.refl _) ?_; simp; done) | exact Weak.to3 (by intro i; simp only [lk]; (repeat' split) <;> first | rfl | omega) (by simp)
  refine AnyW.all1 ?_ ?_
  · refine AnyW.one (o := r19o 2) r19e2 rfl fun K hK => ?_
    simp [r19d2, r19p2, r19g2, and_assoc, eG_take, eI_take, eG_append, eG_one, eI_append, eI_one]
    first | refine hK _ ?_ | refine ⟨by omega, hK _ ?_⟩ | refine ⟨by omega, by omega, hK _ ?_⟩
    refine AnyW.weak ?_ (r19h10100101100000 ps k own fs gs a hg hf Q hQ)
    first | (refine Weak.to2 (Eq.refl _) ?_; simp; done) | exact Weak.to3 (by intro i; simp only [lk]; (repeat' split) <;> first | rfl | omega) (by simp)
  refine AnyW.all1 ?_ ?_
  · refine AnyW.one (o := r19o 6) r19e6 rfl fun K hK => ?_
    simp [r19d6, r19p6, r19g6, and_assoc, eG_take, eI_take, eG_append, eG_one, eI_append, eI_one]
    first | refine hK _ ?_ | refine ⟨by omega, hK _ ?_⟩ | refine ⟨by omega, by omega, hK _ ?_⟩
    refine AnyW.weak ?_ (r19h10000111100000 ps k own fs gs a hg hf Q hQ)
    first | (refine Weak.to2 (Eq.refl _) ?_; simp; done) | exact Weak.to3 (by intro i; simp only [lk]; (repeat' split) <;> first | rfl | omega) (by simp)
  exact AnyW.all0
theorem r19h00110110000000 (ps : List (List D)) (k : Nat) (own fs : List Int) (gs : List (List Int)) (a : Int) (hg : gs.length ≤ 2000000) (hf : fs.length ≤ 2000000) (Q : Exit → St → Prop)
    (hQ : ∀ s', Weak s' ⟨62, [(0, .d (.sl 9 ps)), (2, .pt 2 0), (4, .pt 4 0), (5, aI k), (7, .d (.sl 1 (eI own))), (8, aI a)], [(58, .arr 1 (eI (fs ++ [a]))), (53, .arr 1 (eG (gs ++ [own]))), (4, .var [.ms 53 1 0 (gs.length + 1), .ms 58 1 0 (fs.length + 1)]), (2, .var [aNil, aNil])]⟩ → Q .normal s') : AnyW Try.prog r19ops [false, false, true, true, false, true, true, false, false, false, false, false, false, false] ⟨62, [(0, .d (.sl 9 ps)), (2, .pt 2 0), (4, .pt 4 0), (5, aI k), (7, .d (.sl 1 (eI own))), (8, aI a), (52, .ms 52 1 0 1), (54, .pt 4 1), (55, .ms 58 1 0 fs.length)], [(52, .arr 1 (eG [own])), (58, .arr 1 (eI fs)), (53, .arr 1 (eG gs)), (4, .var [.ms 53 1 0 gs.length, .ms 58 1 0 fs.length]), (2, .var [aNil, aNil])]⟩ Q := by
  refine AnyW.step ttOK etOK [0, 7] (by decide +kernel) rfl rfl ?_
  refine AnyW.all1 ?_ ?_
  · refine AnyW.one (o := r19o 0) r19e0 rfl fun K hK => ?_
    simp [r19d0, r19p0, r19g0, and_assoc, eG_take, eI_take, eG_append, eG_one, eI_append, eI_one]
    first | refine hK _ ?_ | refine ⟨by omega, hK _ ?_⟩ | refine ⟨by omega, by omega, hK _ ?_⟩
    refine AnyW.weak ?_ (r19h10110110000000 ps k own fs gs a hg hf Q hQ)
    first | (refine Weak.to2 (Eq.refl _) ?_; simp; done) | exact Weak.to3 (by intro i; simp only [lk]; (repeat' split) <;> first | rfl | omega) (by simp)
  refine AnyW.all1 ?_ ?_
  · refine AnyW.one (o := r19o 7) r19e7 rfl fun K hK => ?_
    simp [r19d7, r19p7, r19g7, and_assoc, eG_take, eI_take, eG_append, eG_one, eI_append, eI_one]
    first | refine hK _ ?_ | refine ⟨by omega, hK _ ?_⟩ | refine ⟨by omega, by omega, hK _ ?_⟩
    refine AnyW.weak ?_ (r19h00110111000000 ps k own fs gs a hg hf Q hQ)
    first | (refine Weak.to2 (Eq.refl _) ?_; simp; done) | exact Weak.to3 (by intro i; simp only [lk]; (repeat' split) <;> first | rfl | omega) (by simp)
  exact AnyW.all0
theorem r19h00110101000000 (ps : List (List D)) (k : Nat) (own fs : List Int) (gs : List (List Int)) (a : Int) (hg : gs.length ≤ 2000000) (hf : fs.length ≤ 2000000) (Q : Exit → St → Prop)
    (hQ : ∀ s', Weak s' ⟨62, [(0, .d (.sl 9 ps)), (2, .pt 2 0), (4, .pt 4 0), (5, aI k), (7, .d (.sl 1 (eI own))), (8, aI a)], [(58, .arr 1 (eI (fs ++ [a]))), (53, .arr 1 (eG (gs ++ [own]))), (4, .var [.ms 53 1 0 (gs.length + 1), .ms 58 1 0 (fs.length + 1)]), (2, .var [aNil, aNil])]⟩ → Q .normal s') : AnyW Try.prog r19ops [false, false, true, true, false, true, false, true, false, false, false, false, false, false] ⟨62, [(0, .d (.sl 9 ps)), (2, .pt 2 0), (4, .pt 4 0), (5, aI k), (7, .d (.sl 1 (eI own))), (8, aI a), (52, .ms 52 1 0 1), (54, .pt 4 1), (56, aI a)], [(52, .arr 1 (eG [own])), (58, .arr 1 (eI fs)), (53, .arr 1 (eG gs)), (4, .var [.ms 53 1 0 gs.length, .ms 58 1 0 fs.length]), (2, .var [aNil, aNil])]⟩ Q := by
  refine AnyW.step ttOK etOK [0, 6, 8] (by decide +kernel) rfl rfl ?_
  refine AnyW.all1 ?_ ?_
  · refine AnyW.one (o := r19o 0) r19e0 rfl fun K hK => ?_
    simp [r19d0, r19p0, r19g0, and_assoc, eG_take, eI_take, eG_append, eG_one, eI_append, eI_one]
    first | refine hK _ ?_ | refine ⟨by omega, hK _ ?_⟩ | refine ⟨by omega, by omega, hK _ ?_⟩
    refine AnyW.weak ?_ (r19h10110101000000 ps k own fs gs a hg hf Q hQ)
    first | (refine Weak.to2 (Eq.refl _) ?_; simp; done) | exact Weak.to3 (by intro i; simp only [lk]; (repeat' split) <;> first | rfl | omega) (by simp)
  refine AnyW.all1 ?_ ?_
  · refine AnyW.one (o := r19o 6) r19e6 rfl fun K hK => ?_
    simp [r19d6, r19p6, r19g6, and_assoc, eG_take, eI_take, eG_append, eG_one, eI_append, eI_one]
    first | refine hK _ ?_ | refine ⟨by omega, hK _ ?_⟩ | refine ⟨by omega, by omega, hK _ ?_⟩
    refine AnyW.weak ?_ (r19h00110111000000 ps k own fs gs a hg hf Q hQ)
    first | (refine Weak.to2 (Eq.refl _) ?_; simp; done) | exact Weak.to3 (by intro i; simp only [lk]; (repeat' split) <;> first | rfl | omega) (by simp)
  refine AnyW.all1 ?_ ?_
  · refine AnyW.one (o := r19o 8) r19e8 rfl fun K hK => ?_
    simp [r19d8, r19p8, r19g8, and_assoc, eG_take, eI_take, eG_append, eG_one, eI_append, eI_one]
    first | refine hK _ ?_ | refine ⟨by omega, hK _ ?_⟩ | refine ⟨by omega, by omega, hK _ ?_⟩
    refine AnyW.weak ?_ (r19h00110101100000 ps k own fs gs a hg hf Q hQ)
    first | (refine Weak.to2 (Eq.refl _) ?_; simp; done) | exact Weak.to3 (by intro i; simp only [lk]; (repeat' split) <;> first | rfl | omega) (by simp)
  exact AnyW.all0
theorem r19h00110001100000 (ps : List (List D)) (k : Nat) (own fs : List Int) (gs : List (List Int)) (a : Int) (hg : gs.length ≤ 2000000) (hf : fs.length ≤ 2000000) (Q : Exit → St → Prop)
    (hQ : ∀ s', Weak s' ⟨62, [(0, .d (.sl 9 ps)), (2, .pt 2 0), (4, .pt 4 0), (5, aI k), (7, .d (.sl 1 (eI own))), (8, aI a)], [(58, .arr 1 (eI (fs ++ [a]))), (53, .arr 1 (eG (gs ++ [own]))), (4, .var [.ms 53 1 0 (gs.length + 1), .ms 58 1 0 (fs.length + 1)]), (2, .var [aNil, aNil])]⟩ → Q .normal s') : AnyW Try.prog r19ops [false, false, true, true, false, false, false, true, true, false, false, false, false, false] ⟨62, [(0, .d (.sl 9 ps)), (2, .pt 2 0), (4, .pt 4 0), (5, aI k), (7, .d (.sl 1 (eI own))), (8, aI a), (52, .ms 52 1 0 1), (57, .ms 57 1 0 1)], [(52, .arr 1 (eG [own])), (57, .arr 1 (eI [a])), (58, .arr 1 (eI fs)), (53, .arr 1 (eG gs)), (4, .var [.ms 53 1 0 gs.length, .ms 58 1 0 fs.length]), (2, .var [aNil, aNil])]⟩ Q := by
  refine AnyW.step ttOK etOK [0, 5] (by decide +kernel) rfl rfl ?_
  refine AnyW.all1 ?_ ?_
  · refine AnyW.one (o := r19o 0) r19e0 rfl fun K hK => ?_
    simp [r19d0, r19p0, r19g0, and_assoc, eG_take, eI_take, eG_append, eG_one, eI_append, eI_one]
    first | refine hK _ ?_ | refine ⟨by omega, hK _ ?_⟩ | refine ⟨by omega, by omega, hK _ ?_⟩
    refine AnyW.weak ?_ (r19h10110001100000 ps k own fs gs a hg hf Q hQ)
    first | (refine Weak.to2 (Eq.refl _) ?_; simp; done) | exact Weak.to3 (by intro i; simp only [lk]; (repeat' split) <;> first | rfl | omega) (by simp)
  refine AnyW.all1 ?_ ?_
  · refine AnyW.one (o := r19o 5) r19e5 rfl fun K hK => ?_
    simp [r19d5, r19p5, r19g5, and_assoc, eG_take, eI_take, eG_append, eG_one, eI_append, eI_one]
    first | refine hK _ ?_ | refine ⟨by omega, hK _ ?_⟩ | refine ⟨by omega, by omega, hK _ ?_⟩
    refine AnyW.weak ?_ (r19h00110101100000 ps k own fs gs a hg hf Q hQ)
    first | (refine Weak.to2 (Eq.refl _) ?_; simp; done) | exact Weak.to3 (by intro i; simp only [lk]; (repeat' split) <;> first | rfl | omega) (by simp)
  exact AnyW.all0
theorem r19h00100111000000 (ps : List (List D)) (k : Nat) (own fs : List Int) (gs : List (List Int)) (a : Int) (hg : gs.length ≤ 2000000) (hf : fs.length ≤ 2000000) (Q : Exit → St → Prop)
    (hQ : ∀ s', Weak s' ⟨62, [(0, .d (.sl 9 ps)), (2, .pt 2 0), (4, .pt 4 0), (5, aI k), (7, .d (.sl 1 (eI own))), (8, aI a)], [(58, .arr 1 (eI (fs ++ [a]))), (53, .arr 1 (eG (gs ++ [own]))), (4, .var [.ms 53 1 0 (gs.length + 1), .ms 58 1 0 (fs.length + 1)]), (2, .var [aNil, aNil])]⟩ → Q .normal s') : AnyW Try.prog r19ops [false, false, true, false, false, true, true, true, false, false, false, false, false, false] ⟨62, [(0, .d (.sl 9 ps)), (2, .pt 2 0), (4, .pt 4 0), (5, aI k), (7, .d (.sl 1 (eI own))), (8, aI a), (51, .d (.sl 1 (eI own))), (54, .pt 4 1), (55, .ms 58 1 0 fs.length), (56, aI a)], [(58, .arr 1 (eI fs)), (53, .arr 1 (eG gs)), (4, .var [.ms 53 1 0 gs.length, .ms 58 1 0 fs.length]), (2, .var [aNil, aNil])]⟩ Q := by
  refine AnyW.step ttOK etOK [0, 3, 8] (by decide +kernel) rfl rfl ?_
  refine AnyW.all1 ?_ ?_
  · refine AnyW.one (o := r19o 0) r19e0 rfl fun K hK => ?_
    simp [r19d0, r19p0, r19g0, and_assoc, eG_take, eI_take, eG_append, eG_one, eI_append, eI_one]
    first | refine hK _ ?_ | refine ⟨by omega, hK _ ?_⟩ | refine ⟨by omega, by omega, hK _ ?_⟩
    refine AnyW.weak ?_ (r19h10100111000000 ps k own fs gs a hg hf Q hQ)
    first | (refine Weak.to2 (Eq.refl _) ?_; simp; done) | exact Weak.to3 (by intro i; simp only [lk]; (repeat' split) <;> first | rfl | omega) (by simp)
  refine AnyW.all1 ?_ ?_
  · refine AnyW.one (o := r19o 3) r19e3 rfl fun K hK => ?_
    simp [r19d3, r19p3, r19g3, and_assoc, eG_take, eI_take, eG_append, eG_one, eI_append, eI_one]
    first | refine hK _ ?_ | refine ⟨by omega, hK _ ?_⟩ | refine ⟨by omega, by omega, hK _ ?_⟩
    refine AnyW.weak ?_ (r19h00110111000000 ps k own fs gs a hg hf Q hQ)
    first | (refine Weak.to2 (Eq.refl _) ?_; simp; done) | exact Weak.to3 (by intro i; simp only [lk]; (repeat' split) <;> first | rfl | omega) (by simp)
  refine AnyW.all1 ?_ ?_
  · refine AnyW.one (o := r19o 8) r19e8 rfl fun K hK => ?_
    simp [r19d8, r19p8, r19g8, and_assoc, eG_take, eI_take, eG_append, eG_one, eI_append, eI_one]
    first | refine hK _ ?_ | refine ⟨by omega, hK _ ?_⟩ | refine ⟨by omega, by omega, hK _ ?_⟩
    refine AnyW.weak ?_ (r19h00100111100000 ps k own fs gs a hg hf Q hQ)
    first | (refine Weak.to2 (Eq.refl _) ?_; simp; done) | exact Weak.to3 (by intro i; simp only [lk]; (repeat' split) <;> first | rfl | omega) (by simp)
  exact AnyW.all0
theorem r19h00100101100000 (ps : List (List D)) (k : Nat) (own fs : List Int) (gs : List (List Int)) (a : Int) (hg : gs.length ≤ 2000000) (hf : fs.length ≤ 2000000) (Q : Exit → St → Prop)
    (hQ : ∀ s', Weak s' ⟨62, [(0, .d (.sl 9 ps)), (2, .pt 2 0), (4, .pt 4 0), (5, aI k), (7, .d (.sl 1 (eI own))), (8, aI a)], [(58, .arr 1 (eI (fs ++ [a]))), (53, .arr 1 (eG (gs ++ [own]))), (4, .var [.ms 53 1 0 (gs.length + 1), .ms 58 1 0 (fs.length + 1)]), (2, .var [aNil, aNil])]⟩ → Q .normal s') : AnyW Try.prog r19ops [false, false, true, false, false, true, false, true, true, false, false, false, false, false] ⟨62, [(0, .d (.sl 9 ps)), (2, .pt 2 0), (4, .pt 4 0), (5, aI k), (7, .d (.sl 1 (eI own))), (8, aI a), (51, .d (.sl 1 (eI own))), (54, .pt 4 1), (57, .ms 57 1 0 1)], [(57, .arr 1 (eI [a])), (58, .arr 1 (eI fs)), (53, .arr 1 (eG gs)), (4, .var [.ms 53 1 0 gs.length, .ms 58 1 0 fs.length]), (2, .var [aNil, aNil])]⟩ Q := by
  refine AnyW.step ttOK etOK [0, 3, 6] (by decide +kernel) rfl rfl ?_
  refine AnyW.all1 ?_ ?_
  · refine AnyW.one (o := r19o 0) r19e0 rfl fun K hK => ?_
    simp [r19d0, r19p0, r19g0, and_assoc, eG_take, eI_take, eG_append, eG_one, eI_append, eI_one]
    first | refine hK _ ?_ | refine ⟨by omega, hK _ ?_⟩ | refine ⟨by omega, by omega, hK _ ?_⟩
    refine AnyW.weak ?_ (r19h10100101100000 ps k own fs gs a hg hf Q hQ)
    first | (refine Weak.to2 (Eq.refl _) ?_; simp; done) | exact Weak.to3 (by intro i; simp only [lk]; (repeat' split) <;> first | rfl | omega) (by simp)
  refine AnyW.all1 ?_ ?_
  · refine AnyW.one (o := r19o 3) r19e3 rfl fun K hK => ?_
    simp [r19d3, r19p3, r19g3, and_assoc, eG_take, eI_take, eG_append, eG_one, eI_append, eI_one]
    first | refine hK _ ?_ | refine ⟨by omega, hK _ ?_⟩ | refine ⟨by omega, by omega, hK _ ?_⟩
    refine AnyW.weak ?_ (r19h00110101100000 ps k own fs gs a hg hf Q hQ)
    first | (refine Weak.to2 (Eq.refl _) ?_; simp; done) | exact Weak.to3 (by intro i; simp only [lk]; (repeat' split) <;> first | rfl | omega) (by simp)
  refine AnyW.all1 ?_ ?_
  · refine AnyW.one (o := r19o 6) r19e6 rfl fun K hK => ?_
    simp [r19d6, r19p6, r19g6, and_assoc, eG_take, eI_take, eG_append, eG_one, eI_append, eI_one]
    first | refine hK _ ?_ | refine ⟨by omega, hK _ ?_⟩ | refine ⟨by omega, by omega, hK _ ?_⟩
    refine AnyW.weak ?_ (r19h00100111100000 ps k own fs gs a hg hf Q hQ)
    first | (refine Weak.to2 (Eq.refl _) ?_; simp; done) | exact Weak.to3 (by intro i; simp only [lk]; (repeat' split) <;> first | rfl | omega) (by simp)
  exact AnyW.all0
theorem r19h00000111100000 (ps : List (List D)) (k : Nat) (own fs : List Int) (gs : List (List Int)) (a : Int) (hg : gs.length ≤ 2000000) (hf : fs.length ≤ 2000000) (Q : Exit → St → Prop)
    (hQ : ∀ s', Weak s' ⟨62, [(0, .d (.sl 9 ps)), (2, .pt 2 0), (4, .pt 4 0), (5, aI k), (7, .d (.sl 1 (eI own))), (8, aI a)], [(58, .arr 1 (eI (fs ++ [a]))), (53, .arr 1 (eG (gs ++ [own]))), (4, .var [.ms 53 1 0 (gs.length + 1), .ms 58 1 0 (fs.length + 1)]), (2, .var [aNil, aNil])]⟩ → Q .normal s') : AnyW Try.prog r19ops [false, false, false, false, false, true, true, true, true, false, false, false, false, false] ⟨62, [(0, .d (.sl 9 ps)), (2, .pt 2 0), (4, .pt 4 0), (5, aI k), (7, .d (.sl 1 (eI own))), (8, aI a), (54, .pt 4 1), (55, .ms 58 1 0 fs.length), (57, .ms 57 1 0 1)], [(57, .arr 1 (eI [a])), (58, .arr 1 (eI fs)), (53, .arr 1 (eG gs)), (4, .var [.ms 53 1 0 gs.length, .ms 58 1 0 fs.length]), (2, .var [aNil, aNil])]⟩ Q := by
  refine AnyW.step ttOK etOK [0, 2] (by decide +kernel) rfl rfl ?_
  refine AnyW.all1 ?_ ?_
  · refine AnyW.one (o := r19o 0) r19e0 rfl fun K hK => ?_
    simp [r19d0, r19p0, r19g0, and_assoc, eG_take, eI_take, eG_append, eG_one, eI_append, eI_one]
    first | refine hK _ ?_ | refine ⟨by omega, hK _ ?_⟩ | refine ⟨by omega, by omega, hK _ ?_⟩
    refine AnyW.weak ?_ (r19h10000111100000 ps k own fs gs a hg hf Q hQ)
    first | (refine Weak.to2 (Eq.refl _) ?_; simp; done) | exact Weak.to3 (by intro i; simp only [lk]; (repeat' split) <;> first | rfl | omega) (by simp)
  refine AnyW.all1 ?_ ?_
  · refine AnyW.one (o := r19o 2) r19e2 rfl fun K hK => ?_
    simp [r19d2, r19p2, r19g2, and_assoc, eG_take, eI_take, eG_append, eG_one, eI_append, eI_one]
    first | refine hK _ ?_ | refine ⟨by omega, hK _ ?_⟩ | refine ⟨by omega, by omega, hK _ ?_⟩
    refine AnyW.weak ?_ (r19h00100111100000 ps k own fs gs a hg hf Q hQ)
    first | (refine Weak.to2 (Eq.refl _) ?_; simp; done) | exact Weak.to3 (by intro i; simp only [lk]; (repeat' split) <;> first | rfl | omega) (by simp)
  exact AnyW.all0
theorem r19h11100000000000 (ps : List (List D)) (k : Nat) (own fs : List Int) (gs : List (List Int)) (a : Int) (hg : gs.length ≤ 2000000) (hf : fs.length ≤ 2000000) (Q : Exit → St → Prop)
    (hQ : ∀ s', Weak s' ⟨62, [(0, .d (.sl 9 ps)), (2, .pt 2 0), (4, .pt 4 0), (5, aI k), (7, .d (.sl 1 (eI own))), (8, aI a)], [(58, .arr 1 (eI (fs ++ [a]))), (53, .arr 1 (eG (gs ++ [own]))), (4, .var [.ms 53 1 0 (gs.length + 1), .ms 58 1 0 (fs.length + 1)]), (2, .var [aNil, aNil])]⟩ → Q .normal s') : AnyW Try.prog r19ops [true, true, true, false, false, false, false, false, false, false, false, false, false, false] ⟨62, [(0, .d (.sl 9 ps)), (2, .pt 2 0), (4, .pt 4 0), (5, aI k), (7, .d (.sl 1 (eI own))), (8, aI a), (49, .pt 4 0), (50, .ms 53 1 0 gs.length), (51, .d (.sl 1 (eI own)))], [(58, .arr 1 (eI fs)), (53, .arr 1 (eG gs)), (4, .var [.ms 53 1 0 gs.length, .ms 58 1 0 fs.length]), (2, .var [aNil, aNil])]⟩ Q := by
  refine AnyW.step ttOK etOK [3, 5, 7] (by decide +kernel) rfl rfl ?_
  refine AnyW.all1 ?_ ?_
  · refine AnyW.one (o := r19o 3) r19e3 rfl fun K hK => ?_
    simp [r19d3, r19p3, r19g3, and_assoc, eG_take, eI_take, eG_append, eG_one, eI_append, eI_one]
    first | refine hK _ ?_ | refine ⟨by omega, hK _ ?_⟩ | refine ⟨by omega, by omega, hK _ ?_⟩
    refine AnyW.weak ?_ (r19h11110000000000 ps k own fs gs a hg hf Q hQ)
    first | (refine Weak.to2 (Eq.refl _) ?_; simp; done) | exact Weak.to3 (by intro i; simp only [lk]; (repeat' split) <;> first | rfl | omega) (by simp)
  refine AnyW.all1 ?_ ?_
  · refine AnyW.one (o := r19o 5) r19e5 rfl fun K hK => ?_
    simp [r19d5, r19p5, r19g5, and_assoc, eG_take, eI_take, eG_append, eG_one, eI_append, eI_one]
    first | refine hK _ ?_ | refine ⟨by omega, hK _ ?_⟩ | refine ⟨by omega, by omega, hK _ ?_⟩
    refine AnyW.weak ?_ (r19h11100100000000 ps k own fs gs a hg hf Q hQ)
    first | (refine Weak.to2 (Eq.refl _) ?_; simp; done) | exact Weak.to3 (by intro i; simp only [lk]; (repeat' split) <;> first | rfl | omega) (by simp)
  refine AnyW.all1 ?_ ?_
  · refine AnyW.one (o := r19o 7) r19e7 rfl fun K hK => ?_
    simp [r19d7, r19p7, r19g7, and_assoc, eG_take, eI_take, eG_append, eG_one, eI_append, eI_one]
    first | refine hK _ ?_ | refine ⟨by omega, hK _ ?_⟩ | refine ⟨by omega, by omega, hK _ ?_⟩
    refine AnyW.weak ?_ (r19h11100001000000 ps k own fs gs a hg hf Q hQ)
    first | (refine Weak.to2 (Eq.refl _) ?_; simp; done) | exact Weak.to3 (by intro i; simp only [lk]; (repeat' split) <;> first | rfl | omega) (by simp)
  exact AnyW.all0
theorem r19h11000100000000 (ps : List (List D)) (k : Nat) (own fs : List Int) (gs : List (List Int)) (a : Int) (hg : gs.length ≤ 2000000) (hf : fs.length ≤ 2000000) (Q : Exit → St → Prop)
    (hQ : ∀ s', Weak s' ⟨62, [(0, .d (.sl 9 ps)), (2, .pt 2 0), (4, .pt 4 0), (5, aI k), (7, .d (.sl 1 (eI own))), (8, aI a)], [(58, .arr 1 (eI (fs ++ [a]))), (53, .arr 1 (eG (gs ++ [own]))), (4, .var [.ms 53 1 0 (gs.length + 1), .ms 58 1 0 (fs.length + 1)]), (2, .var [aNil, aNil])]⟩ → Q .normal s') : AnyW Try.prog r19ops [true, true, false, false, false, true, false, false, false, false, false, false, false, false] ⟨62, [(0, .d (.sl 9 ps)), (2, .pt 2 0), (4, .pt 4 0), (5, aI k), (7, .d (.sl 1 (eI own))), (8, aI a), (49, .pt 4 0), (50, .ms 53 1 0 gs.length), (54, .pt 4 1)], [(58, .arr 1 (eI fs)), (53, .arr 1 (eG gs)), (4, .var [.ms 53 1 0 gs.length, .ms 58 1 0 fs.length]), (2, .var [aNil, aNil])]⟩ Q := by
  refine AnyW.step ttOK etOK [2, 6, 7] (by decide +kernel) rfl rfl ?_
  refine AnyW.all1 ?_ ?_
  · refine AnyW.one (o := r19o 2) r19e2 rfl fun K hK => ?_
    simp [r19d2, r19p2, r19g2, and_assoc, eG_take, eI_take, eG_append, eG_one, eI_append, eI_one]
    first | refine hK _ ?_ | refine ⟨by omega, hK _ ?_⟩ | refine ⟨by omega, by omega, hK _ ?_⟩
    refine AnyW.weak ?_ (r19h11100100000000 ps k own fs gs a hg hf Q hQ)
    first | (refine Weak.to2 (Eq.refl _) ?_; simp; done) | exact Weak.to3 (by intro i; simp only [lk]; (repeat' split) <;> first | rfl | omega) (by simp)
  refine AnyW.all1 ?_ ?_
  · refine AnyW.one (o := r19o 6) r19e6 rfl fun K hK => ?_
    simp [r19d6, r19p6, r19g6, and_assoc, eG_take, eI_take, eG_append, eG_one, eI_append, eI_one]
    first | refine hK _ ?_ | refine ⟨by omega, hK _ ?_⟩ | refine ⟨by omega, by omega, hK _ ?_⟩
    refine AnyW.weak ?_ (r19h11000110000000 ps k own fs gs a hg hf Q hQ)
    first | (refine Weak.to2 (Eq.refl _) ?_; simp; done) | exact Weak.to3 (by intro i; simp only [lk]; (repeat' split) <;> first | rfl | omega) (by simp)
  refine AnyW.all1 ?_ ?_
  · refine AnyW.one (o := r19o 7) r19e7 rfl fun K hK => ?_
    simp [r19d7, r19p7, r19g7, and_assoc, eG_take, eI_take, eG_append, eG_one, eI_append, eI_one]
    first | refine hK _ ?_ | refine ⟨by omega, hK _ ?_⟩ | refine ⟨by omega, by omega, hK _ ?_⟩
    refine AnyW.weak ?_ (r19h11000101000000 ps k own fs gs a hg hf Q hQ)
    first | (refine Weak.to2 (Eq.refl _) ?_; simp; done) | exact Weak.to3 (by intro i; simp only [lk]; (repeat' split) <;> first | rfl | omega) (by simp)
  exact AnyW.all0
theorem r19h11000001000000 (ps : List (List D)) (k : Nat) (own fs : List Int) (gs : List (List Int)) (a : Int) (hg : gs.length ≤ 2000000) (hf : fs.length ≤ 2000000) (Q : Exit → St → Prop)
    (hQ : ∀ s', Weak s' ⟨62, [(0, .d (.sl 9 ps)), (2, .pt 2 0), (4, .pt 4 0), (5, aI k), (7, .d (.sl 1 (eI own))), (8, aI a)], [(58, .arr 1 (eI (fs ++ [a]))), (53, .arr 1 (eG (gs ++ [own]))), (4, .var [.ms 53 1 0 (gs.length + 1), .ms 58 1 0 (fs.length + 1)]), (2, .var [aNil, aNil])]⟩ → Q .normal s') : AnyW Try.prog r19ops [true, true, false, false, false, false, false, true, false, false, false, false, false, false] ⟨62, [(0, .d (.sl 9 ps)), (2, .pt 2 0), (4, .pt 4 0), (5, aI k), (7, .d (.sl 1 (eI own))), (8, aI a), (49, .pt 4 0), (50, .ms 53 1 0 gs.length), (56, aI a)], [(58, .arr 1 (eI fs)), (53, .arr 1 (eG gs)), (4, .var [.ms 53 1 0 gs.length, .ms 58 1 0 fs.length]), (2, .var [aNil, aNil])]⟩ Q := by
  refine AnyW.step ttOK etOK [2, 5, 8] (by decide +kernel) rfl rfl ?_
  refine AnyW.all1 ?_ ?_
  · refine AnyW.one (o := r19o 2) r19e2 rfl fun K hK => ?_
    simp [r19d2, r19p2, r19g2, and_assoc, eG_take, eI_take, eG_append, eG_one, eI_append, eI_one]
    first | refine hK _ ?_ | refine ⟨by omega, hK _ ?_⟩ | refine ⟨by omega, by omega, hK _ ?_⟩
    refine AnyW.weak ?_ (r19h11100001000000 ps k own fs gs a hg hf Q hQ)
    first | (refine Weak.to2 (Eq.refl _) ?_; simp; done) | exact Weak.to3 (by intro i; simp only [lk]; (repeat' split) <;> first | rfl | omega) (by simp)
  refine AnyW.all1 ?_ ?_
  · refine AnyW.one (o := r19o 5) r19e5 rfl fun K hK => ?_
    simp [r19d5, r19p5, r19g5, and_assoc, eG_take, eI_take, eG_append, eG_one, eI_append, eI_one]
    first | refine hK _ ?_ | refine ⟨by omega, hK _ ?_⟩ | refine ⟨by omega, by omega, hK _ ?_⟩
    refine AnyW.weak ?_ (r19h11000101000000 ps k own fs gs a hg hf Q hQ)
    first | (refine Weak.to2 (Eq.refl _) ?_; simp; done) | exact Weak.to3 (by intro i; simp only [lk]; (repeat' split) <;> first | rfl | omega) (by simp)
  refine AnyW.all1 ?_ ?_
  · refine AnyW.one (o := r19o 8) r19e8 rfl fun K hK => ?_
    simp [r19d8, r19p8, r19g8, and_assoc, eG_take, eI_take, eG_append, eG_one, eI_append, eI_one]
    first | refine hK _ ?_ | refine ⟨by omega, hK _ ?_⟩ | refine ⟨by omega, by omega, hK _ ?_⟩
    refine AnyW.weak ?_ (r19h11000001100000 ps k own fs gs a hg hf Q hQ)
    first | (refine Weak.to2 (Eq.refl _) ?_; simp; done) | exact Weak.to3 (by intro i; simp only [lk]; (repeat' split) <;> first | rfl | omega) (by simp)
  exact AnyW.all0
theorem r19h10110000000000 (ps : List (List D)) (k : Nat) (own fs : List Int) (gs : List (List Int)) (a : Int) (hg : gs.length ≤ 2000000) (hf : fs.length ≤ 2000000) (Q : Exit → St → Prop)
    (hQ : ∀ s', Weak s' ⟨62, [(0, .d (.sl 9 ps)), (2, .pt 2 0), (4, .pt 4 0), (5, aI k), (7, .d (.sl 1 (eI own))), (8, aI a)], [(58, .arr 1 (eI (fs ++ [a]))), (53, .arr 1 (eG (gs ++ [own]))), (4, .var [.ms 53 1 0 (gs.length + 1), .ms 58 1 0 (fs.length + 1)]), (2, .var [aNil, aNil])]⟩ → Q .normal s') : AnyW Try.prog r19ops [true, false, true, true, false, false, false, false, false, false, false, false, false, false] ⟨62, [(0, .d (.sl 9 ps)), (2, .pt 2 0), (4, .pt 4 0), (5, aI k), (7, .d (.sl 1 (eI own))), (8, aI a), (49, .pt 4 0), (52, .ms 52 1 0 1)], [(52, .arr 1 (eG [own])), (58, .arr 1 (eI fs)), (53, .arr 1 (eG gs)), (4, .var [.ms 53 1 0 gs.length, .ms 58 1 0 fs.length]), (2, .var [aNil, aNil])]⟩ Q := by
  refine AnyW.step ttOK etOK [1, 5, 7] (by decide +kernel) rfl rfl ?_
  refine AnyW.all1 ?_ ?_
  · refine AnyW.one (o := r19o 1) r19e1 rfl fun K hK => ?_
    simp [r19d1, r19p1, r19g1, and_assoc, eG_take, eI_take, eG_append, eG_one, eI_append, eI_one]
    first | refine hK _ ?_ | refine ⟨by omega, hK _ ?_⟩ | refine ⟨by omega, by omega, hK _ ?_⟩
    refine AnyW.weak ?_ (r19h11110000000000 ps k own fs gs a hg hf Q hQ)
    first | (refine Weak.to2 (Eq.refl _) ?_; simp; done) | exact Weak.to3 (by intro i; simp only [lk]; (repeat' split) <;> first | rfl | omega) (by simp)
  refine AnyW.all1 ?_ ?_
  · refine AnyW.one (o := r19o 5) r19e5 rfl fun K hK => ?_
    simp [r19d5, r19p5, r19g5, and_assoc, eG_take, eI_take, eG_append, eG_one, eI_append, eI_one]
    first | refine hK _ ?_ | refine ⟨by omega, hK _ ?_⟩ | refine ⟨by omega, by omega, hK _ ?_⟩
    refine AnyW.weak ?_ (r19h10110100000000 ps k own fs gs a hg hf Q hQ)
    first | (refine Weak.to2 (Eq.refl _) ?_; simp; done) | exact Weak.to3 (by intro i; simp only [lk]; (repeat' split) <;> first | rfl | omega) (by simp)
  refine AnyW.all1 ?_ ?_
  · refine AnyW.one (o := r19o 7) r19e7 rfl fun K hK => ?_
    simp [r19d7, r19p7, r19g7, and_assoc, eG_take, eI_take, eG_append, eG_one, eI_append, eI_one]
    first | refine hK _ ?_ | refine ⟨by omega, hK _ ?_⟩ | refine ⟨by omega, by omega, hK _ ?_⟩
    refine AnyW.weak ?_ (r19h10110001000000 ps k own fs gs a hg hf Q hQ)
    first | (refine Weak.to2 (Eq.refl _) ?_; simp; done) | exact Weak.to3 (by intro i; simp only [lk]; (repeat' split) <;> first | rfl | omega) (by simp)
  exact AnyW.all0
theorem r19h10100100000000 (ps : List (List D)) (k : Nat) (own fs : List Int) (gs : List (List Int)) (a : Int) (hg : gs.length ≤ 2000000) (hf : fs.length ≤ 2000000) (Q : Exit → St → Prop)
    (hQ : ∀ s', Weak s' ⟨62, [(0, .d (.sl 9 ps)), (2, .pt 2 0), (4, .pt 4 0), (5, aI k), (7, .d (.sl 1 (eI own))), (8, aI a)], [(58, .arr 1 (eI (fs ++ [a]))), (53, .arr 1 (eG (gs ++ [own]))), (4, .var [.ms 53 1 0 (gs.length + 1), .ms 58 1 0 (fs.length + 1)]), (2, .var [aNil, aNil])]⟩ → Q .normal s') : AnyW Try.prog r19ops [true, false, true, false, false, true, false, false, false, false, false, false, false, false] ⟨62, [(0, .d (.sl 9 ps)), (2, .pt 2 0), (4, .pt 4 0), (5, aI k), (7, .d (.sl 1 (eI own))), (8, aI a), (49, .pt 4 0), (51, .d (.sl 1 (eI own))), (54, .pt 4 1)], [(58, .arr 1 (eI fs)), (53, .arr 1 (eG gs)), (4, .var [.ms 53 1 0 gs.length, .ms 58 1 0 fs.length]), (2, .var [aNil, aNil])]⟩ Q := by
  refine AnyW.step ttOK etOK [1, 3, 6, 7] (by decide +kernel) rfl rfl ?_
  refine AnyW.all1 ?_ ?_
  · refine AnyW.one (o := r19o 1) r19e1 rfl fun K hK => ?_
    simp [r19d1, r19p1, r19g1, and_assoc, eG_take, eI_take, eG_append, eG_one, eI_append, eI_one]
    first | refine hK _ ?_ | refine ⟨by omega, hK _ ?_⟩ | refine ⟨by omega, by omega, hK _ ?_⟩
    refine AnyW.weak ?_ (r19h11100100000000 ps k own fs gs a hg hf Q hQ)
    first | (refine Weak.to2 (Eq.refl _) ?_; simp; done) | exact Weak.to3 (by intro i; simp only [lk]; (repeat' split) <;> first | rfl | omega) (by simp)
  refine AnyW.all1 ?_ ?_
  · refine AnyW.one (o := r19o 3) r19e3 rfl fun K hK => ?_
    simp [r19d3, r19p3, r19g3, and_assoc, eG_take, eI_take, eG_append, eG_one, eI_append, eI_one]
    first | refine hK _ ?_ | refine ⟨by omega, hK _ ?_⟩ | refine ⟨by omega, by omega, hK _ ?_⟩
    refine AnyW.weak ?_ (r19h10110100000000 ps k own fs gs a hg hf Q hQ)
    first | (refine Weak.to2 (Eq.refl _) ?_; simp; done) | exact Weak.to3 (by intro i; simp only [lk]; (repeat' split) <;> first | rfl | omega) (by simp)
  refine AnyW.all1 ?_ ?_
  · refine AnyW.one (o := r19o 6) r19e6 rfl fun K hK => ?_
    simp [r19d6, r19p6, r19g6, and_assoc, eG_take, eI_take, eG_append, eG_one, eI_append, eI_one]
    first | refine hK _ ?_ | refine ⟨by omega, hK _ ?_⟩ | refine ⟨by omega, by omega, hK _ ?_⟩
    refine AnyW.weak ?_ (r19h10100110000000 ps k own fs gs a hg hf Q hQ)
    first | (refine Weak.to2 (Eq.refl _) ?_; simp; done) | exact Weak.to3 (by intro i; simp only [lk]; (repeat' split) <;> first | rfl | omega) (by simp)
  refine AnyW.all1 ?_ ?_
  · refine AnyW.one (o := r19o 7) r19e7 rfl fun K hK => ?_
    simp [r19d7, r19p7, r19g7, and_assoc, eG_take, eI_take, eG_append, eG_one, eI_append, eI_one]
    first | refine hK _ ?_ | refine ⟨by omega, hK _ ?_⟩ | refine ⟨by omega, by omega, hK _ ?_⟩
    refine AnyW.weak ?_ (r19h10100101000000 ps k own fs gs a hg hf Q hQ)
    first | (refine Weak.to2 (Eq.refl _) ?_; simp; done) | exact Weak.to3 (by intro i; simp only [lk]; (repeat' split) <;> first | rfl | omega) (by simp)
  exact AnyW.all0
theorem r19h10100001000000 (ps : List (List D)) (k : Nat) (own fs : List Int) (gs : List (List Int)) (a : Int) (hg : gs.length ≤ 2000000) (hf : fs.length ≤ 2000000) (Q : Exit → St → Prop)
    (hQ : ∀ s', Weak s' ⟨62, [(0, .d (.sl 9 ps)), (2, .pt 2 0), (4, .pt 4 0), (5, aI k), (7, .d (.sl 1 (eI own))), (8, aI a)], [(58, .arr 1 (eI (fs ++ [a]))), (53, .arr 1 (eG (gs ++ [own]))), (4, .var [.ms 53 1 0 (gs.length + 1), .ms 58 1 0 (fs.length + 1)]), (2, .var [aNil, aNil])]⟩ → Q .normal s') : AnyW Try.prog r19ops [true, false, true, false, false, false, false, true, false, false, false, false, false, false] ⟨62, [(0, .d (.sl 9 ps)), (2, .pt 2 0), (4, .pt 4 0), (5, aI k), (7, .d (.sl 1 (eI own))), (8, aI a), (49, .pt 4 0), (51, .d (.sl 1 (eI own))), (56, aI a)], [(58, .arr 1 (eI fs)), (53, .arr 1 (eG gs)), (4, .var [.ms 53 1 0 gs.length, .ms 58 1 0 fs.length]), (2, .var [aNil, aNil])]⟩ Q := by
  refine AnyW.step ttOK etOK [1, 3, 5, 8] (by decide +kernel) rfl rfl ?_
  refine AnyW.all1 ?_ ?_
  · refine AnyW.one (o := r19o 1) r19e1 rfl fun K hK => ?_
    simp [r19d1, r19p1, r19g1, and_assoc, eG_take, eI_take, eG_append, eG_one, eI_append, eI_one]
    first | refine hK _ ?_ | refine ⟨by omega, hK _ ?_⟩ | refine ⟨by omega, by omega, hK _ ?_⟩
    refine AnyW.weak ?_ (r19h11100001000000 ps k own fs gs a hg hf Q hQ)
    first | (refine Weak.to2 (Eq.refl _) ?_; simp; done) | exact Weak.to3 (by intro i; simp only [lk]; (repeat' split) <;> first | rfl | omega) (by simp)
  refine AnyW.all1 ?_ ?_
  · refine AnyW.one (o := r19o 3) r19e3 rfl fun K hK => ?_
    simp [r19d3, r19p3, r19g3, and_assoc, eG_take, eI_take, eG_append, eG_one, eI_append, eI_one]
    first | refine hK _ ?_ | refine ⟨by omega, hK _ ?_⟩ | refine ⟨by omega, by omega, hK _ ?_⟩
    refine AnyW.weak ?_ (r19h10110001000000 ps k own fs gs a hg hf Q hQ)
    first | (refine Weak.to2 (Eq.refl _) ?_; simp; done) | exact Weak.to3 (by intro i; simp only [lk]; (repeat' split) <;> first | rfl | omega) (by simp)
  refine AnyW.all1 ?_ ?_
  · refine AnyW.one (o := r19o 5) r19e5 rfl fun K hK => ?_
    simp [r19d5, r19p5, r19g5, and_assoc, eG_take, eI_take, eG_append, eG_one, eI_append, eI_one]
    first | refine hK _ ?_ | refine ⟨by omega, hK _ ?_⟩ | refine ⟨by omega, by omega, hK _ ?_⟩
    refine AnyW.weak ?_ (r19h10100101000000 ps k own fs gs a hg hf Q hQ)
    first | (refine Weak.to2 (Eq.refl _) ?_; simp; done) | exact Weak.to3 (by intro i; simp only [lk]; (repeat' split) <;> first | rfl | omega) (by simp)
  refine AnyW.all1 ?_ ?_
  · refine AnyW.one (o := r19o 8) r19e8 rfl fun K hK => ?_
    simp [r19d8, r19p8, r19g8, and_assoc, eG_take, eI_take, eG_append, eG_one, eI_append, eI_one]
    first | refine hK _ ?_ | refine ⟨by omega, hK _ ?_⟩ | refine ⟨by omega, by omega, hK _ ?_⟩
    refine AnyW.weak ?_ (r19h10100001100000 ps k own fs gs a hg hf Q hQ)
    first | (refine Weak.to2 (Eq.refl _) ?_; simp; done) | exact Weak.to3 (by intro i; simp only [lk]; (repeat' split) <;> first | rfl | omega) (by simp)
  exact AnyW.all0
theorem r19h10000110000000 (ps : List (List D)) (k : Nat) (own fs : List Int) (gs : List (List Int)) (a : Int) (hg : gs.length ≤ 2000000) (hf : fs.length ≤ 2000000) (Q : Exit → St → Prop)
    (hQ : ∀ s', Weak s' ⟨62, [(0, .d (.sl 9 ps)), (2, .pt 2 0), (4, .pt 4 0), (5, aI k), (7, .d (.sl 1 (eI own))), (8, aI a)], [(58, .arr 1 (eI (fs ++ [a]))), (53, .arr 1 (eG (gs ++ [own]))), (4, .var [.ms 53 1 0 (gs.length + 1), .ms 58 1 0 (fs.length + 1)]), (2, .var [aNil, aNil])]⟩ → Q .normal s') : AnyW Try.prog r19ops [true, false, false, false, false, true, true, false, false, false, false, false, false, false] ⟨62, [(0, .d (.sl 9 ps)), (2, .pt 2 0), (4, .pt 4 0), (5, aI k), (7, .d (.sl 1 (eI own))), (8, aI a), (49, .pt 4 0), (54, .pt 4 1), (55, .ms 58 1 0 fs.length)], [(58, .arr 1 (eI fs)), (53, .arr 1 (eG gs)), (4, .var [.ms 53 1 0 gs.length, .ms 58 1 0 fs.length]), (2, .var [aNil, aNil])]⟩ Q := by
  refine AnyW.step ttOK etOK [1, 2, 7] (by decide +kernel) rfl rfl ?_
  refine AnyW.all1 ?_ ?_
  · refine AnyW.one (o := r19o 1) r19e1 rfl fun K hK => ?_
    simp [r19d1, r19p1, r19g1, and_assoc, eG_take, eI_take, eG_append, eG_one, eI_append, eI_one]
    first | refine hK _ ?_ | refine ⟨by omega, hK _ ?_⟩ | refine ⟨by omega, by omega, hK _ ?_⟩
    refine AnyW.weak ?_ (r19h11000110000000 ps k own fs gs a hg hf Q hQ)
    first | (refine Weak.to2 (Eq.refl _) ?_; simp; done) | exact Weak.to3 (by intro i; simp only [lk]; (repeat' split) <;> first | rfl | omega) (by simp)
  refine AnyW.all1 ?_ ?_
  · refine AnyW.one (o := r19o 2) r19e2 rfl fun K hK => ?_
    simp [r19d2, r19p2, r19g2, and_assoc, eG_take, eI_take, eG_append, eG_one, eI_append, eI_one]
    first | refine hK _ ?_ | refine ⟨by omega, hK _ ?_⟩ | refine ⟨by omega, by omega, hK _ ?_⟩
    refine AnyW.weak ?_ (r19h10100110000000 ps k own fs gs a hg hf Q hQ)
    first | (refine Weak.to2 (Eq.refl _) ?_; simp; done) | exact Weak.to3 (by intro i; simp only [lk]; (repeat' split) <;> first | rfl | omega) (by simp)
  refine AnyW.all1 ?_ ?_
  · refine AnyW.one (o := r19o 7) r19e7 rfl fun K hK => ?_
    simp [r19d7, r19p7, r19g7, and_assoc, eG_take, eI_take, eG_append, eG_one, eI_append, eI_one]
    first | refine hK _ ?_ | refine ⟨by omega, hK _ ?_⟩ | refine ⟨by omega, by omega, hK _ ?_⟩
    refine AnyW.weak ?_ (r19h10000111000000 ps k own fs gs a hg hf Q hQ)
    first | (refine Weak.to2 (Eq.refl _) ?_; simp; done) | exact Weak.to3 (by intro i; simp only [lk]; (repeat' split) <;> first | rfl | omega) (by simp)
  exact AnyW.all0
theorem r19h10000101000000 (ps : List (List D)) (k : Nat) (own fs : List Int) (gs : List (List Int)) (a : Int) (hg : gs.length ≤ 2000000) (hf : fs.length ≤ 2000000) (Q : Exit → St → Prop)
    (hQ : ∀ s', Weak s' ⟨62, [(0, .d (.sl 9 ps)), (2, .pt 2 0), (4, .pt 4 0), (5, aI k), (7, .d (.sl 1 (eI own))), (8, aI a)], [(58, .arr 1 (eI (fs ++ [a]))), (53, .arr 1 (eG (gs ++ [own]))), (4, .var [.ms 53 1 0 (gs.length + 1), .ms 58 1 0 (fs.length + 1)]), (2, .var [aNil, aNil])]⟩ → Q .normal s') : AnyW Try.prog r19ops [true, false, false, false, false, true, false, true, false, false, false, false, false, false] ⟨62, [(0, .d (.sl 9 ps)), (2, .pt 2 0), (4, .pt 4 0), (5, aI k), (7, .d (.sl 1 (eI own))), (8, aI a), (49, .pt 4 0), (54, .pt 4 1), (56, aI a)], [(58, .arr 1 (eI fs)), (53, .arr 1 (eG gs)), (4, .var [.ms 53 1 0 gs.length, .ms 58 1 0 fs.length]), (2, .var [aNil, aNil])]⟩ Q := by
  refine AnyW.step ttOK etOK [1, 2, 6, 8] (by decide +kernel) rfl rfl ?_
  refine AnyW.all1 ?_ ?_
  · refine AnyW.one (o := r19o 1) r19e1 rfl fun K hK => ?_
    simp [r19d1, r19p1, r19g1, and_assoc, eG_take, eI_take, eG_append, eG_one, eI_append, eI_one]
    first | refine hK _ ?_ | refine ⟨by omega, hK _ ?_⟩ | refine ⟨by omega, by omega, hK _ ?_⟩
    refine AnyW.weak ?_ (r19h11000101000000 ps k own fs gs a hg hf Q hQ)
    first | (refine Weak.to2 (Eq.refl _) ?_; simp; done) | exact Weak.to3 (by intro i; simp only [lk]; (repeat' split) <;> first | rfl | omega) (by simp)
  refine AnyW.all1 ?_ ?_
  · refine AnyW.one (o := r19o 2) r19e2 rfl fun K hK => ?_
    simp [r19d2, r19p2, r19g2, and_assoc, eG_take, eI_take, eG_append, eG_one, eI_append, eI_one]
    first | refine hK _ ?_ | refine ⟨by omega, hK _ ?_⟩ | refine ⟨by omega, by omega, hK _ ?_⟩
    refine AnyW.weak ?_ (r19h10100101000000 ps k own fs gs a hg hf Q hQ)
    first | (refine Weak.to2 (Eq.refl _) ?_; simp; done) | exact Weak.to3 (by intro i; simp only [lk]; (repeat' split) <;> first | rfl | omega) (by simp)
  refine AnyW.all1 ?_ ?_
  · refine AnyW.one (o := r19o 6) r19e6 rfl fun K hK => ?_
    simp [r19d6, r19p6, r19g6, and_assoc, eG_take, eI_take, eG_append, eG_one, eI_append, eI_one]
    first | refine hK _ ?_ | refine ⟨by omega, hK _ ?_⟩ | refine ⟨by omega, by omega, hK _ ?_⟩
    refine AnyW.weak ?_ (r19h10000111000000 ps k own fs gs a hg hf Q hQ)
    first | (refine Weak.to2 (Eq.refl _) ?_; simp; done) | exact Weak.to3 (by intro i; simp only [lk]; (repeat' split) <;> first | rfl | omega) (by simp)
  refine AnyW.all1 ?_ ?_
  · refine AnyW.one (o := r19o 8) r19e8 rfl fun K hK => ?_
    simp [r19d8, r19p8, r19g8, and_assoc, eG_take, eI_take, eG_append, eG_one, eI_append, eI_one]
    first | refine hK _ ?_ | refine ⟨by omega, hK _ ?_⟩ | refine ⟨by omega, by omega, hK _ ?_⟩
    refine AnyW.weak ?_ (r19h10000101100000 ps k own fs gs a hg hf Q hQ)
    first | (refine Weak.to2 (Eq.refl _) ?_; simp; done) | exact Weak.to3 (by intro i; simp only [lk]; (repeat' split) <;> first | rfl | omega) (by simp)
  exact AnyW.all0
theorem r19h10000001100000 (ps : List (List D)) (k : Nat) (own fs : List Int) (gs : List (List Int)) (a : Int) (hg : gs.length ≤ 2000000) (hf : fs.length ≤ 2000000) (Q : Exit → St → Prop)
    (hQ : ∀ s', Weak s' ⟨62, [(0, .d (.sl 9 ps)), (2, .pt 2 0), (4, .pt 4 0), (5, aI k), (7, .d (.sl 1 (eI own))), (8, aI a)], [(58, .arr 1 (eI (fs ++ [a]))), (53, .arr 1 (eG (gs ++ [own]))), (4, .var [.ms 53 1 0 (gs.length + 1), .ms 58 1 0 (fs.length + 1)]), (2, .var [aNil, aNil])]⟩ → Q .normal s') : AnyW Try.prog r19ops [true, false, false, false, false, false, false, true, true, false, false, false, false, false] ⟨62, [(0, .d (.sl 9 ps)), (2, .pt 2 0), (4, .pt 4 0), (5, aI k), (7, .d (.sl 1 (eI own))), (8, aI a), (49, .pt 4 0), (57, .ms 57 1 0 1)], [(57, .arr 1 (eI [a])), (58, .arr 1 (eI fs)), (53, .arr 1 (eG gs)), (4, .var [.ms 53 1 0 gs.length, .ms 58 1 0 fs.length]), (2, .var [aNil, aNil])]⟩ Q := by
  refine AnyW.step ttOK etOK [1, 2, 5] (by decide +kernel) rfl rfl ?_
  refine AnyW.all1 ?_ ?_
  · refine AnyW.one (o := r19o 1) r19e1 rfl fun K hK => ?_
    simp [r19d1, r19p1, r19g1, and_assoc, eG_take, eI_take, eG_append, eG_one, eI_append, eI_one]
    first | refine hK _ ?_ | refine ⟨by omega, hK _ ?_⟩ | refine ⟨by omega, by omega, hK _ ?_⟩
    refine AnyW.weak ?_ (r19h11000001100000 ps k own fs gs a hg hf Q hQ)
    first | (refine Weak.to2 (Eq.refl _) ?_; simp; done) | exact Weak.to3 (by intro i; simp only [lk]; (repeat' split) <;> first | rfl | omega) (by simp)
  refine AnyW.all1 ?_ ?_
  · refine AnyW.one (o := r19o 2) r19e2 rfl fun K hK => ?_
    simp [r19d2, r19p2, r19g2, and_assoc, eG_take, eI_take, eG_append, eG_one, eI_append, eI_one]
    first | refine hK _ ?_ | refine ⟨by omega, hK _ ?_⟩ | refine ⟨by omega, by omega, hK _ ?_⟩
    refine AnyW.weak ?_ (r19h10100001100000 ps k own fs gs a hg hf Q hQ)
    first | (refine Weak.to2 (Eq.refl _) ?_; simp; done) | exact Weak.to3 (by intro i; simp only [lk]; (repeat' split) <;> first | rfl | omega) (by simp)
  refine AnyW.all1 ?_ ?_
  · refine AnyW.one (o := r19o 5) r19e5 rfl fun K hK => ?_
    simp [r19d5, r19p5, r19g5, and_assoc, eG_take, eI_take, eG_append, eG_one, eI_append, eI_one]
    first | refine hK _ ?_ | refine ⟨by omega, hK _ ?_⟩ | refine ⟨by omega, by omega, hK _ ?_⟩
    refine AnyW.weak ?_ (r19h10000101100000 ps k own fs gs a hg hf Q hQ)
    first | (refine Weak.to2 (Eq.refl _) ?_; simp; done) | exact Weak.to3 (by intro i; simp only [lk]; (repeat' split) <;> first | rfl | omega) (by simp)
  exact AnyW.all0
theorem r19h00110100000000 (ps : List (List D)) (k : Nat) (own fs : List Int) (gs : List (List Int)) (a : Int) (hg : gs.length ≤ 2000000) (hf : fs.length ≤ 2000000) (Q : Exit → St → Prop)
    (hQ : ∀ s', Weak s' ⟨62, [(0, .d (.sl 9 ps)), (2, .pt 2 0), (4, .pt 4 0), (5, aI k), (7, .d (.sl 1 (eI own))), (8, aI a)], [(58, .arr 1 (eI (fs ++ [a]))), (53, .arr 1 (eG (gs ++ [own]))), (4, .var [.ms 53 1 0 (gs.length + 1), .ms 58 1 0 (fs.length + 1)]), (2, .var [aNil, aNil])]⟩ → Q .normal s') : AnyW Try.prog r19ops [false, false, true, true, false, true, false, false, false, false, false, false, false, false] ⟨62, [(0, .d (.sl 9 ps)), (2, .pt 2 0), (4, .pt 4 0), (5, aI k), (7, .d (.sl 1 (eI own))), (8, aI a), (52, .ms 52 1 0 1), (54, .pt 4 1)], [(52, .arr 1 (eG [own])), (58, .arr 1 (eI fs)), (53, .arr 1 (eG gs)), (4, .var [.ms 53 1 0 gs.length, .ms 58 1 0 fs.length]), (2, .var [aNil, aNil])]⟩ Q := by
  refine AnyW.step ttOK etOK [0, 6, 7] (by decide +kernel) rfl rfl ?_
  refine AnyW.all1 ?_ ?_
  · refine AnyW.one (o := r19o 0) r19e0 rfl fun K hK => ?_
    simp [r19d0, r19p0, r19g0, and_assoc, eG_take, eI_take, eG_append, eG_one, eI_append, eI_one]
    first | refine hK _ ?_ | refine ⟨by omega, hK _ ?_⟩ | refine ⟨by omega, by omega, hK _ ?_⟩
    refine AnyW.weak ?_ (r19h10110100000000 ps k own fs gs a hg hf Q hQ)
    first | (refine Weak.to2 (Eq.refl _) ?_; simp; done) | exact Weak.to3 (by intro i; simp only [lk]; (repeat' split) <;> first | rfl | omega) (by simp)
  refine AnyW.all1 ?_ ?_
  · refine AnyW.one (o := r19o 6) r19e6 rfl fun K hK => ?_
    simp [r19d6, r19p6, r19g6, and_assoc, eG_take, eI_take, eG_append, eG_one, eI_append, eI_one]
    first | refine hK _ ?_ | refine ⟨by omega, hK _ ?_⟩ | refine ⟨by omega, by omega, hK _ ?_⟩
    refine AnyW.weak ?_ (r19h00110110000000 ps k own fs gs a hg hf Q hQ)
    first | (refine Weak.to2 (Eq.refl _) ?_; simp; done) | exact Weak.to3 (by intro i; simp only [lk]; (repeat' split) <;> first | rfl | omega) (by simp)
  refine AnyW.all1 ?_ ?_
  · refine AnyW.one (o := r19o 7) r19e7 rfl fun K hK => ?_
    simp [r19d7, r19p7, r19g7, and_assoc, eG_take, eI_take, eG_append, eG_one, eI_append, eI_one]
    first | refine hK _ ?_ | refine ⟨by omega, hK _ ?_⟩ | refine ⟨by omega, by omega, hK _ ?_⟩
    refine AnyW.weak ?_ (r19h00110101000000 ps k own fs gs a hg hf Q hQ)
    first | (refine Weak.to2 (Eq.refl _) ?_; simp; done) | exact Weak.to3 (by intro i; simp only [lk]; (repeat' split) <;> first | rfl | omega) (by simp)
  exact AnyW.all0
theorem r19h00110001000000 (ps : List (List D)) (k : Nat) (own fs : List Int) (gs : List (List Int)) (a : Int) (hg : gs.length ≤ 2000000) (hf : fs.length ≤ 2000000) (Q : Exit → St → Prop)
    (hQ : ∀ s', Weak s' ⟨62, [(0, .d (.sl 9 ps)), (2, .pt 2 0), (4, .pt 4 0), (5, aI k), (7, .d (.sl 1 (eI own))), (8, aI a)], [(58, .arr 1 (eI (fs ++ [a]))), (53, .arr 1 (eG (gs ++ [own]))), (4, .var [.ms 53 1 0 (gs.length + 1), .ms 58 1 0 (fs.length + 1)]), (2, .var [aNil, aNil])]⟩ → Q .normal s') : AnyW Try.prog r19ops [false, false, true, true, false, false, false, true, false, false, false, false, false, false] ⟨62, [(0, .d (.sl 9 ps)), (2, .pt 2 0), (4, .pt 4 0), (5, aI k), (7, .d (.sl 1 (eI own))), (8, aI a), (52, .ms 52 1 0 1), (56, aI a)], [(52, .arr 1 (eG [own])), (58, .arr 1 (eI fs)), (53, .arr 1 (eG gs)), (4, .var [.ms 53 1 0 gs.length, .ms 58 1 0 fs.length]), (2, .var [aNil, aNil])]⟩ Q := by
  refine AnyW.step ttOK etOK [0, 5, 8] (by decide +kernel) rfl rfl ?_
  refine AnyW.all1 ?_ ?_
  · refine AnyW.one (o := r19o 0) r19e0 rfl fun K hK => ?_
    simp [r19d0, r19p0, r19g0, and_assoc, eG_take, eI_take, eG_append, eG_one, eI_append, eI_one]
    first | refine hK _ ?_ | refine ⟨by omega, hK _ ?_⟩ | refine ⟨by omega, by omega, hK _ ?_⟩
    refine AnyW.weak ?_ (r19h10110001000000 ps k own fs gs a hg hf Q hQ)
    first | (refine Weak.to2 (Eq.refl _) ?_; simp; done) | exact Weak.to3 (by intro i; simp only [lk]; (repeat' split) <;> first | rfl | omega) (by simp)
  refine AnyW.all1 ?_ ?_
  · refine AnyW.one (o := r19o 5) r19e5 rfl fun K hK => ?_
    simp [r19d5, r19p5, r19g5, and_assoc, eG_take, eI_take, eG_append, eG_one, eI_append, eI_one]
    first | refine hK _ ?_ | refine ⟨by omega, hK _ ?_⟩ | refine ⟨by omega, by omega, hK _ ?_⟩
    refine AnyW.weak ?_ (r19h00110101000000 ps k own fs gs a hg hf Q hQ)
    first | (refine Weak.to2 (Eq.refl _) ?_; simp; done) | exact Weak.to3 (by intro i; simp only [lk]; (repeat' split) <;> first | rfl | omega) (by simp)
  refine AnyW.all1 ?_ ?_
  · refine AnyW.one (o := r19o 8) r19e8 rfl fun K hK => ?_
    simp [r19d8, r19p8, r19g8, and_assoc, eG_take, eI_take, eG_append, eG_one, eI_append, eI_one]
    first | refine hK _ ?_ | refine ⟨by omega, hK _ ?_⟩ | refine ⟨by omega, by omega, hK _ ?_⟩
    refine AnyW.weak ?_ (r19h00110001100000 ps k own fs gs a hg hf Q hQ)
    first | (refine Weak.to2 (Eq.refl _) ?_; simp; done) | exact Weak.to3 (by intro i; simp only [lk]; (repeat' split) <;> first | rfl | omega) (by simp)
  exact AnyW.all0
theorem r19h00100110000000 (ps : List (List D)) (k : Nat) (own fs : List Int) (gs : List (List Int)) (a : Int) (hg : gs.length ≤ 2000000) (hf : fs.length ≤ 2000000) (Q : Exit → St → Prop)
    (hQ : ∀ s', Weak s' ⟨62, [(0, .d (.sl 9 ps)), (2, .pt 2 0), (4, .pt 4 0), (5, aI k), (7, .d (.sl 1 (eI own))), (8, aI a)], [(58, .arr 1 (eI (fs ++ [a]))), (53, .arr 1 (eG (gs ++ [own]))), (4, .var [.ms 53 1 0 (gs.length + 1), .ms 58 1 0 (fs.length + 1)]), (2, .var [aNil, aNil])]⟩ → Q .normal s') : AnyW Try.prog r19ops [false, false, true, false, false, true, true, false, false, false, false, false, false, false] ⟨62, [(0, .d (.sl 9 ps)), (2, .pt 2 0), (4, .pt 4 0), (5, aI k), (7, .d (.sl 1 (eI own))), (8, aI a), (51, .d (.sl 1 (eI own))), (54, .pt 4 1), (55, .ms 58 1 0 fs.length)], [(58, .arr 1 (eI fs)), (53, .arr 1 (eG gs)), (4, .var [.ms 53 1 0 gs.length, .ms 58 1 0 fs.length]), (2, .var [aNil, aNil])]⟩ Q := by
  refine AnyW.step ttOK etOK [0, 3, 7] (by decide +kernel) rfl rfl ?_
  refine AnyW.all1 ?_ ?_
  · refine AnyW.one (o := r19o 0) r19e0 rfl fun K hK => ?_
    simp [r19d0, r19p0, r19g0, and_assoc, eG_take, eI_take, eG_append, eG_one, eI_append, eI_one]
    first | refine hK _ ?_ | refine ⟨by omega, hK _ ?_⟩ | refine ⟨by omega, by omega, hK _ ?_⟩
    refine AnyW.weak ?_ (r19h10100110000000 ps k own fs gs a hg hf Q hQ)
    first | (refine Weak.to2 (Eq.refl _) ?_; simp; done) | exact Weak.to3 (by intro i; simp only [lk]; (repeat' split) <;> first | rfl | omega) (by simp)
  refine AnyW.all1 ?_ ?_
  · refine AnyW.one (o := r19o 3) r19e3 rfl fun K hK => ?_
    simp [r19d3, r19p3, r19g3, and_assoc, eG_take, eI_take, eG_append, eG_one, eI_append, eI_one]
    first | refine hK _ ?_ | refine ⟨by omega, hK _ ?_⟩ | refine ⟨by omega, by omega, hK _ ?_⟩
    refine AnyW.weak ?_ (r19h00110110000000 ps k own fs gs a hg hf Q hQ)
    first | (refine Weak.to2 (Eq.refl _) ?_; simp; done) | exact Weak.to3 (by intro i; simp only [lk]; (repeat' split) <;> first | rfl | omega) (by simp)
  refine AnyW.all1 ?_ ?_
  · refine AnyW.one (o := r19o 7) r19e7 rfl fun K hK => ?_
    simp [r19d7, r19p7, r19g7, and_assoc, eG_take, eI_take, eG_append, eG_one, eI_append, eI_one]
    first | refine hK _ ?_ | refine ⟨by omega, hK _ ?_⟩ | refine ⟨by omega, by omega, hK _ ?_⟩
    refine AnyW.weak ?_ (r19h00100111000000 ps k own fs gs a hg hf Q hQ)
    first | (refine Weak.to2 (Eq.refl _) ?_; simp; done) | exact Weak.to3 (by intro i; simp only [lk]; (repeat' split) <;> first | rfl | omega) (by simp)
  exact AnyW.all0
theorem r19h00100101000000 (ps : List (List D)) (k : Nat) (own fs : List Int) (gs : List (List Int)) (a : Int) (hg : gs.length ≤ 2000000) (hf : fs.length ≤ 2000000) (Q : Exit → St → Prop)
    (hQ : ∀ s', Weak s' ⟨62, [(0, .d (.sl 9 ps)), (2, .pt 2 0), (4, .pt 4 0), (5, aI k), (7, .d (.sl 1 (eI own))), (8, aI a)], [(58, .arr 1 (eI (fs ++ [a]))), (53, .arr 1 (eG (gs ++ [own]))), (4, .var [.ms 53 1 0 (gs.length + 1), .ms 58 1 0 (fs.length + 1)]), (2, .var [aNil, aNil])]⟩ → Q .normal s') : AnyW Try.prog r19ops [false, false, true, false, false, true, false, true, false, false, false, false, false, false] ⟨62, [(0, .d (.sl 9 ps)), (2, .pt 2 0), (4, .pt 4 0), (5, aI k), (7, .d (.sl 1 (eI own))), (8, aI a), (51, .d (.sl 1 (eI own))), (54, .pt 4 1), (56, aI a)], [(58, .arr 1 (eI fs)), (53, .arr 1 (eG gs)), (4, .var [.ms 53 1 0 gs.length, .ms 58 1 0 fs.length]), (2, .var [aNil, aNil])]⟩ Q := by
  refine AnyW.step ttOK etOK [0, 3, 6, 8] (by decide +kernel) rfl rfl ?_
  refine AnyW.all1 ?_ ?_
  · refine AnyW.one (o := r19o 0) r19e0 rfl fun K hK => ?_
    simp [r19d0, r19p0, r19g0, and_assoc, eG_take, eI_take, eG_append, eG_one, eI_append, eI_one]
    first | refine hK _ ?_ | refine ⟨by omega, hK _ ?_⟩ | refine ⟨by omega, by omega, hK _ ?_⟩
    refine AnyW.weak ?_ (r19h10100101000000 ps k own fs gs a hg hf Q hQ)
    first | (refine Weak.to2 (Eq.refl _) ?_; simp; done) | exact Weak.to3 (by intro i; simp only [lk]; (repeat' split) <;> first | rfl | omega) (by simp)
  refine AnyW.all1 ?_ ?_
  · refine AnyW.one (o := r19o 3) r19e3 rfl fun K hK => ?_
    simp [r19d3, r19p3, r19g3, and_assoc, eG_take, eI_take, eG_append, eG_one, eI_append, eI_one]
    first | refine hK _ ?_ | refine ⟨by omega, hK _ ?_⟩ | refine ⟨by omega, by omega, hK _ ?_⟩
    refine AnyW.weak ?_ (r19h00110101000000 ps k own fs gs a hg hf Q hQ)
    first | (refine Weak.to2 (Eq.refl _) ?_; simp; done) | exact Weak.to3 (by intro i; simp only [lk]; (repeat' split) <;> first | rfl | omega) (by simp)
  refine AnyW.all1 ?_ ?_
  · refine AnyW.one (o := r19o 6) r19e6 rfl fun K hK => ?_
    simp [r19d6, r19p6, r19g6, and_assoc, eG_take, eI_take, eG_append, eG_one, eI_append, eI_one]
    first | refine hK _ ?_ | refine ⟨by omega, hK _ ?_⟩ | refine ⟨by omega, by omega, hK _ ?_⟩
    refine AnyW.weak ?_ (r19h00100111000000 ps k own fs gs a hg hf Q hQ)
    first | (refine Weak.to2 (Eq.refl _) ?_; simp; done) | exact Weak.to3 (by intro i; simp only [lk]; (repeat' split) <;> first | rfl | omega) (by simp)
  refine AnyW.all1 ?_ ?_
  · refine AnyW.one (o := r19o 8) r19e8 rfl fun K hK => ?_
    simp [r19d8, r19p8, r19g8, and_assoc, eG_take, eI_take, eG_append, eG_one, eI_append, eI_one]
    first | refine hK _ ?_ | refine ⟨by omega, hK _ ?_⟩ | refine ⟨by omega, by omega, hK _ ?_⟩
    refine AnyW.weak ?_ (r19h00100101100000 ps k own fs gs a hg hf Q hQ)
    first | (refine Weak.to2 (Eq.refl _) ?_; simp; done) | exact Weak.to3 (by intro i; simp only [lk]; (repeat' split) <;> first | rfl | omega) (by simp)
  exact AnyW.all0
theorem r19h00100001100000 (ps : List (List D)) (k : Nat) (own fs : List Int) (gs : List (List Int)) (a : Int) (hg : gs.length ≤ 2000000) (hf : fs.length ≤ 2000000) (Q : Exit → St → Prop)
    (hQ : ∀ s', Weak s' ⟨62, [(0, .d (.sl 9 ps)), (2, .pt 2 0), (4, .pt 4 0), (5, aI k), (7, .d (.sl 1 (eI own))), (8, aI a)], [(58, .arr 1 (eI (fs ++ [a]))), (53, .arr 1 (eG (gs ++ [own]))), (4, .var [.ms 53 1 0 (gs.length + 1), .ms 58 1 0 (fs.length + 1)]), (2, .var [aNil, aNil])]⟩ → Q .normal s') : AnyW Try.prog r19ops [false, false, true, false, false, false, false, true, true, false, false, false, false, false] ⟨62, [(0, .d (.sl 9 ps)), (2, .pt 2 0), (4, .pt 4 0), (5, aI k), (7, .d (.sl 1 (eI own))), (8, aI a), (51, .d (.sl 1 (eI own))), (57, .ms 57 1 0 1)], [(57, .arr 1 (eI [a])), (58, .arr 1 (eI fs)), (53, .arr 1 (eG gs)), (4, .var [.ms 53 1 0 gs.length, .ms 58 1 0 fs.length]), (2, .var [aNil, aNil])]⟩ Q := by
  refine AnyW.step ttOK etOK [0, 3, 5] (by decide +kernel) rfl rfl ?_
  refine AnyW.all1 ?_ ?_
  · refine AnyW.one (o := r19o 0) r19e0 rfl fun K hK => ?_
    simp [r19d0, r19p0, r19g0, and_assoc, eG_take, eI_take, eG_append, eG_one, eI_append, eI_one]
    first | refine hK _ ?_ | refine ⟨by omega, hK _ ?_⟩ | refine ⟨by omega, by omega, hK _ ?_⟩
    refine AnyW.weak ?_ (r19h10100001100000 ps k own fs gs a hg hf Q hQ)
    first | (refine Weak.to2 (Eq.refl _) ?_; simp; done) | exact Weak.to3 (by intro i; simp only [lk]; (repeat' split) <;> first | rfl | omega) (by simp)
  refine AnyW.all1 ?_ ?_
  · refine AnyW.one (o := r19o 3) r19e3 rfl fun K hK => ?_
    simp [r19d3, r19p3, r19g3, and_assoc, eG_take, eI_take, eG_append, eG_one, eI_append, eI_one]
    first | refine hK _ ?_ | refine ⟨by omega, hK _ ?_⟩ | refine ⟨by omega, by omega, hK _ ?_⟩
    refine AnyW.weak ?_ (r19h00110001100000 ps k own fs gs a hg hf Q hQ)
    first | (refine Weak.to2 (Eq.refl _) ?_; simp; done) | exact Weak.to3 (by intro i; simp only [lk]; (repeat' split) <;> first | rfl | omega) (by simp)
  refine AnyW.all1 ?_ ?_
  · refine AnyW.one (o := r19o 5) r19e5 rfl fun K hK => ?_
    simp [r19d5, r19p5, r19g5, and_assoc, eG_take, eI_take, eG_append, eG_one, eI_append, eI_one]
    first | refine hK _ ?_ | refine ⟨by omega, hK _ ?_⟩ | refine ⟨by omega, by omega, hK _ ?_⟩
    refine AnyW.weak ?_ (r19h00100101100000 ps k own fs gs a hg hf Q hQ)
    first | (refine Weak.to2 (Eq.refl _) ?_; simp; done) | exact Weak.to3 (by intro i; simp only [lk]; (repeat' split) <;> first | rfl | omega) (by simp)
  exact AnyW.all0
theorem r19h00000111000000 (ps : List (List D)) (k : Nat) (own fs : List Int) (gs : List (List Int)) (a : Int) (hg : gs.length ≤ 2000000) (hf : fs.length ≤ 2000000) (Q : Exit → St → Prop)
    (hQ : ∀ s', Weak s' ⟨62, [(0, .d (.sl 9 ps)), (2, .pt 2 0), (4, .pt 4 0), (5, aI k), (7, .d (.sl 1 (eI own))), (8, aI a)], [(58, .arr 1 (eI (fs ++ [a]))), (53, .arr 1 (eG (gs ++ [own]))), (4, .var [.ms 53 1 0 (gs.length + 1), .ms 58 1 0 (fs.length + 1)]), (2, .var [aNil, aNil])]⟩ → Q .normal s') : AnyW Try.prog r19ops [false, false, false, false, false, true, true, true, false, false, false, false, false, false] ⟨62, [(0, .d (.sl 9 ps)), (2, .pt 2 0), (4, .pt 4 0), (5, aI k), (7, .d (.sl 1 (eI own))), (8, aI a), (54, .pt 4 1), (55, .ms 58 1 0 fs.length), (56, aI a)], [(58, .arr 1 (eI fs)), (53, .arr 1 (eG gs)), (4, .var [.ms 53 1 0 gs.length, .ms 58 1 0 fs.length]), (2, .var [aNil, aNil])]⟩ Q := by
  refine AnyW.step ttOK etOK [0, 2, 8] (by decide +kernel) rfl rfl ?_
  refine AnyW.all1 ?_ ?_
  · refine AnyW.one (o := r19o 0) r19e0 rfl fun K hK => ?_
    simp [r19d0, r19p0, r19g0, and_assoc, eG_take, eI_take, eG_append, eG_one, eI_append, eI_one]
    first | refine hK _ ?_ | refine ⟨by omega, hK _ ?_⟩ | refine ⟨by omega, by omega, hK _ ?_⟩
    refine AnyW.weak ?_ (r19h10000111000000 ps k own fs gs a hg hf Q hQ)
    first | (refine Weak.to2 (Eq.refl _) ?_; simp; done) | exact Weak.to3 (by intro i; simp only [lk]; (repeat' split) <;> first | rfl | omega) (by simp)
  refine AnyW.all1 ?_ ?_
  · refine AnyW.one (o := r19o 2) r19e2 rfl fun K hK => ?_
    simp [r19d2, r19p2, r19g2, and_assoc, eG_take, eI_take, eG_append, eG_one, eI_append, eI_one]
    first | refine hK _ ?_ | refine ⟨by omega, hK _ ?_⟩ | refine ⟨by omega, by omega, hK _ ?_⟩
    refine AnyW.weak ?_ (r19h00100111000000 ps k own fs gs a hg hf Q hQ)
    first | (refine Weak.to2 (Eq.refl _) ?_; simp; done) | exact Weak.to3 (by intro i; simp only [lk]; (repeat' split) <;> first | rfl | omega) (by simp)
  refine AnyW.all1 ?_ ?_
  · refine AnyW.one (o := r19o 8) r19e8 rfl fun K hK => ?_
    simp [r19d8, r19p8, r19g8, and_assoc, eG_take, eI_take, eG_append, eG_one, eI_append, eI_one]
    first | refine hK _ ?_ | refine ⟨by omega, hK _ ?_⟩ | refine ⟨by omega, by omega, hK _ ?_⟩
    refine AnyW.weak ?_ (r19h00000111100000 ps k own fs gs a hg hf Q hQ)
    first | (refine Weak.to2 (Eq.refl _) ?_; simp; done) | exact Weak.to3 (by intro i; simp only [lk]; (repeat' split) <;> first | rfl | omega) (by simp)
  exact AnyW.all0
theorem r19h00000101100000 (ps : List (List D)) (k : Nat) (own fs : List Int) (gs : List (List Int)) (a : Int) (hg : gs.length ≤ 2000000) (hf : fs.length ≤ 2000000) (Q : Exit → St → Prop)
    (hQ : ∀ s', Weak s' ⟨62, [(0, .d (.sl 9 ps)), (2, .pt 2 0), (4, .pt 4 0), (5, aI k), (7, .d (.sl 1 (eI own))), (8, aI a)], [(58, .arr 1 (eI (fs ++ [a]))), (53, .arr 1 (eG (gs ++ [own]))), (4, .var [.ms 53 1 0 (gs.length + 1), .ms 58 1 0 (fs.length + 1)]), (2, .var [aNil, aNil])]⟩ → Q .normal s') : AnyW Try.prog r19ops [false, false, false, false, false, true, false, true, true, false, false, false, false, false] ⟨62, [(0, .d (.sl 9 ps)), (2, .pt 2 0), (4, .pt 4 0), (5, aI k), (7, .d (.sl 1 (eI own))), (8, aI a), (54, .pt 4 1), (57, .ms 57 1 0 1)], [(57, .arr 1 (eI [a])), (58, .arr 1 (eI fs)), (53, .arr 1 (eG gs)), (4, .var [.ms 53 1 0 gs.length, .ms 58 1 0 fs.length]), (2, .var [aNil, aNil])]⟩ Q := by
  refine AnyW.step ttOK etOK [0, 2, 6] (by decide +kernel) rfl rfl ?_
  refine AnyW.all1 ?_ ?_
  · refine AnyW.one (o := r19o 0) r19e0 rfl fun K hK => ?_
    simp [r19d0, r19p0, r19g0, and_assoc, eG_take, eI_take, eG_append, eG_one, eI_append, eI_one]
    first | refine hK _ ?_ | refine ⟨by omega, hK _ ?_⟩ | refine ⟨by omega, by omega, hK _ ?_⟩
    refine AnyW.weak ?_ (r19h10000101100000 ps k own fs gs a hg hf Q hQ)
    first | (refine Weak.to2 (Eq.refl _) ?_; simp; done) | exact Weak.to3 (by intro i; simp only [lk]; (repeat' split) <;> first | rfl | omega) (by simp)
  refine AnyW.all1 ?_ ?_
  · refine AnyW.one (o := r19o 2) r19e2 rfl fun K hK => ?_
    simp [r19d2, r19p2, r19g2, and_assoc, eG_take, eI_take, eG_append, eG_one, eI_append, eI_one]
    first | refine hK _ ?_ | refine ⟨by omega, hK _ ?_⟩ | refine ⟨by omega, by omega, hK _ ?_⟩
    refine AnyW.weak ?_ (r19h00100101100000 ps k own fs gs a hg hf Q hQ)
    first | (refine Weak.to2 (Eq.refl _) ?_; simp; done) | exact Weak.to3 (by intro i; simp only [lk]; (repeat' split) <;> first | rfl | omega) (by simp)
  refine AnyW.all1 ?_ ?_
  · refine AnyW.one (o := r19o 6) r19e6 rfl fun K hK => ?_
    simp [r19d6, r19p6, r19g6, and_assoc, eG_take, eI_take, eG_append, eG_one, eI_append, eI_one]
    first | refine hK _ ?_ | refine ⟨by omega, hK _ ?_⟩ | refine ⟨by omega, by omega, hK _ ?_⟩
    refine AnyW.weak ?_ (r19h00000111100000 ps k own fs gs a hg hf Q hQ)
    first | (refine Weak.to2 (Eq.refl _) ?_; simp; done) | exact Weak.to3 (by intro i; simp only [lk]; (repeat' split) <;> first | rfl | omega) (by simp)
  exact AnyW.all0
theorem r19h11000000000000 (ps : List (List D)) (k : Nat) (own fs : List Int) (gs : List (List Int)) (a : Int) (hg : gs.length ≤ 2000000) (hf : fs.length ≤ 2000000) (Q : Exit → St → Prop)
    (hQ : ∀ s', Weak s' ⟨62, [(0, .d (.sl 9 ps)), (2, .pt 2 0), (4, .pt 4 0), (5, aI k), (7, .d (.sl 1 (eI own))), (8, aI a)], [(58, .arr 1 (eI (fs ++ [a]))), (53, .arr 1 (eG (gs ++ [own]))), (4, .var [.ms 53 1 0 (gs.length + 1), .ms 58 1 0 (fs.length + 1)]), (2, .var [aNil, aNil])]⟩ → Q .normal s') : AnyW Try.prog r19ops [true, true, false, false, false, false, false, false, false, false, false, false, false, false] ⟨62, [(0, .d (.sl 9 ps)), (2, .pt 2 0), (4, .pt 4 0), (5, aI k), (7, .d (.sl 1 (eI own))), (8, aI a), (49, .pt 4 0), (50, .ms 53 1 0 gs.length)], [(58, .arr 1 (eI fs)), (53, .arr 1 (eG gs)), (4, .var [.ms 53 1 0 gs.length, .ms 58 1 0 fs.length]), (2, .var [aNil, aNil])]⟩ Q := by
  refine AnyW.step ttOK etOK [2, 5, 7] (by decide +kernel) rfl rfl ?_
  refine AnyW.all1 ?_ ?_
  · refine AnyW.one (o := r19o 2) r19e2 rfl fun K hK => ?_
    simp [r19d2, r19p2, r19g2, and_assoc, eG_take, eI_take, eG_append, eG_one, eI_append, eI_one]
    first | refine hK _ ?_ | refine ⟨by omega, hK _ ?_⟩ | refine ⟨by omega, by omega, hK _ ?_⟩
    refine AnyW.weak ?_ (r19h11100000000000 ps k own fs gs a hg hf Q hQ)
    first | (refine Weak.to2 (Eq.refl _) ?_; simp; done) | exact Weak.to3 (by intro i; simp only [lk]; (repeat' split) <;> first | rfl | omega) (by simp)
  refine AnyW.all1 ?_ ?_
  · refine AnyW.one (o := r19o 5) r19e5 rfl fun K hK => ?_
    simp [r19d5, r19p5, r19g5, and_assoc, eG_take, eI_take, eG_append, eG_one, eI_append, eI_one]
    first | refine hK _ ?_ | refine ⟨by omega, hK _ ?_⟩ | refine ⟨by omega, by omega, hK _ ?_⟩
    refine AnyW.weak ?_ (r19h11000100000000 ps k own fs gs a hg hf Q hQ)
    first | (refine Weak.to2 (Eq.refl _) ?_; simp; done) | exact Weak.to3 (by intro i; simp only [lk]; (repeat' split) <;> first | rfl | omega) (by simp)
  refine AnyW.all1 ?_ ?_
  · refine AnyW.one (o := r19o 7) r19e7 rfl fun K hK => ?_
    simp [r19d7, r19p7, r19g7, and_assoc, eG_take, eI_take, eG_append, eG_one, eI_append, eI_one]
    first | refine hK _ ?_ | refine ⟨by omega, hK _ ?_⟩ | refine ⟨by omega, by omega, hK _ ?_⟩
    refine AnyW.weak ?_ (r19h11000001000000 ps k own fs gs a hg hf Q hQ)
    first | (refine Weak.to2 (Eq.refl _) ?_; simp; done) | exact Weak.to3 (by intro i; simp only [lk]; (repeat' split) <;> first | rfl | omega) (by simp)
  exact AnyW.all0
theorem r19h10100000000000 (ps : List (List D)) (k : Nat) (own fs : List Int) (gs : List (List Int)) (a : Int) (hg : gs.length ≤ 2000000) (hf : fs.length ≤ 2000000) (Q : Exit → St → Prop)
    (hQ : ∀ s', Weak s' ⟨62, [(0, .d (.sl 9 ps)), (2, .pt 2 0), (4, .pt 4 0), (5, aI k), (7, .d (.sl 1 (eI own))), (8, aI a)], [(58, .arr 1 (eI (fs ++ [a]))), (53, .arr 1 (eG (gs ++ [own]))), (4, .var [.ms 53 1 0 (gs.length + 1), .ms 58 1 0 (fs.length + 1)]), (2, .var [aNil, aNil])]⟩ → Q .normal s') : AnyW Try.prog r19ops [true, false, true, false, false, false, false, false, false, false, false, false, false, false] ⟨62, [(0, .d (.sl 9 ps)), (2, .pt 2 0), (4, .pt 4 0), (5, aI k), (7, .d (.sl 1 (eI own))), (8, aI a), (49, .pt 4 0), (51, .d (.sl 1 (eI own)))], [(58, .arr 1 (eI fs)), (53, .arr 1 (eG gs)), (4, .var [.ms 53 1 0 gs.length, .ms 58 1 0 fs.length]), (2, .var [aNil, aNil])]⟩ Q := by
  refine AnyW.step ttOK etOK [1, 3, 5, 7] (by decide +kernel) rfl rfl ?_
  refine AnyW.all1 ?_ ?_
  · refine AnyW.one (o := r19o 1) r19e1 rfl fun K hK => ?_
    simp [r19d1, r19p1, r19g1, and_assoc, eG_take, eI_take, eG_append, eG_one, eI_append, eI_one]
    first | refine hK _ ?_ | refine ⟨by omega, hK _ ?_⟩ | refine ⟨by omega, by omega, hK _ ?_⟩
    refine AnyW.weak ?_ (r19h11100000000000 ps k own fs gs a hg hf Q hQ)
    first | (refine Weak.to2 (Eq.refl _) ?_; simp; done) | exact Weak.to3 (by intro i; simp only [lk]; (repeat' split) <;> first | rfl | omega) (by simp)
  refine AnyW.all1 ?_ ?_
  · refine AnyW.one (o := r19o 3) r19e3 rfl fun K hK => ?_
    simp [r19d3, r19p3, r19g3, and_assoc, eG_take, eI_take, eG_append, eG_one, eI_append, eI_one]
    first | refine hK _ ?_ | refine ⟨by omega, hK _ ?_⟩ | refine ⟨by omega, by omega, hK _ ?_⟩
    refine AnyW.weak ?_ (r19h10110000000000 ps k own fs gs a hg hf Q hQ)
    first | (refine Weak.to2 (Eq.refl _) ?_; simp; done) | exact Weak.to3 (by intro i; simp only [lk]; (repeat' split) <;> first | rfl | omega) (by simp)
  refine AnyW.all1 ?_ ?_
  · refine AnyW.one (o := r19o 5) r19e5 rfl fun K hK => ?_
    simp [r19d5, r19p5, r19g5, and_assoc, eG_take, eI_take, eG_append, eG_one, eI_append, eI_one]
    first | refine hK _ ?_ | refine ⟨by omega, hK _ ?_⟩ | refine ⟨by omega, by omega, hK _ ?_⟩
    refine AnyW.weak ?_ (r19h10100100000000 ps k own fs gs a hg hf Q hQ)
    first | (refine Weak.to2 (Eq.refl _) ?_; simp; done) | exact Weak.to3 (by intro i; simp only [lk]; (repeat' split) <;> first | rfl | omega) (by simp)
  refine AnyW.all1 ?_ ?_
  · refine AnyW.one (o := r19o 7) r19e7 rfl fun K hK => ?_
    simp [r19d7, r19p7, r19g7, and_assoc, eG_take, eI_take, eG_append, eG_one, eI_append, eI_one]
    first | refine hK _ ?_ | refine ⟨by omega, hK _ ?_⟩ | refine ⟨by omega, by omega, hK _ ?_⟩
    refine AnyW.weak ?_ (r19h10100001000000 ps k own fs gs a hg hf Q hQ)
    first | (refine Weak.to2 (Eq.refl _) ?_; simp; done) | exact Weak.to3 (by intro i; simp only [lk]; (repeat' split) <;> first | rfl | omega) (by simp)
  exact AnyW.all0
theorem r19h10000100000000 (ps : List (List D)) (k : Nat) (own fs : List Int) (gs : List (List Int)) (a : Int) (hg : gs.length ≤ 2000000) (hf : fs.length ≤ 2000000) (Q : Exit → St → Prop)
    (hQ : ∀ s', Weak s' ⟨62, [(0, .d (.sl 9 ps)), (2, .pt 2 0), (4, .pt 4 0), (5, aI k), (7, .d (.sl 1 (eI own))), (8, aI a)], [(58, .arr 1 (eI (fs ++ [a]))), (53, .arr 1 (eG (gs ++ [own]))), (4, .var [.ms 53 1 0 (gs.length + 1), .ms 58 1 0 (fs.length + 1)]), (2, .var [aNil, aNil])]⟩ → Q .normal s') : AnyW Try.prog r19ops [true, false, false, false, false, true, false, false, false, false, false, false, false, false] ⟨62, [(0, .d (.sl 9 ps)), (2, .pt 2 0), (4, .pt 4 0), (5, aI k), (7, .d (.sl 1 (eI own))), (8, aI a), (49, .pt 4 0), (54, .pt 4 1)], [(58, .arr 1 (eI fs)), (53, .arr 1 (eG gs)), (4, .var [.ms 53 1 0 gs.length, .ms 58 1 0 fs.length]), (2, .var [aNil, aNil])]⟩ Q := by
  refine AnyW.step ttOK etOK [1, 2, 6, 7] (by decide +kernel) rfl rfl ?_
  refine AnyW.all1 ?_ ?_
  · refine AnyW.one (o := r19o 1) r19e1 rfl fun K hK => ?_
    simp [r19d1, r19p1, r19g1, and_assoc, eG_take, eI_take, eG_append, eG_one, eI_append, eI_one]
    first | refine hK _ ?_ | refine ⟨by omega, hK _ ?_⟩ | refine ⟨by omega, by omega, hK _ ?_⟩
    refine AnyW.weak ?_ (r19h11000100000000 ps k own fs gs a hg hf Q hQ)
    first | (refine Weak.to2 (Eq.refl _) ?_; simp; done) | exact Weak.to3 (by intro i; simp only [lk]; (repeat' split) <;> first | rfl | omega) (by simp)
  refine AnyW.all1 ?_ ?_
  · refine AnyW.one (o := r19o 2) r19e2 rfl fun K hK => ?_
    simp [r19d2, r19p2, r19g2, and_assoc, eG_take, eI_take, eG_append, eG_one, eI_append, eI_one]
    first | refine hK _ ?_ | refine ⟨by omega, hK _ ?_⟩ | refine ⟨by omega, by omega, hK _ ?_⟩
    refine AnyW.weak ?_ (r19h10100100000000 ps k own fs gs a hg hf Q hQ)
    first | (refine Weak.to2 (Eq.refl _) ?_; simp; done) | exact Weak.to3 (by intro i; simp only [lk]; (repeat' split) <;> first | rfl | omega) (by simp)
  refine AnyW.all1 ?_ ?_
  · refine AnyW.one (o := r19o 6) r19e6 rfl fun K hK => ?_
    simp [r19d6, r19p6, r19g6, and_assoc, eG_take, eI_take, eG_append, eG_one, eI_append, eI_one]
    first | refine hK _ ?_ | refine ⟨by omega, hK _ ?_⟩ | refine ⟨by omega, by omega, hK _ ?_⟩
    refine AnyW.weak ?_ (r19h10000110000000 ps k own fs gs a hg hf Q hQ)
    first | (refine Weak.to2 (Eq.refl _) ?_; simp; done) | exact Weak.to3 (by intro i; simp only [lk]; (repeat' split) <;> first | rfl | omega) (by simp)
  refine AnyW.all1 ?_ ?_
  · refine AnyW.one (o := r19o 7) r19e7 rfl fun K hK => ?_
    simp [r19d7, r19p7, r19g7, and_assoc, eG_take, eI_take, eG_append, eG_one, eI_append, eI_one]
    first | refine hK _ ?_ | refine ⟨by omega, hK _ ?_⟩ | refine ⟨by omega, by omega, hK _ ?_⟩
    refine AnyW.weak ?_ (r19h10000101000000 ps k own fs gs a hg hf Q hQ)
    first | (refine Weak.to2 (Eq.refl _) ?_; simp; done) | exact Weak.to3 (by intro i; simp only [lk]; (repeat' split) <;> first | rfl | omega) (by simp)
  exact AnyW.all0
theorem r19h10000001000000 (ps : List (List D)) (k : Nat) (own fs : List Int) (gs : List (List Int)) (a : Int) (hg : gs.length ≤ 2000000) (hf : fs.length ≤ 2000000) (Q : Exit → St → Prop)
    (hQ : ∀ s', Weak s' ⟨62, [(0, .d (.sl 9 ps)), (2, .pt 2 0), (4, .pt 4 0), (5, aI k), (7, .d (.sl 1 (eI own))), (8, aI a)], [(58, .arr 1 (eI (fs ++ [a]))), (53, .arr 1 (eG (gs ++ [own]))), (4, .var [.ms 53 1 0 (gs.length + 1), .ms 58 1 0 (fs.length + 1)]), (2, .var [aNil, aNil])]⟩ → Q .normal s') : AnyW Try.prog r19ops [true, false, false, false, false, false, false, true, false, false, false, false, false, false] ⟨62, [(0, .d (.sl 9 ps)), (2, .pt 2 0), (4, .pt 4 0), (5, aI k), (7, .d (.sl 1 (eI own))), (8, aI a), (49, .pt 4 0), (56, aI a)], [(58, .arr 1 (eI fs)), (53, .arr 1 (eG gs)), (4, .var [.ms 53 1 0 gs.length, .ms 58 1 0 fs.length]), (2, .var [aNil, aNil])]⟩ Q := by
  refine AnyW.step ttOK etOK [1, 2, 5, 8] (by decide +kernel) rfl rfl ?_
  refine AnyW.all1 ?_ ?_
  · refine AnyW.one (o := r19o 1) r19e1 rfl fun K hK => ?_
    simp [r19d1, r19p1, r19g1, and_assoc, eG_take, eI_take, eG_append, eG_one, eI_append, eI_one]
    first | refine hK _ ?_ | refine ⟨by omega, hK _ ?_⟩ | refine ⟨by omega, by omega, hK _ ?_⟩
    refine AnyW.weak ?_ (r19h11000001000000 ps k own fs gs a hg hf Q hQ)
    first | (refine Weak.to2 (Eq.refl _) ?_; simp; done) | exact Weak.to3 (by intro i; simp only [lk]; (repeat' split) <;> first | rfl | omega) (by simp)
  refine AnyW.all1 ?_ ?_
  · refine AnyW.one (o := r19o 2) r19e2 rfl fun K hK => ?_
    simp [r19d2, r19p2, r19g2, and_assoc, eG_take, eI_take, eG_append, eG_one, eI_append, eI_one]
    first | refine hK _ ?_ | refine ⟨by omega, hK _ ?_⟩ | refine ⟨by omega, by omega, hK _ ?_⟩
    refine AnyW.weak ?_ (r19h10100001000000 ps k own fs gs a hg hf Q hQ)
    first | (refine Weak.to2 (Eq.refl _) ?_; simp; done) | exact Weak.to3 (by intro i; simp only [lk]; (repeat' split) <;> first | rfl | omega) (by simp)
  refine AnyW.all1 ?_ ?_
  · refine AnyW.one (o := r19o 5) r19e5 rfl fun K hK => ?_
    simp [r19d5, r19p5, r19g5, and_assoc, eG_take, eI_take, eG_append, eG_one, eI_append, eI_one]
    first | refine hK _ ?_ | refine ⟨by omega, hK _ ?_⟩ | refine ⟨by omega, by omega, hK _ ?_⟩
    refine AnyW.weak ?_ (r19h10000101000000 ps k own fs gs a hg hf Q hQ)
    first | (refine Weak.to2 (Eq.refl _) ?_; simp; done) | exact Weak.to3 (by intro i; simp only [lk]; (repeat' split) <;> first | rfl | omega) (by simp)
  refine AnyW.all1 ?_ ?_
  · refine AnyW.one (o := r19o 8) r19e8 rfl fun K hK => ?_
    simp [r19d8, r19p8, r19g8, and_assoc, eG_take, eI_take, eG_append, eG_one, eI_append, eI_one]
    first | refine hK _ ?_ | refine ⟨by omega, hK _ ?_⟩ | refine ⟨by omega, by omega, hK _ ?_⟩
    refine AnyW.weak ?_ (r19h10000001100000 ps k own fs gs a hg hf Q hQ)
    first | (refine Weak.to2 (Eq.refl _) ?_; simp; done) | exact Weak.to3 (by intro i; simp only [lk]; (repeat' split) <;> first | rfl | omega) (by simp)
  exact AnyW.all0
theorem r19h00110000000000 (ps : List (List D)) (k : Nat) (own fs : List Int) (gs : List (List Int)) (a : Int) (hg : gs.length ≤ 2000000) (hf : fs.length ≤ 2000000) (Q : Exit → St → Prop)
    (hQ : ∀ s', Weak s' ⟨62, [(0, .d (.sl 9 ps)), (2, .pt 2 0), (4, .pt 4 0), (5, aI k), (7, .d (.sl 1 (eI own))), (8, aI a)], [(58, .arr 1 (eI (fs ++ [a]))), (53, .arr 1 (eG (gs ++ [own]))), (4, .var [.ms 53 1 0 (gs.length + 1), .ms 58 1 0 (fs.length + 1)]), (2, .var [aNil, aNil])]⟩ → Q .normal s') : AnyW Try.prog r19ops [false, false, true, true, false, false, false, false, false, false, false, false, false, false] ⟨62, [(0, .d (.sl 9 ps)), (2, .pt 2 0), (4, .pt 4 0), (5, aI k), (7, .d (.sl 1 (eI own))), (8, aI a), (52, .ms 52 1 0 1)], [(52, .arr 1 (eG [own])), (58, .arr 1 (eI fs)), (53, .arr 1 (eG gs)), (4, .var [.ms 53 1 0 gs.length, .ms 58 1 0 fs.length]), (2, .var [aNil, aNil])]⟩ Q := by
  refine AnyW.step ttOK etOK [0, 5, 7] (by decide +kernel) rfl rfl ?_
  refine AnyW.all1 ?_ ?_
  · refine AnyW.one (o := r19o 0) r19e0 rfl fun K hK => ?_
    simp [r19d0, r19p0, r19g0, and_assoc, eG_take, eI_take, eG_append, eG_one, eI_append, eI_one]
    first | refine hK _ ?_ | refine ⟨by omega, hK _ ?_⟩ | refine ⟨by omega, by omega, hK _ ?_⟩
    refine AnyW.weak ?_ (r19h10110000000000 ps k own fs gs a hg hf Q hQ)
    first | (refine Weak.to2 (Eq.refl _) ?_; simp; done) | exact Weak.to3 (by intro i; simp only [lk]; (repeat' split) <;> first | rfl | omega) (by simp)
  refine AnyW.all1 ?_ ?_
  · refine AnyW.one (o := r19o 5) r19e5 rfl fun K hK => ?_
    simp [r19d5, r19p5, r19g5, and_assoc, eG_take, eI_take, eG_append, eG_one, eI_append, eI_one]
    first | refine hK _ ?_ | refine ⟨by omega, hK _ ?_⟩ | refine ⟨by omega, by omega, hK _ ?_⟩
    refine AnyW.weak ?_ (r19h00110100000000 ps k own fs gs a hg hf Q hQ)
    first | (refine Weak.to2 (Eq.refl _) ?_; simp; done) | exact Weak.to3 (by intro i; simp only [lk]; (repeat' split) <;> first | rfl | omega) (by simp)
  refine AnyW.all1 ?_ ?_
  · refine AnyW.one (o := r19o 7) r19e7 rfl fun K hK => ?_
    simp [r19d7, r19p7, r19g7, and_assoc, eG_take, eI_take, eG_append, eG_one, eI_append, eI_one]
    first | refine hK _ ?_ | refine ⟨by omega, hK _ ?_⟩ | refine ⟨by omega, by omega, hK _ ?_⟩
    refine AnyW.weak ?_ (r19h00110001000000 ps k own fs gs a hg hf Q hQ)
    first | (refine Weak.to2 (Eq.refl _) ?_; simp; done) | exact Weak.to3 (by intro i; simp only [lk]; (repeat' split) <;> first | rfl | omega) (by simp)
  exact AnyW.all0
theorem r19h00100100000000 (ps : List (List D)) (k : Nat) (own fs : List Int) (gs : List (List Int)) (a : Int) (hg : gs.length ≤ 2000000) (hf : fs.length ≤ 2000000) (Q : Exit → St → Prop)
    (hQ : ∀ s', Weak s' ⟨62, [(0, .d (.sl 9 ps)), (2, .pt 2 0), (4, .pt 4 0), (5, aI k), (7, .d (.sl 1 (eI own))), (8, aI a)], [(58, .arr 1 (eI (fs ++ [a]))), (53, .arr 1 (eG (gs ++ [own]))), (4, .var [.ms 53 1 0 (gs.length + 1), .ms 58 1 0 (fs.length + 1)]), (2, .var [aNil, aNil])]⟩ → Q .normal s') : AnyW Try.prog r19ops [false, false, true, false, false, true, false, false, false, false, false, false, false, false] ⟨62, [(0, .d (.sl 9 ps)), (2, .pt 2 0), (4, .pt 4 0), (5, aI k), (7, .d (.sl 1 (eI own))), (8, aI a), (51, .d (.sl 1 (eI own))), (54, .pt 4 1)], [(58, .arr 1 (eI fs)), (53, .arr 1 (eG gs)), (4, .var [.ms 53 1 0 gs.length, .ms 58 1 0 fs.length]), (2, .var [aNil, aNil])]⟩ Q := by
  refine AnyW.step ttOK etOK [0, 3, 6, 7] (by decide +kernel) rfl rfl ?_
  refine AnyW.all1 ?_ ?_
  · refine AnyW.one (o := r19o 0) r19e0 rfl fun K hK => ?_
    simp [r19d0, r19p0, r19g0, and_assoc, eG_take, eI_take, eG_append, eG_one, eI_append, eI_one]
    first | refine hK _ ?_ | refine ⟨by omega, hK _ ?_⟩ | refine ⟨by omega, by omega, hK _ ?_⟩
    refine AnyW.weak ?_ (r19h10100100000000 ps k own fs gs a hg hf Q hQ)
    first | (refine Weak.to2 (Eq.refl _) ?_; simp; done) | exact Weak.to3 (by intro i; simp only [lk]; (repeat' split) <;> first | rfl | omega) (by simp)
  refine AnyW.all1 ?_ ?_
  · refine AnyW.one (o := r19o 3) r19e3 rfl fun K hK => ?_
    simp [r19d3, r19p3, r19g3, and_assoc, eG_take, eI_take, eG_append, eG_one, eI_append, eI_one]
    first | refine hK _ ?_ | refine ⟨by omega, hK _ ?_⟩ | refine ⟨by omega, by omega, hK _ ?_⟩
    refine AnyW.weak ?_ (r19h00110100000000 ps k own fs gs a hg hf Q hQ)
    first | (refine Weak.to2 (Eq.refl _) ?_; simp; done) | exact Weak.to3 (by intro i; simp only [lk]; (repeat' split) <;> first | rfl | omega) (by simp)
  refine AnyW.all1 ?_ ?_
  · refine AnyW.one (o := r19o 6) r19e6 rfl fun K hK => ?_
    simp [r19d6, r19p6, r19g6, and_assoc, eG_take, eI_take, eG_append, eG_one, eI_append, eI_one]
    first | refine hK _ ?_ | refine ⟨by omega, hK _ ?_⟩ | refine ⟨by omega, by omega, hK _ ?_⟩
    refine AnyW.weak ?_ (r19h00100110000000 ps k own fs gs a hg hf Q hQ)
    first | (refine Weak.to2 (Eq.refl _) ?_; simp; done) | exact Weak.to3 (by intro i; simp only [lk]; (repeat' split) <;> first | rfl | omega) (by simp)
  refine AnyW.all1 ?_ ?_
  · refine AnyW.one (o := r19o 7) r19e7 rfl fun K hK => ?_
    simp [r19d7, r19p7, r19g7, and_assoc, eG_take, eI_take, eG_append, eG_one, eI_append, eI_one]
    first | refine hK _ ?_ | refine ⟨by omega, hK _ ?_⟩ | refine ⟨by omega, by omega, hK _ ?_⟩
    refine AnyW.weak ?_ (r19h00100101000000 ps k own fs gs a hg hf Q hQ)
    first | (refine Weak.to2 (Eq.refl _) ?_; simp; done) | exact Weak.to3 (by intro i; simp only [lk]; (repeat' split) <;> first | rfl | omega) (by simp)
  exact AnyW.all0
theorem r19h00100001000000 (ps : List (List D)) (k : Nat) (own fs : List Int) (gs : List (List Int)) (a : Int) (hg : gs.length ≤ 2000000) (hf : fs.length ≤ 2000000) (Q : Exit → St → Prop)
    (hQ : ∀ s', Weak s' ⟨62, [(0, .d (.sl 9 ps)), (2, .pt 2 0), (4, .pt 4 0), (5, aI k), (7, .d (.sl 1 (eI own))), (8, aI a)], [(58, .arr 1 (eI (fs ++ [a]))), (53, .arr 1 (eG (gs ++ [own]))), (4, .var [.ms 53 1 0 (gs.length + 1), .ms 58 1 0 (fs.length + 1)]), (2, .var [aNil, aNil])]⟩ → Q .normal s') : AnyW Try.prog r19ops [false, false, true, false, false, false, false, true, false, false, false, false, false, false] ⟨62, [(0, .d (.sl 9 ps)), (2, .pt 2 0), (4, .pt 4 0), (5, aI k), (7, .d (.sl 1 (eI own))), (8, aI a), (51, .d (.sl 1 (eI own))), (56, aI a)], [(58, .arr 1 (eI fs)), (53, .arr 1 (eG gs)), (4, .var [.ms 53 1 0 gs.length, .ms 58 1 0 fs.length]), (2, .var [aNil, aNil])]⟩ Q := by
  refine AnyW.step ttOK etOK [0, 3, 5, 8] (by decide +kernel) rfl rfl ?_
  refine AnyW.all1 ?_ ?_
  · refine AnyW.one (o := r19o 0) r19e0 rfl fun K hK => ?_
    simp [r19d0, r19p0, r19g0, and_assoc, eG_take, eI_take, eG_append, eG_one, eI_append, eI_one]
    first | refine hK _ ?_ | refine ⟨by omega, hK _ ?_⟩ | refine ⟨by omega, by omega, hK _ ?_⟩
    refine AnyW.weak ?_ (r19h10100001000000 ps k own fs gs a hg hf Q hQ)
    first | (refine Weak.to2 (Eq.refl _) ?_; simp; done) | exact Weak.to3 (by intro i; simp only [lk]; (repeat' split) <;> first | rfl | omega) (by simp)
  refine AnyW.all1 ?_ ?_
  · refine AnyW.one (o := r19o 3) r19e3 rfl fun K hK => ?_
    simp [r19d3, r19p3, r19g3, and_assoc, eG_take, eI_take, eG_append, eG_one, eI_append, eI_one]
    first | refine hK _ ?_ | refine ⟨by omega, hK _ ?_⟩ | refine ⟨by omega, by omega, hK _ ?_⟩
    refine AnyW.weak ?_ (r19h00110001000000 ps k own fs gs a hg hf Q hQ)
    first | (refine Weak.to2 (Eq.refl _) ?_; simp; done) | exact Weak.to3 (by intro i; simp only [lk]; (repeat' split) <;> first | rfl | omega) (by simp)
  refine AnyW.all1 ?_ ?_
  · refine AnyW.one (o := r19o 5) r19e5 rfl fun K hK => ?_
    simp [r19d5, r19p5, r19g5, and_assoc, eG_take, eI_take, eG_append, eG_one, eI_append, eI_one]
    first | refine hK _ ?_ | refine ⟨by omega, hK _ ?_⟩ | refine ⟨by omega, by omega, hK _ ?_⟩
    refine AnyW.weak ?_ (r19h00100101000000 ps k own fs gs a hg hf Q hQ)
    first | (refine Weak.to2 (Eq.refl _) ?_; simp; done) | exact Weak.to3 (by intro i; simp only [lk]; (repeat' split) <;> first | rfl | omega) (by simp)
  refine AnyW.all1 ?_ ?_
  · refine AnyW.one (o := r19o 8) r19e8 rfl fun K hK => ?_
    simp [r19d8, r19p8, r19g8, and_assoc, eG_take, eI_take, eG_append, eG_one, eI_append, eI_one]
    first | refine hK _ ?_ | refine ⟨by omega, hK _ ?_⟩ | refine ⟨by omega, by omega, hK _ ?_⟩
    refine AnyW.weak ?_ (r19h00100001100000 ps k own fs gs a hg hf Q hQ)
    first | (refine Weak.to2 (Eq.refl _) ?_; simp; done) | exact Weak.to3 (by intro i; simp only [lk]; (repeat' split) <;> first | rfl | omega) (by simp)
  exact AnyW.all0
theorem r19h00000110000000 (ps : List (List D)) (k : Nat) (own fs : List Int) (gs : List (List Int)) (a : Int) (hg : gs.length ≤ 2000000) (hf : fs.length ≤ 2000000) (Q : Exit → St → Prop)
    (hQ : ∀ s', Weak s' ⟨62, [(0, .d (.sl 9 ps)), (2, .pt 2 0), (4, .pt 4 0), (5, aI k), (7, .d (.sl 1 (eI own))), (8, aI a)], [(58, .arr 1 (eI (fs ++ [a]))), (53, .arr 1 (eG (gs ++ [own]))), (4, .var [.ms 53 1 0 (gs.length + 1), .ms 58 1 0 (fs.length + 1)]), (2, .var [aNil, aNil])]⟩ → Q .normal s') : AnyW Try.prog r19ops [false, false, false, false, false, true, true, false, false, false, false, false, false, false] ⟨62, [(0, .d (.sl 9 ps)), (2, .pt 2 0), (4, .pt 4 0), (5, aI k), (7, .d (.sl 1 (eI own))), (8, aI a), (54, .pt 4 1), (55, .ms 58 1 0 fs.length)], [(58, .arr 1 (eI fs)), (53, .arr 1 (eG gs)), (4, .var [.ms 53 1 0 gs.length, .ms 58 1 0 fs.length]), (2, .var [aNil, aNil])]⟩ Q := by
  refine AnyW.step ttOK etOK [0, 2, 7] (by decide +kernel) rfl rfl ?_
  refine AnyW.all1 ?_ ?_
  · refine AnyW.one (o := r19o 0) r19e0 rfl fun K hK => ?_
    simp [r19d0, r19p0, r19g0, and_assoc, eG_take, eI_take, eG_append, eG_one, eI_append, eI_one]
    first | refine hK _ ?_ | refine ⟨by omega, hK _ ?_⟩ | refine ⟨by omega, by omega, hK _ ?_⟩
    refine AnyW.weak ?_ (r19h10000110000000 ps k own fs gs a hg hf Q hQ)
    first | (refine Weak.to2 (Eq.refl _) ?_; simp; done) | exact Weak.to3 (by intro i; simp only [lk]; (repeat' split) <;> first | rfl | omega) (by simp)
  refine AnyW.all1 ?_ ?_
  · refine AnyW.one (o := r19o 2) r19e2 rfl fun K hK => ?_
    simp [r19d2, r19p2, r19g2, and_assoc, eG_take, eI_take, eG_append, eG_one, eI_append, eI_one]
    first | refine hK _ ?_ | refine ⟨by omega, hK _ ?_⟩ | refine ⟨by omega, by omega, hK _ ?_⟩
    refine AnyW.weak ?_ (r19h00100110000000 ps k own fs gs a hg hf Q hQ)
    first | (refine Weak.to2 (Eq.refl _) ?_; simp; done) | exact Weak.to3 (by intro i; simp only [lk]; (repeat' split) <;> first | rfl | omega) (by simp)
  refine AnyW.all1 ?_ ?_
  · refine AnyW.one (o := r19o 7) r19e7 rfl fun K hK => ?_
    simp [r19d7, r19p7, r19g7, and_assoc, eG_take, eI_take, eG_append, eG_one, eI_append, eI_one]
    first | refine hK _ ?_ | refine ⟨by omega, hK _ ?_⟩ | refine ⟨by omega, by omega, hK _ ?_⟩
    refine AnyW.weak ?_ (r19h00000111000000 ps k own fs gs a hg hf Q hQ)
    first | (refine Weak.to2 (Eq.refl _) ?_; simp; done) | exact Weak.to3 (by intro i; simp only [lk]; (repeat' split) <;> first | rfl | omega) (by simp)
  exact AnyW.all0
theorem r19h00000101000000 (ps : List (List D)) (k : Nat) (own fs : List Int) (gs : List (List Int)) (a : Int) (hg : gs.length ≤ 2000000) (hf : fs.length ≤ 2000000) (Q : Exit → St → Prop)
    (hQ : ∀ s', Weak s' ⟨62, [(0, .d (.sl 9 ps)), (2, .pt 2 0), (4, .pt 4 0), (5, aI k), (7, .d (.sl 1 (eI own))), (8, aI a)], [(58, .arr 1 (eI (fs ++ [a]))), (53, .arr 1 (eG (gs ++ [own]))), (4, .var [.ms 53 1 0 (gs.length + 1), .ms 58 1 0 (fs.length + 1)]), (2, .var [aNil, aNil])]⟩ → Q .normal s') : AnyW Try.prog r19ops [false, false, false, false, false, true, false, true, false, false, false, false, false, false] ⟨62, [(0, .d (.sl 9 ps)), (2, .pt 2 0), (4, .pt 4 0), (5, aI k), (7, .d (.sl 1 (eI own))), (8, aI a), (54, .pt 4 1), (56, aI a)], [(58, .arr 1 (eI fs)), (53, .arr 1 (eG gs)), (4, .var [.ms 53 1 0 gs.length, .ms 58 1 0 fs.length]), (2, .var [aNil, aNil])]⟩ Q := by
  refine AnyW.step ttOK etOK [0, 2, 6, 8] (by decide +kernel) rfl rfl ?_
  refine AnyW.all1 ?_ ?_
  · refine AnyW.one (o := r19o 0) r19e0 rfl fun K hK => ?_
    simp [r19d0, r19p0, r19g0, and_assoc, eG_take, eI_take, eG_append, eG_one, eI_append, eI_one]
    first | refine hK _ ?_ | refine ⟨by omega, hK _ ?_⟩ | refine ⟨by omega, by omega, hK _ ?_⟩
    refine AnyW.weak ?_ (r19h10000101000000 ps k own fs gs a hg hf Q hQ)
    first | (refine Weak.to2 (Eq.refl _) ?_; simp; done) | exact Weak.to3 (by intro i; simp only [lk]; (repeat' split) <;> first | rfl | omega) (by simp)
  refine AnyW.all1 ?_ ?_
  · refine AnyW.one (o := r19o 2) r19e2 rfl fun K hK => ?_
    simp [r19d2, r19p2, r19g2, and_assoc, eG_take, eI_take, eG_append, eG_one, eI_append, eI_one]
    first | refine hK _ ?_ | refine ⟨by omega, hK _ ?_⟩ | refine ⟨by omega, by omega, hK _ ?_⟩
    refine AnyW.weak ?_ (r19h00100101000000 ps k own fs gs a hg hf Q hQ)
    first | (refine Weak.to2 (Eq.refl _) ?_; simp; done) | exact Weak.to3 (by intro i; simp only [lk]; (repeat' split) <;> first | rfl | omega) (by simp)
  refine AnyW.all1 ?_ ?_
  · refine AnyW.one (o := r19o 6) r19e6 rfl fun K hK => ?_
    simp [r19d6, r19p6, r19g6, and_assoc, eG_take, eI_take, eG_append, eG_one, eI_append, eI_one]
    first | refine hK _ ?_ | refine ⟨by omega, hK _ ?_⟩ | refine ⟨by omega, by omega, hK _ ?_⟩
    refine AnyW.weak ?_ (r19h00000111000000 ps k own fs gs a hg hf Q hQ)
    first | (refine Weak.to2 (Eq.refl _) ?_; simp; done) | exact Weak.to3 (by intro i; simp only [lk]; (repeat' split) <;> first | rfl | omega) (by simp)
  refine AnyW.all1 ?_ ?_
  · refine AnyW.one (o := r19o 8) r19e8 rfl fun K hK => ?_
    simp [r19d8, r19p8, r19g8, and_assoc, eG_take, eI_take, eG_append, eG_one, eI_append, eI_one]
    first | refine hK _ ?_ | refine ⟨by omega, hK _ ?_⟩ | refine ⟨by omega, by omega, hK _ ?_⟩
    refine AnyW.weak ?_ (r19h00000101100000 ps k own fs gs a hg hf Q hQ)
    first | (refine Weak.to2 (Eq.refl _) ?_; simp; done) | exact Weak.to3 (by intro i; simp only [lk]; (repeat' split) <;> first | rfl | omega) (by simp)
  exact AnyW.all0
theorem r19h00000001100000 (ps : List (List D)) (k : Nat) (own fs : List Int) (gs : List (List Int)) (a : Int) (hg : gs.length ≤ 2000000) (hf : fs.length ≤ 2000000) (Q : Exit → St → Prop)
    (hQ : ∀ s', Weak s' ⟨62, [(0, .d (.sl 9 ps)), (2, .pt 2 0), (4, .pt 4 0), (5, aI k), (7, .d (.sl 1 (eI own))), (8, aI a)], [(58, .arr 1 (eI (fs ++ [a]))), (53, .arr 1 (eG (gs ++ [own]))), (4, .var [.ms 53 1 0 (gs.length + 1), .ms 58 1 0 (fs.length + 1)]), (2, .var [aNil, aNil])]⟩ → Q .normal s') : AnyW Try.prog r19ops [false, false, false, false, false, false, false, true, true, false, false, false, false, false] ⟨62, [(0, .d (.sl 9 ps)), (2, .pt 2 0), (4, .pt 4 0), (5, aI k), (7, .d (.sl 1 (eI own))), (8, aI a), (57, .ms 57 1 0 1)], [(57, .arr 1 (eI [a])), (58, .arr 1 (eI fs)), (53, .arr 1 (eG gs)), (4, .var [.ms 53 1 0 gs.length, .ms 58 1 0 fs.length]), (2, .var [aNil, aNil])]⟩ Q := by
  refine AnyW.step ttOK etOK [0, 2, 5] (by decide +kernel) rfl rfl ?_
  refine AnyW.all1 ?_ ?_
  · refine AnyW.one (o := r19o 0) r19e0 rfl fun K hK => ?_
    simp [r19d0, r19p0, r19g0, and_assoc, eG_take, eI_take, eG_append, eG_one, eI_append, eI_one]
    first | refine hK _ ?_ | refine ⟨by omega, hK _ ?_⟩ | refine ⟨by omega, by omega, hK _ ?_⟩
    refine AnyW.weak ?_ (r19h10000001100000 ps k own fs gs a hg hf Q hQ)
    first | (refine Weak.to2 (Eq.refl _) ?_; simp; done) | exact Weak.to3 (by intro i; simp only [lk]; (repeat' split) <;> first | rfl | omega) (by simp)
  refine AnyW.all1 ?_ ?_
  · refine AnyW.one (o := r19o 2) r19e2 rfl fun K hK => ?_
    simp [r19d2, r19p2, r19g2, and_assoc, eG_take, eI_take, eG_append, eG_one, eI_append, eI_one]
    first | refine hK _ ?_ | refine ⟨by omega, hK _ ?_⟩ | refine ⟨by omega, by omega, hK _ ?_⟩
    refine AnyW.weak ?_ (r19h00100001100000 ps k own fs gs a hg hf Q hQ)
    first | (refine Weak.to2 (Eq.refl _) ?_; simp; done) | exact Weak.to3 (by intro i; simp only [lk]; (repeat' split) <;> first | rfl | omega) (by simp)
  refine AnyW.all1 ?_ ?_
  · refine AnyW.one (o := r19o 5) r19e5 rfl fun K hK => ?_
    simp [r19d5, r19p5, r19g5, and_assoc, eG_take, eI_take, eG_append, eG_one, eI_append, eI_one]
    first | refine hK _ ?_ | refine ⟨by omega, hK _ ?_⟩ | refine ⟨by omega, by omega, hK _ ?_⟩
    refine AnyW.weak ?_ (r19h00000101100000 ps k own fs gs a hg hf Q hQ)
    first | (refine Weak.to2 (Eq.refl _) ?_; simp; done) | exact Weak.to3 (by intro i; simp only [lk]; (repeat' split) <;> first | rfl | omega) (by simp)
  exact AnyW.all0
theorem r19h10000000000000 (ps : List (List D)) (k : Nat) (own fs : List Int) (gs : List (List Int)) (a : Int) (hg : gs.length ≤ 2000000) (hf : fs.length ≤ 2000000) (Q : Exit → St → Prop)
    (hQ : ∀ s', Weak s' ⟨62, [(0, .d (.sl 9 ps)), (2, .pt 2 0), (4, .pt 4 0), (5, aI k), (7, .d (.sl 1 (eI own))), (8, aI a)], [(58, .arr 1 (eI (fs ++ [a]))), (53, .arr 1 (eG (gs ++ [own]))), (4, .var [.ms 53 1 0 (gs.length + 1), .ms 58 1 0 (fs.length + 1)]), (2, .var [aNil, aNil])]⟩ → Q .normal s') : AnyW Try.prog r19ops [true, false, false, false, false, false, false, false, false, false, false, false, false, false] ⟨62, [(0, .d (.sl 9 ps)), (2, .pt 2 0), (4, .pt 4 0), (5, aI k), (7, .d (.sl 1 (eI own))), (8, aI a), (49, .pt 4 0)], [(58, .arr 1 (eI fs)), (53, .arr 1 (eG gs)), (4, .var [.ms 53 1 0 gs.length, .ms 58 1 0 fs.length]), (2, .var [aNil, aNil])]⟩ Q := by
  refine AnyW.step ttOK etOK [1, 2, 5, 7] (by decide +kernel) rfl rfl ?_
  refine AnyW.all1 ?_ ?_
  · refine AnyW.one (o := r19o 1) r19e1 rfl fun K hK => ?_
    simp [r19d1, r19p1, r19g1, and_assoc, eG_take, eI_take, eG_append, eG_one, eI_append, eI_one]
    first | refine hK _ ?_ | refine ⟨by omega, hK _ ?_⟩ | refine ⟨by omega, by omega, hK _ ?_⟩
    refine AnyW.weak ?_ (r19h11000000000000 ps k own fs gs a hg hf Q hQ)
    first | (refine Weak.to2 (Eq.refl _) ?_; simp; done) | exact Weak.to3 (by intro i; simp only [lk]; (repeat' split) <;> first | rfl | omega) (by simp)
  refine AnyW.all1 ?_ ?_
  · refine AnyW.one (o := r19o 2) r19e2 rfl fun K hK => ?_
    simp [r19d2, r19p2, r19g2, and_assoc, eG_take, eI_take, eG_append, eG_one, eI_append, eI_one]
    first | refine hK _ ?_ | refine ⟨by omega, hK _ ?_⟩ | refine ⟨by omega, by omega, hK _ ?_⟩
    refine AnyW.weak ?_ (r19h10100000000000 ps k own fs gs a hg hf Q hQ)
    first | (refine Weak.to2 (Eq.refl _) ?_; simp; done) | exact Weak.to3 (by intro i; simp only [lk]; (repeat' split) <;> first | rfl | omega) (by simp)
  refine AnyW.all1 ?_ ?_
  · refine AnyW.one (o := r19o 5) r19e5 rfl fun K hK => ?_
    simp [r19d5, r19p5, r19g5, and_assoc, eG_take, eI_take, eG_append, eG_one, eI_append, eI_one]
    first | refine hK _ ?_ | refine ⟨by omega, hK _ ?_⟩ | refine ⟨by omega, by omega, hK _ ?_⟩
    refine AnyW.weak ?_ (r19h10000100000000 ps k own fs gs a hg hf Q hQ)
    first | (refine Weak.to2 (Eq.refl _) ?_; simp; done) | exact Weak.to3 (by intro i; simp only [lk]; (repeat' split) <;> first | rfl | omega) (by simp)
  refine AnyW.all1 ?_ ?_
  · refine AnyW.one (o := r19o 7) r19e7 rfl fun K hK => ?_
    simp [r19d7, r19p7, r19g7, and_assoc, eG_take, eI_take, eG_append, eG_one, eI_append, eI_one]
    first | refine hK _ ?_ | refine ⟨by omega, hK _ ?_⟩ | refine ⟨by omega, by omega, hK _ ?_⟩
    refine AnyW.weak ?_ (r19h10000001000000 ps k own fs gs a hg hf Q hQ)
    first | (refine Weak.to2 (Eq.refl _) ?_; simp; done) | exact Weak.to3 (by intro i; simp only [lk]; (repeat' split) <;> first | rfl | omega) (by simp)
  exact AnyW.all0
theorem r19h00100000000000 (ps : List (List D)) (k : Nat) (own fs : List Int) (gs : List (List Int)) (a : Int) (hg : gs.length ≤ 2000000) (hf : fs.length ≤ 2000000) (Q : Exit → St → Prop)
    (hQ : ∀ s', Weak s' ⟨62, [(0, .d (.sl 9 ps)), (2, .pt 2 0), (4, .pt 4 0), (5, aI k), (7, .d (.sl 1 (eI own))), (8, aI a)], [(58, .arr 1 (eI (fs ++ [a]))), (53, .arr 1 (eG (gs ++ [own]))), (4, .var [.ms 53 1 0 (gs.length + 1), .ms 58 1 0 (fs.length + 1)]), (2, .var [aNil, aNil])]⟩ → Q .normal s') : AnyW Try.prog r19ops [false, false, true, false, false, false, false, false, false, false, false, false, false, false] ⟨62, [(0, .d (.sl 9 ps)), (2, .pt 2 0), (4, .pt 4 0), (5, aI k), (7, .d (.sl 1 (eI own))), (8, aI a), (51, .d (.sl 1 (eI own)))], [(58, .arr 1 (eI fs)), (53, .arr 1 (eG gs)), (4, .var [.ms 53 1 0 gs.length, .ms 58 1 0 fs.length]), (2, .var [aNil, aNil])]⟩ Q := by
  refine AnyW.step ttOK etOK [0, 3, 5, 7] (by decide +kernel) rfl rfl ?_
  refine AnyW.all1 ?_ ?_
  · refine AnyW.one (o := r19o 0) r19e0 rfl fun K hK => ?_
    simp [r19d0, r19p0, r19g0, and_assoc, eG_take, eI_take, eG_append, eG_one, eI_append, eI_one]
    first | refine hK _ ?_ | refine ⟨by omega, hK _ ?_⟩ | refine ⟨by omega, by omega, hK _ ?_⟩
    refine AnyW.weak ?_ (r19h10100000000000 ps k own fs gs a hg hf Q hQ)
    first | (refine Weak.to2 (Eq.refl _) ?_; simp; done) | exact Weak.to3 (by intro i; simp only [lk]; (repeat' split) <;> first | rfl | omega) (by simp)
  refine AnyW.all1 ?_ ?_
  · refine AnyW.one (o := r19o 3) r19e3 rfl fun K hK => ?_
    simp [r19d3, r19p3, r19g3, and_assoc, eG_take, eI_take, eG_append, eG_one, eI_append, eI_one]
    first | refine hK _ ?_ | refine ⟨by omega, hK _ ?_⟩ | refine ⟨by omega, by omega, hK _ ?_⟩
    refine AnyW.weak ?_ (r19h00110000000000 ps k own fs gs a hg hf Q hQ)
    first | (refine Weak.to2 (Eq.refl _) ?_; simp; done) | exact Weak.to3 (by intro i; simp only [lk]; (repeat' split) <;> first | rfl | omega) (by simp)
  refine AnyW.all1 ?_ ?_
  · refine AnyW.one (o := r19o 5) r19e5 rfl fun K hK => ?_
    simp [r19d5, r19p5, r19g5, and_assoc, eG_take, eI_take, eG_append, eG_one, eI_append, eI_one]
    first | refine hK _ ?_ | refine ⟨by omega, hK _ ?_⟩ | refine ⟨by omega, by omega, hK _ ?_⟩
    refine AnyW.weak ?_ (r19h00100100000000 ps k own fs gs a hg hf Q hQ)
    first | (refine Weak.to2 (Eq.refl _) ?_; simp; done) | exact Weak.to3 (by intro i; simp only [lk]; (repeat' split) <;> first | rfl | omega) (by simp)
  refine AnyW.all1 ?_ ?_
  · refine AnyW.one (o := r19o 7) r19e7 rfl fun K hK => ?_
    simp [r19d7, r19p7, r19g7, and_assoc, eG_take, eI_take, eG_append, eG_one, eI_append, eI_one]
    first | refine hK _ ?_ | refine ⟨by omega, hK _ ?_⟩ | refine ⟨by omega, by omega, hK _ ?_⟩
    refine AnyW.weak ?_ (r19h00100001000000 ps k own fs gs a hg hf Q hQ)
    first | (refine Weak.to2 (Eq.refl _) ?_; simp; done) | exact Weak.to3 (by intro i; simp only [lk]; (repeat' split) <;> first | rfl | omega) (by simp)
  exact AnyW.all0
theorem r19h00000100000000 (ps : List (List D)) (k : Nat) (own fs : List Int) (gs : List (List Int)) (a : Int) (hg : gs.length ≤ 2000000) (hf : fs.length ≤ 2000000) (Q : Exit → St → Prop)
    (hQ : ∀ s', Weak s' ⟨62, [(0, .d (.sl 9 ps)), (2, .pt 2 0), (4, .pt 4 0), (5, aI k), (7, .d (.sl 1 (eI own))), (8, aI a)], [(58, .arr 1 (eI (fs ++ [a]))), (53, .arr 1 (eG (gs ++ [own]))), (4, .var [.ms 53 1 0 (gs.length + 1), .ms 58 1 0 (fs.length + 1)]), (2, .var [aNil, aNil])]⟩ → Q .normal s') : AnyW Try.prog r19ops [false, false, false, false, false, true, false, false, false, false, false, false, false, false] ⟨62, [(0, .d (.sl 9 ps)), (2, .pt 2 0), (4, .pt 4 0), (5, aI k), (7, .d (.sl 1 (eI own))), (8, aI a), (54, .pt 4 1)], [(58, .arr 1 (eI fs)), (53, .arr 1 (eG gs)), (4, .var [.ms 53 1 0 gs.length, .ms 58 1 0 fs.length]), (2, .var [aNil, aNil])]⟩ Q := by
  refine AnyW.step ttOK etOK [0, 2, 6, 7] (by decide +kernel) rfl rfl ?_
  refine AnyW.all1 ?_ ?_
  · refine AnyW.one (o := r19o 0) r19e0 rfl fun K hK => ?_
    simp [r19d0, r19p0, r19g0, and_assoc, eG_take, eI_take, eG_append, eG_one, eI_append, eI_one]
    first | refine hK _ ?_ | refine ⟨by omega, hK _ ?_⟩ | refine ⟨by omega, by omega, hK _ ?_⟩
    refine AnyW.weak ?_ (r19h10000100000000 ps k own fs gs a hg hf Q hQ)
    first | (refine Weak.to2 (Eq.refl _) ?_; simp; done) | exact Weak.to3 (by intro i; simp only [lk]; (repeat' split) <;> first | rfl | omega) (by simp)
  refine AnyW.all1 ?_ ?_
  · refine AnyW.one (o := r19o 2) r19e2 rfl fun K hK => ?_
    simp [r19d2, r19p2, r19g2, and_assoc, eG_take, eI_take, eG_append, eG_one, eI_append, eI_one]
    first | refine hK _ ?_ | refine ⟨by omega, hK _ ?_⟩ | refine ⟨by omega, by omega, hK _ ?_⟩
    refine AnyW.weak ?_ (r19h00100100000000 ps k own fs gs a hg hf Q hQ)
    first | (refine Weak.to2 (Eq.refl _) ?_; simp; done) | exact Weak.to3 (by intro i; simp only [lk]; (repeat' split) <;> first | rfl | omega) (by simp)
  refine AnyW.all1 ?_ ?_
  · refine AnyW.one (o := r19o 6) r19e6 rfl fun K hK => ?_
    simp [r19d6, r19p6, r19g6, and_assoc, eG_take, eI_take, eG_append, eG_one, eI_append, eI_one]
    first | refine hK _ ?_ | refine ⟨by omega, hK _ ?_⟩ | refine ⟨by omega, by omega, hK _ ?_⟩
    refine AnyW.weak ?_ (r19h00000110000000 ps k own fs gs a hg hf Q hQ)
    first | (refine Weak.to2 (Eq.refl _) ?_; simp; done) | exact Weak.to3 (by intro i; simp only [lk]; (repeat' split) <;> first | rfl | omega) (by simp)
  refine AnyW.all1 ?_ ?_
  · refine AnyW.one (o := r19o 7) r19e7 rfl fun K hK => ?_
    simp [r19d7, r19p7, r19g7, and_assoc, eG_take, eI_take, eG_append, eG_one, eI_append, eI_one]
    first | refine hK _ ?_ | refine ⟨by omega, hK _ ?_⟩ | refine ⟨by omega, by omega, hK _ ?_⟩
    refine AnyW.weak ?_ (r19h00000101000000 ps k own fs gs a hg hf Q hQ)
    first | (refine Weak.to2 (Eq.refl _) ?_; simp; done) | exact Weak.to3 (by intro i; simp only [lk]; (repeat' split) <;> first | rfl | omega) (by simp)
  exact AnyW.all0
theorem r19h00000001000000 (ps : List (List D)) (k : Nat) (own fs : List Int) (gs : List (List Int)) (a : Int) (hg : gs.length ≤ 2000000) (hf : fs.length ≤ 2000000) (Q : Exit → St → Prop)
    (hQ : ∀ s', Weak s' ⟨62, [(0, .d (.sl 9 ps)), (2, .pt 2 0), (4, .pt 4 0), (5, aI k), (7, .d (.sl 1 (eI own))), (8, aI a)], [(58, .arr 1 (eI (fs ++ [a]))), (53, .arr 1 (eG (gs ++ [own]))), (4, .var [.ms 53 1 0 (gs.length + 1), .ms 58 1 0 (fs.length + 1)]), (2, .var [aNil, aNil])]⟩ → Q .normal s') : AnyW Try.prog r19ops [false, false, false, false, false, false, false, true, false, false, false, false, false, false] ⟨62, [(0, .d (.sl 9 ps)), (2, .pt 2 0), (4, .pt 4 0), (5, aI k), (7, .d (.sl 1 (eI own))), (8, aI a), (56, aI a)], [(58, .arr 1 (eI fs)), (53, .arr 1 (eG gs)), (4, .var [.ms 53 1 0 gs.length, .ms 58 1 0 fs.length]), (2, .var [aNil, aNil])]⟩ Q := by
  refine AnyW.step ttOK etOK [0, 2, 5, 8] (by decide +kernel) rfl rfl ?_
  refine AnyW.all1 ?_ ?_
  · refine AnyW.one (o := r19o 0) r19e0 rfl fun K hK => ?_
    simp [r19d0, r19p0, r19g0, and_assoc, eG_take, eI_take, eG_append, eG_one, eI_append, eI_one]
    first | refine hK _ ?_ | refine ⟨by omega, hK _ ?_⟩ | refine ⟨by omega, by omega, hK _ ?_⟩
    refine AnyW.weak ?_ (r19h10000001000000 ps k own fs gs a hg hf Q hQ)
    first | (refine Weak.to2 (Eq.refl _) ?_; simp; done) | exact Weak.to3 (by intro i; simp only [lk]; (repeat' split) <;> first | rfl | omega) (by simp)
  refine AnyW.all1 ?_ ?_
  · refine AnyW.one (o := r19o 2) r19e2 rfl fun K hK => ?_
    simp [r19d2, r19p2, r19g2, and_assoc, eG_take, eI_take, eG_append, eG_one, eI_append, eI_one]
    first | refine hK _ ?_ | refine ⟨by omega, hK _ ?_⟩ | refine ⟨by omega, by omega, hK _ ?_⟩
    refine AnyW.weak ?_ (r19h00100001000000 ps k own fs gs a hg hf Q hQ)
    first | (refine Weak.to2 (Eq.refl _) ?_; simp; done) | exact Weak.to3 (by intro i; simp only [lk]; (repeat' split) <;> first | rfl | omega) (by simp)
  refine AnyW.all1 ?_ ?_
  · refine AnyW.one (o := r19o 5) r19e5 rfl fun K hK => ?_
    simp [r19d5, r19p5, r19g5, and_assoc, eG_take, eI_take, eG_append, eG_one, eI_append, eI_one]
    first | refine hK _ ?_ | refine ⟨by omega, hK _ ?_⟩ | refine ⟨by omega, by omega, hK _ ?_⟩
    refine AnyW.weak ?_ (r19h00000101000000 ps k own fs gs a hg hf Q hQ)
    first | (refine Weak.to2 (Eq.refl _) ?_; simp; done) | exact Weak.to3 (by intro i; simp only [lk]; (repeat' split) <;> first | rfl | omega) (by simp)
  refine AnyW.all1 ?_ ?_
  · refine AnyW.one (o := r19o 8) r19e8 rfl fun K hK => ?_
    simp [r19d8, r19p8, r19g8, and_assoc, eG_take, eI_take, eG_append, eG_one, eI_append, eI_one]
    first | refine hK _ ?_ | refine ⟨by omega, hK _ ?_⟩ | refine ⟨by omega, by omega, hK _ ?_⟩
    refine AnyW.weak ?_ (r19h00000001100000 ps k own fs gs a hg hf Q hQ)
    first | (refine Weak.to2 (Eq.refl _) ?_; simp; done) | exact Weak.to3 (by intro i; simp only [lk]; (repeat' split) <;> first | rfl | omega) (by simp)
  exact AnyW.all0
theorem shape_r19 (ps : List (List D)) (k : Nat) (own fs : List Int) (gs : List (List Int)) (a : Int) (hg : gs.length ≤ 2000000) (hf : fs.length ≤ 2000000) (Q : Exit → St → Prop)
    (hQ : ∀ s', Weak s' ⟨62, [(0, .d (.sl 9 ps)), (2, .pt 2 0), (4, .pt 4 0), (5, aI k), (7, .d (.sl 1 (eI own))), (8, aI a)], [(58, .arr 1 (eI (fs ++ [a]))), (53, .arr 1 (eG (gs ++ [own]))), (4, .var [.ms 53 1 0 (gs.length + 1), .ms 58 1 0 (fs.length + 1)]), (2, .var [aNil, aNil])]⟩ → Q .normal s') : AnyW Try.prog r19ops [false, false, false, false, false, false, false, false, false, false, false, false, false, false] ⟨62, [(0, .d (.sl 9 ps)), (2, .pt 2 0), (4, .pt 4 0), (5, aI k), (7, .d (.sl 1 (eI own))), (8, aI a)], [(58, .arr 1 (eI fs)), (53, .arr 1 (eG gs)), (4, .var [.ms 53 1 0 gs.length, .ms 58 1 0 fs.length]), (2, .var [aNil, aNil])]⟩ Q := by
  refine AnyW.step ttOK etOK [0, 2, 5, 7] (by decide +kernel) rfl rfl ?_
  refine AnyW.all1 ?_ ?_
  · refine AnyW.one (o := r19o 0) r19e0 rfl fun K hK => ?_
    simp [r19d0, r19p0, r19g0, and_assoc, eG_take, eI_take, eG_append, eG_one, eI_append, eI_one]
    first | refine hK _ ?_ | refine ⟨by omega, hK _ ?_⟩ | refine ⟨by omega, by omega, hK _ ?_⟩
    refine AnyW.weak ?_ (r19h10000000000000 ps k own fs gs a hg hf Q hQ)
    first | (refine Weak.to2 (Eq.refl _) ?_; simp; done) | exact Weak.to3 (by intro i; simp only [lk]; (repeat' split) <;> first | rfl | omega) (by simp)
  refine AnyW.all1 ?_ ?_
  · refine AnyW.one (o := r19o 2) r19e2 rfl fun K hK => ?_
    simp [r19d2, r19p2, r19g2, and_assoc, eG_take, eI_take, eG_append, eG_one, eI_append, eI_one]
    first | refine hK _ ?_ | refine ⟨by omega, hK _ ?_⟩ | refine ⟨by omega, by omega, hK _ ?_⟩
    refine AnyW.weak ?_ (r19h00100000000000 ps k own fs gs a hg hf Q hQ)
    first | (refine Weak.to2 (Eq.refl _) ?_; simp; done) | exact Weak.to3 (by intro i; simp only [lk]; (repeat' split) <;> first | rfl | omega) (by simp)
  refine AnyW.all1 ?_ ?_
  · refine AnyW.one (o := r19o 5) r19e5 rfl fun K hK => ?_
    simp [r19d5, r19p5, r19g5, and_assoc, eG_take, eI_take, eG_append, eG_one, eI_append, eI_one]
    first | refine hK _ ?_ | refine ⟨by omega, hK _ ?_⟩ | refine ⟨by omega, by omega, hK _ ?_⟩
    refine AnyW.weak ?_ (r19h00000100000000 ps k own fs gs a hg hf Q hQ)
    first | (refine Weak.to2 (Eq.refl _) ?_; simp; done) | exact Weak.to3 (by intro i; simp only [lk]; (repeat' split) <;> first | rfl | omega) (by simp)
  refine AnyW.all1 ?_ ?_
  · refine AnyW.one (o := r19o 7) r19e7 rfl fun K hK => ?_
    simp [r19d7, r19p7, r19g7, and_assoc, eG_take, eI_take, eG_append, eG_one, eI_append, eI_one]
    first | refine hK _ ?_ | refine ⟨by omega, hK _ ?_⟩ | refine ⟨by omega, by omega, hK _ ?_⟩
    refine AnyW.weak ?_ (r19h00000001000000 ps k own fs gs a hg hf Q hQ)
    first | (refine Weak.to2 (Eq.refl _) ?_; simp; done) | exact Weak.to3 (by intro i; simp only [lk]; (repeat' split) <;> first | rfl | omega) (by simp)
  exact AnyW.all0
end Go.Proofs.Ab.Try
