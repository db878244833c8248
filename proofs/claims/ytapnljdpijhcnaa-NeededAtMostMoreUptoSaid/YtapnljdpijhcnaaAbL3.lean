/- Proved: peristylelaw7.NeededAtMostMore returns true and leaves its arguments as they were, for every input whose bulk is at most 1048576 (the statement of the second form); no other condition. -/
import Derived.Test.YtapnljdpijhcnaaAbG33
import Derived.Test.YtapnljdpijhcnaaAbM2
import Derived.Test.YtapnljdpijhcnaaRows
import Derived.WalkKit
import Derived.ProofKit
import Derived.OpenShut
import Derived.ShutString
import Derived.ChangeOld
import Derived.Below
import Derived.Carry
import Derived.JoinedCond
namespace Go.Proofs.Ytapnljdpijhcnaa.neededAtMostMore
open Go.ChangeShapes Go.WideShapes Go.ChangeAt Go.RowKit Go.Proofs.Ab Go.Proofs.Ab.Try
open Go.ChangeMaps (open_string shut_string)
set_option linter.unusedVariables false
theorem bulkAll {H : Type} (l : List (DataW H)) : Rows.uptoBulkAll l = (l.map Rows.uptoBulk).sum := by
  induction l with
  | nil => rfl
  | cons x r ih => simp [Rows.uptoBulkAll, ih]
theorem sum_one {β : Type} (l : List β) : (l.map fun _ => 1).sum = l.length := by
  induction l with
  | nil => rfl
  | cons x r ih => simp [ih]; omega
theorem isBulk (H : Type) : IsBulk (Rows.uptoBulk (H := H)) where
  lit := fun l => by cases l <;> simp [Rows.uptoBulk]
  str := fun bs => by simp [Rows.uptoBulk]
  nil := by simp [Rows.uptoBulk]
  slice := fun el sp => by simp only [Rows.uptoBulk, bulkAll]; omega
  agg := fun ps => by simp only [Rows.uptoBulk, bulkAll]; omega
section
variable {H : Type} (enc : TypeId × Value → H) (W : World)
theorem oInt : Opens enc Try.prog W (Rows.uptoBulk (H := H)) 3 (fun _ : Int => True) (fun _ => 1) (fun n => [.v (.int .i64 n)]) :=
  opens_map (opens_int (isBulk H) Try.underlying3) id (fun _ _ => trivial) (fun _ => Nat.le_refl _) (fun _ => rfl)
theorem oBool : Opens enc Try.prog W (Rows.uptoBulk (H := H)) 4 (fun _ : Bool => True) (fun _ => 1) (fun n => [.v (.bool n)]) := opens_bool (isBulk H) Try.underlying4
theorem oStr : Opens enc Try.prog W (Rows.uptoBulk (H := H)) 9 (fun _ : ByteArray => True) zS (fun n => [.v (.string n)]) :=
  opens_map (opens_str (isBulk H) Try.underlying9) id (fun _ _ => trivial) (fun _ => Nat.le_refl _) (fun _ => rfl)
theorem oVal : Opens enc Try.prog W (Rows.uptoBulk (H := H)) 76 (fun _ : Val => True) zVal valC :=
  opens_map (opens_struct (isBulk H) Try.underlying76 (N := 3) (by kernel_rfl) (opensF_cons (oInt enc W) rfl (opensF_cons (oInt enc W) (by kernel_rfl) (opensF_cons (oStr enc W) (by kernel_rfl) (opensF_nil' (by kernel_rfl))))))
    (fun b => ⟨b.1, b.2.1, b.2.2.1⟩) (fun _ _ => trivial) (fun b => by simp only [zVal, zS]; omega) (fun _ => rfl)
theorem oNode : Opens enc Try.prog W (Rows.uptoBulk (H := H)) 78 (fun _ : Ab.Node => True) zNode nodeC :=
  opens_map (opens_struct (isBulk H) Try.underlying78 (N := 5) (by kernel_rfl) (opensF_cons (oInt enc W) rfl (opensF_cons (oInt enc W) (by kernel_rfl) (opensF_cons (oVal enc W) (by kernel_rfl) (opensF_nil' (by kernel_rfl))))))
    (fun b => ⟨b.1, b.2.1, b.2.2.1⟩) (fun _ _ => trivial) (fun b => by simp only [zNode, zVal]; omega) (fun _ => rfl)
theorem oNodes : Opens enc Try.prog W (Rows.uptoBulk (H := H)) 59 (fun _ : List Ab.Node => True) zExpr exprC :=
  opens_map (opens_slice (isBulk H) Try.underlying59 (n := 5) (by kernel_rfl) (by decide) (oNode enc W) (fun _ => rfl)) id (fun _ _ => trivial) (fun _ => Nat.le_refl _) (fun _ => rfl)
theorem oExpr : Opens enc Try.prog W (Rows.uptoBulk (H := H)) 61 (fun _ : List Ab.Node => True) zExpr exprC :=
  opens_map (opens_struct (isBulk H) Try.underlying61 (N := 1) (by kernel_rfl) (opensF_cons (oNodes enc W) rfl (opensF_nil' (by kernel_rfl)))) (fun b => b.1) (fun _ _ => trivial) (fun b => by omega) (fun _ => rfl)
theorem oKey : Opens enc Try.prog W (Rows.uptoBulk (H := H)) 68 (fun _ : Key => True) (fun _ => 1) keyC :=
  opens_map (opens_struct (isBulk H) Try.underlying68 (N := 3) (by kernel_rfl) (opensF_cons (oInt enc W) rfl (opensF_cons (oBool enc W) (by kernel_rfl) (opensF_cons (oBool enc W) (by kernel_rfl) (opensF_nil' (by kernel_rfl))))))
    (fun b => ⟨b.1, b.2.1, b.2.2.1⟩) (fun _ _ => trivial) (fun _ => by simp) (fun _ => rfl)
theorem oAgg : Opens enc Try.prog W (Rows.uptoBulk (H := H)) 66 (fun _ : Agg => True) zAgg aggC :=
  opens_map (opens_struct (isBulk H) Try.underlying66 (N := 3) (by kernel_rfl) (opensF_cons (oInt enc W) rfl (opensF_cons (oInt enc W) (by kernel_rfl) (opensF_cons (oStr enc W) (by kernel_rfl) (opensF_nil' (by kernel_rfl))))))
    (fun b => ⟨b.1, b.2.1, b.2.2.1⟩) (fun _ _ => trivial) (fun b => by simp only [zAgg, zS]; omega) (fun _ => rfl)
theorem oInts : Opens enc Try.prog W (Rows.uptoBulk (H := H)) 26 (fun _ : List Int => True) (fun l => l.length) (fun l => [.sl 1 (eI l)]) :=
  opens_map (opens_slice (isBulk H) Try.underlying26 (n := 1) (by kernel_rfl) (by decide) (oInt enc W) (fun _ => rfl)) id (fun _ _ => trivial) (fun b => by have := sum_one b; simp only [id]; omega) (fun _ => rfl)
theorem oKeys : Opens enc Try.prog W (Rows.uptoBulk (H := H)) 53 (fun _ : List Key => True) (fun l => l.length) (fun l => [.sl 3 (l.map keyC)]) :=
  opens_map (opens_slice (isBulk H) Try.underlying53 (n := 3) (by kernel_rfl) (by decide) (oKey enc W) (fun _ => rfl)) id (fun _ _ => trivial) (fun b => by have := sum_one b; simp only [id]; omega) (fun _ => rfl)
theorem oStep : Opens enc Try.prog W (Rows.uptoBulk (H := H)) 56 (fun _ : PStep => True) zStep stepC :=
  opens_map (opens_struct (isBulk H) Try.underlying56 (N := 9) (by kernel_rfl)
    (opensF_cons (oInt enc W) rfl (opensF_cons (oInt enc W) (by kernel_rfl) (opensF_cons (oInt enc W) (by kernel_rfl) (opensF_cons (oStr enc W) (by kernel_rfl)
      (opensF_cons (opens_slice (isBulk H) Try.underlying51 (n := 1) (by kernel_rfl) (by decide) (oExpr enc W) (fun _ => rfl)) (by kernel_rfl)
      (opensF_cons (opens_slice (isBulk H) Try.underlying52 (n := 1) (by kernel_rfl) (by decide) (oStr enc W) (fun _ => rfl)) (by kernel_rfl)
      (opensF_cons (oInts enc W) (by kernel_rfl)
      (opensF_cons (oKeys enc W) (by kernel_rfl)
      (opensF_cons (opens_slice (isBulk H) Try.underlying54 (n := 3) (by kernel_rfl) (by decide) (oAgg enc W) (fun _ => rfl)) (by kernel_rfl) (opensF_nil' (by kernel_rfl))))))))))))
    (fun b => ⟨b.1, b.2.1, b.2.2.1, b.2.2.2.1, b.2.2.2.2.1, b.2.2.2.2.2.1, b.2.2.2.2.2.2.1, b.2.2.2.2.2.2.2.1, b.2.2.2.2.2.2.2.2.1⟩) (fun _ _ => trivial) (fun b => by simp only [zStep, zS]; omega) (fun _ => rfl)
theorem oPlan : Opens enc Try.prog W (Rows.uptoBulk (H := H)) 25 (fun _ : List PStep => True) (fun l => (l.map zStep).sum) (fun l => [.sl 9 (l.map stepC)]) :=
  opens_map (opens_struct (isBulk H) Try.underlying25 (N := 1) (by kernel_rfl) (opensF_cons (opens_slice (isBulk H) Try.underlying23 (n := 9) (by kernel_rfl) (by decide) (oStep enc W) (fun _ => rfl)) rfl (opensF_nil' (by kernel_rfl))))
    (fun b => b.1) (fun _ _ => trivial) (fun b => by omega) (fun _ => rfl)
theorem oCol : Opens enc Try.prog W (Rows.uptoBulk (H := H)) 109 (fun _ : Col => True) zCol colC :=
  opens_map (opens_struct (isBulk H) Try.underlying109 (N := 2) (by kernel_rfl) (opensF_cons (oStr enc W) rfl (opensF_cons (oInt enc W) (by kernel_rfl) (opensF_nil' (by kernel_rfl)))))
    (fun b => ⟨b.1, b.2.1⟩) (fun _ _ => trivial) (fun b => by simp only [zCol, zS]; omega) (fun _ => rfl)
theorem oRow : Opens enc Try.prog W (Rows.uptoBulk (H := H)) 96 (fun _ : List Val => True) zRow rowC :=
  opens_map (opens_struct (isBulk H) Try.underlying96 (N := 1) (by kernel_rfl) (opensF_cons (opens_slice (isBulk H) Try.underlying94 (n := 3) (by kernel_rfl) (by decide) (oVal enc W) (fun _ => rfl)) rfl (opensF_nil' (by kernel_rfl))))
    (fun b => b.1) (fun _ _ => trivial) (fun b => by simp only [zRow]; omega) (fun _ => rfl)
theorem oTab : Opens enc Try.prog W (Rows.uptoBulk (H := H)) 81 (fun _ : Tab => True) zTab tabC :=
  opens_map (opens_struct (isBulk H) Try.underlying81 (N := 2) (by kernel_rfl) (opensF_cons (opens_slice (isBulk H) Try.underlying38 (n := 2) (by kernel_rfl) (by decide) (oCol enc W) (fun _ => rfl)) rfl
    (opensF_cons (opens_slice (isBulk H) Try.underlying79 (n := 1) (by kernel_rfl) (by decide) (oRow enc W) (fun _ => rfl)) (by kernel_rfl) (opensF_nil' (by kernel_rfl)))))
    (fun b => ⟨b.1, b.2.1⟩) (fun _ _ => trivial) (fun b => by simp only [zTab]; omega) (fun _ => rfl)
theorem oNamed : Opens enc Try.prog W (Rows.uptoBulk (H := H)) 83 (fun _ : Named => True) zNamed namedC :=
  opens_map (opens_struct (isBulk H) Try.underlying83 (N := 3) (by kernel_rfl) (opensF_cons (oStr enc W) rfl (opensF_cons (oTab enc W) (by kernel_rfl) (opensF_nil' (by kernel_rfl)))))
    (fun b => ⟨b.1, b.2.1⟩) (fun _ _ => trivial) (fun b => by simp only [zNamed, zS, zTab]; omega) (fun _ => rfl)
theorem oNameds : Opens enc Try.prog W (Rows.uptoBulk (H := H)) 22 (fun _ : List Named => True) (fun l => (l.map zNamed).sum) (fun l => [.sl 3 (l.map namedC)]) :=
  opens_map (opens_slice (isBulk H) Try.underlying22 (n := 3) (by kernel_rfl) (by decide) (oNamed enc W) (fun _ => rfl)) id (fun _ _ => trivial) (fun b => by simp only [id]; omega) (fun _ => rfl)
end
theorem own : ownKnob Try.prog.godebug = none := by kernel_rfl
theorem laidOut : laidOutB Try.prog = true := by kernel_rfl
set_option maxRecDepth 100000 in
/-- The call, at what was read. -/
theorem contract (H : Type) (enc : TypeId × Value → H) (W : World) (base : Nat) (args : Array Value) (ds gs : List (DataW H)) (before : List MemPlace)
    (hval : ∀ (j : Nat) t v, Try.f3.params[j]? = some t → args[j]? = some v → Value.okWide Try.prog W .any base t v)
    (hW : DataW.Whole enc Try.prog Try.f3.params.toList Rows.neededAtMostMoreSpec.vars false W args.toList ds gs before) (hk : Rows.uptoSmall H (ds ++ gs) = true) :
    Calls Try.prog 3 args W fun e W' => ∃ v, e = .returned v ∧ Rows.neededAtMostMoreSpec.post enc Try.prog Try.f3 false true false false W args v W' := by
  have hW' := hW
  obtain ⟨p, q, hA0, hV, rfl, hfz, hnd⟩ := hW
  have hA : DataW.TrodAll enc Try.prog W 0 (fun _ => true) true Try.f3.params.toList args.toList ds p := hA0
  rw [Try.params3] at hA hval
  obtain ⟨v0, vs0, d0, ds0, p0, q0, hargs, rfl, rfl, h0, r0⟩ := trodAll_cons hA
  obtain ⟨v1, vs1, d1, ds1, p1, q1, rfl, rfl, rfl, h1, r1⟩ := trodAll_cons r0
  obtain ⟨v2, vs2, d2, ds2, p2, q2, rfl, rfl, rfl, h2, r2⟩ := trodAll_cons r1
  obtain ⟨v3, vs3, d3, ds3, p3, q3, rfl, rfl, rfl, h3, r3⟩ := trodAll_cons r2
  obtain ⟨rfl, rfl, rfl⟩ := trodAll_nil r3
  obtain rfl : args = #[v0, v1, v2, v3] := by cases args; simp_all
  obtain ⟨rfl, rfl⟩ := trodVars_none hV
  obtain ⟨a3, rfl, rfl, rfl, w3⟩ := open_int Try.underlying3 (hval 3 3 v3 rfl rfl) h3
  have hw0 := hval 0 22 v0 rfl rfl
  have hw1 := hval 1 25 v1 rfl rfl
  have hw2 := hval 2 26 v2 rfl rfl
  have k0 := h0
  have k1 := h1
  have k2 := h2
  have lt0 : ∀ x ∈ p0, x.block < W.heap.size := by obtain ⟨m, hm⟩ := k0; exact DataW.trod_lt m _ _ _ hm
  have lt1 : ∀ x ∈ p1, x.block < W.heap.size := by obtain ⟨m, hm⟩ := k1; exact DataW.trod_lt m _ _ _ hm
  have lt2 : ∀ x ∈ p2, x.block < W.heap.size := by obtain ⟨m, hm⟩ := k2; exact DataW.trod_lt m _ _ _ hm
  obtain ⟨fuel0, hf0⟩ := h0
  obtain ⟨b0, _, hb0, hs0⟩ := oNameds enc W fuel0 _ _ hf0
  obtain ⟨y0, ys0, hc0, _, hd0, hz0⟩ := hb0
  obtain rfl := hz0
  have hv0 : v0 = y0 := by
    obtain ⟨A, ln, cp, rfl⟩ := okWide_slice Try.underlying22 hw0
    simpa [Value.cells] using hc0
  subst hv0
  obtain ⟨fuel1, hf1⟩ := h1
  obtain ⟨b1, _, hb1, hs1⟩ := oPlan enc W fuel1 _ _ hf1
  obtain ⟨y1, ys1, hc1, _, hd1, hz1⟩ := hb1
  obtain rfl := hz1
  have hv1 : v1 = .agg #[y1] := by
    obtain ⟨cs, rfl, _⟩ := okWide_struct Try.underlying25 hw1
    congr 1
    apply Array.ext'
    simpa [Value.cells] using hc1
  subst hv1
  obtain ⟨fuel2, hf2⟩ := h2
  obtain ⟨b2, _, hb2, hs2⟩ := oInts enc W fuel2 _ _ hf2
  obtain ⟨y2, ys2, hc2, _, hd2, hz2⟩ := hb2
  obtain rfl := hz2
  have hv2 : v2 = y2 := by
    obtain ⟨A, ln, cp, rfl⟩ := okWide_slice Try.underlying26 hw2
    simpa [Value.cells] using hc2
  subst hv2
  have hbulk : Rows.uptoBulk d0 + Rows.uptoBulk d1 + Rows.uptoBulk d2 ≤ 1048576 := by
    have h : Rows.uptoBulkAll (d0 :: d1 :: d2 :: [DataW.lit (.int .i64 a3)] ++ []) ≤ 1048576 := of_decide_eq_true hk
    simp only [List.append_nil, Rows.uptoBulkAll] at h
    omega
  have hs0' : (b0.map zNamed).sum ≤ Rows.uptoBulk d0 := hs0
  have hs1' : (b1.map zStep).sum ≤ Rows.uptoBulk d1 := hs1
  have hs2' : b2.length ≤ Rows.uptoBulk d2 := hs2
  have hg := (good_law b0 b1 b2 a3 (smL_of (fun x => by unfold zNamed; omega) smNamed_of (by omega)) (smL_of (fun x => by unfold zStep; omega) smStep_of (by omega)) (by omega)).2 W F00 [v0, .agg #[y1], v2, .int .i64 a3] (fun _ _ h => h.elim)
    ⟨_, _, rfl, hd0, _, _, rfl, ⟨[y1], rfl, _, _, rfl, hd1, rfl⟩, _, _, rfl, hd2, _, _, rfl, rfl, rfl⟩
  refine hg.mono fun e W' ⟨v, he, bel, hv⟩ => ?_
  obtain rfl : v = .bool true := hv
  subst he
  exact ⟨_, rfl, _, _, _, [], _, [], hW', trodAll_mk1 (shut_bool Try.underlying4 _), trodAll_cons_mk (Below.trod laidOut (by kernel_rfl) (of_decide_eq_true (by kernel_rfl)) k0 bel lt0) (trodAll_cons_mk (Below.trod laidOut (by kernel_rfl) (of_decide_eq_true (by kernel_rfl)) k1 bel lt1) (trodAll_cons_mk (Below.trod laidOut (by kernel_rfl) (of_decide_eq_true (by kernel_rfl)) k2 bel lt2) (trodAll_cons_mk (shut_int Try.underlying3 w3) trodAll_mk0))), rfl, bel.frame _, fun h => by cases h⟩
set_option maxRecDepth 100000 in
theorem lifted (os : Os) (started : os.Started) (H : Type) (enc : TypeId × Value → H) (F : Stop.Interp) :
    ReturnsInHanded {} Try.checked os 3 .any ((Rows.OpenSpec.upto Rows.neededAtMostMoreSpec).pre6 enc Try.prog Try.f3 Rows.neededAtMostMoreUptoRow.domain false) (((Rows.OpenSpec.upto Rows.neededAtMostMoreSpec).at F).post enc Try.prog Try.f3 false true false false) := by
  refine returnsInHanded_of_cond (C := Try.checked) (s := Rows.OpenSpec.upto Rows.neededAtMostMoreSpec) (k := Rows.uptoSmall) rfl own started (by kernel_rfl) Try.func3
    (OpenSpec.witness (enc := enc) (C := Try.checked) (s := Rows.OpenSpec.upto Rows.neededAtMostMoreSpec) (k := Rows.uptoSmall) rfl false ⟨#[], #[.slice none 0 0, .agg #[.slice none 0 0], .slice none 0 0, .int .i64 0], []⟩ 8 (by kernel_rfl) (by kernel_rfl) (by kernel_rfl)
      (x := ([.nil, .agg [.nil], .nil, .lit (.int .i64 0)], [], [])) (by kernel_rfl) rfl (by kernel_rfl)) ?_
  intro W base args ds gs before hval hW _ hk _
  exact contract H enc W base args ds gs before hval hW hk
theorem proved : Rows.NeededAtMostMoreUptoSaid :=
  OpenClaim.holds_of_cond 3 Try.f3 rfl rfl rfl rfl rfl rfl rfl ⟨rfl, rfl, rfl, rfl, rfl⟩ rfl rfl rfl rfl rfl (by kernel_rfl) Try.func3 (by kernel_rfl)
    (of_decide_eq_true (by kernel_rfl)) (by unfold Func.isWrapper; first | (rw [if_pos (by decide +kernel)]; kernel_rfl) | (rw [if_neg (by decide +kernel)]; exact ⟨rfl, rfl⟩))
    (fun os started H enc _ F => lifted os started H enc F)
end Go.Proofs.Ytapnljdpijhcnaa.neededAtMostMore
namespace Go.Proofs.Ytapnljdpijhcnaa
theorem neededAtMostMore_holds : Rows.NeededAtMostMoreUptoSaid := neededAtMostMore.proved
end Go.Proofs.Ytapnljdpijhcnaa
