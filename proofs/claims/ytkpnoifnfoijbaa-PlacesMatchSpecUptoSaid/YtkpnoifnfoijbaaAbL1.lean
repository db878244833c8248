/- Proved: peristylelaw7.PlacesMatchSpec returns true and leaves its arguments as they were, for every input whose bulk is at most 1048576 (the statement of the second form); no other condition. -/
import Derived.Test.YtkpnoifnfoijbaaAbF10
import Derived.Test.YtkpnoifnfoijbaaAbA26
import Derived.Test.YtkpnoifnfoijbaaRows
import Derived.WalkKit
import Derived.ProofKit
import Derived.OpenShut
import Derived.ShutString
import Derived.ChangeOld
import Derived.Below
import Derived.Carry
import Derived.JoinedCond
namespace Go.Proofs.Ytkpnoifnfoijbaa.placesMatchSpec
open Go.ChangeShapes Go.WideShapes Go.ChangeAt Go.RowKit Go.Proofs.Ab Go.Proofs.Ab.Try
open Go.ChangeMaps (open_string shut_string)
set_option linter.unusedVariables false
theorem bulkAll {H : Type} (l : List (DataW H)) : Rows.uptoBulkAll l = (l.map Rows.uptoBulk).sum := by
  induction l with
  | nil => rfl
  | cons x r ih => simp [Rows.uptoBulkAll, ih]
theorem sum_one {β : Type} (l : List β) : (l.map fun _ => 1).sum = l.length := by
  induction l with
  | nil => rfl
  | cons x r ih => simp [ih]; omega
theorem isBulk (H : Type) : IsBulk (Rows.uptoBulk (H := H)) where
  lit := fun l => by cases l <;> simp [Rows.uptoBulk]
  str := fun bs => by simp [Rows.uptoBulk]
  nil := by simp [Rows.uptoBulk]
  slice := fun el sp => by simp only [Rows.uptoBulk, bulkAll]; omega
  agg := fun ps => by simp only [Rows.uptoBulk, bulkAll]; omega
section
variable {H : Type} (enc : TypeId × Value → H) (W : World)
theorem o3 : Opens enc Try.prog W (Rows.uptoBulk (H := H)) 3 (fun _ : Int => True) (fun _ => 1) (fun n => [.v (.int .i64 n)]) :=
  opens_map (opens_int (isBulk H) Try.underlying3) id (fun _ _ => trivial) (fun _ => Nat.le_refl _) (fun _ => rfl)
theorem o4 : Opens enc Try.prog W (Rows.uptoBulk (H := H)) 4 (fun _ : Bool => True) (fun _ => 1) (fun n => [.v (.bool n)]) := opens_bool (isBulk H) Try.underlying4
theorem o9 : Opens enc Try.prog W (Rows.uptoBulk (H := H)) 9 (fun _ : ByteArray => True) (fun _ => 1) (fun n => [.v (.string n)]) :=
  opens_map (opens_str (isBulk H) Try.underlying9) id (fun _ _ => trivial) (fun _ => by simp) (fun _ => rfl)
theorem o93 : Opens enc Try.prog W (Rows.uptoBulk (H := H)) 93 (fun _ : Val => True) (fun _ => 1) valC :=
  opens_map (opens_struct (isBulk H) Try.underlying93 (N := 3) (by kernel_rfl) (opensF_cons (o3 enc W) rfl (opensF_cons (o3 enc W) (by kernel_rfl) (opensF_cons (o9 enc W) (by kernel_rfl) (opensF_nil' (by kernel_rfl))))))
    (fun b => ⟨b.1, b.2.1, b.2.2.1⟩) (fun _ _ => trivial) (fun _ => by simp) (fun _ => rfl)
theorem o95 : Opens enc Try.prog W (Rows.uptoBulk (H := H)) 95 (fun _ : Ab.Node => True) (fun _ => 1) nodeC :=
  opens_map (opens_struct (isBulk H) Try.underlying95 (N := 5) (by kernel_rfl) (opensF_cons (o3 enc W) rfl (opensF_cons (o3 enc W) (by kernel_rfl) (opensF_cons (o93 enc W) (by kernel_rfl) (opensF_nil' (by kernel_rfl))))))
    (fun b => ⟨b.1, b.2.1, b.2.2.1⟩) (fun _ _ => trivial) (fun _ => by simp) (fun _ => rfl)
theorem o77 : Opens enc Try.prog W (Rows.uptoBulk (H := H)) 77 (fun _ : List Ab.Node => True) (fun _ => 1) exprC :=
  opens_map (opens_slice (isBulk H) Try.underlying77 (n := 5) (by kernel_rfl) (by decide) (o95 enc W) (fun _ => rfl)) id (fun _ _ => trivial) (fun _ => by simp) (fun _ => rfl)
theorem o79 : Opens enc Try.prog W (Rows.uptoBulk (H := H)) 79 (fun _ : List Ab.Node => True) (fun _ => 1) exprC :=
  opens_map (opens_struct (isBulk H) Try.underlying79 (N := 1) (by kernel_rfl) (opensF_cons (o77 enc W) rfl (opensF_nil' (by kernel_rfl)))) (fun b => b.1) (fun _ _ => trivial) (fun _ => by simp) (fun _ => rfl)
theorem o86 : Opens enc Try.prog W (Rows.uptoBulk (H := H)) 86 (fun _ : Key => True) (fun _ => 1) keyC :=
  opens_map (opens_struct (isBulk H) Try.underlying86 (N := 3) (by kernel_rfl) (opensF_cons (o3 enc W) rfl (opensF_cons (o4 enc W) (by kernel_rfl) (opensF_cons (o4 enc W) (by kernel_rfl) (opensF_nil' (by kernel_rfl))))))
    (fun b => ⟨b.1, b.2.1, b.2.2.1⟩) (fun _ _ => trivial) (fun _ => by simp) (fun _ => rfl)
theorem o84 : Opens enc Try.prog W (Rows.uptoBulk (H := H)) 84 (fun _ : Agg => True) (fun _ => 1) aggC :=
  opens_map (opens_struct (isBulk H) Try.underlying84 (N := 3) (by kernel_rfl) (opensF_cons (o3 enc W) rfl (opensF_cons (o3 enc W) (by kernel_rfl) (opensF_cons (o9 enc W) (by kernel_rfl) (opensF_nil' (by kernel_rfl))))))
    (fun b => ⟨b.1, b.2.1, b.2.2.1⟩) (fun _ _ => trivial) (fun _ => by simp) (fun _ => rfl)
theorem o55 : Opens enc Try.prog W (Rows.uptoBulk (H := H)) 55 (fun _ : PStep => True) (fun _ => 1) stepC :=
  opens_map (opens_struct (isBulk H) Try.underlying55 (N := 9) (by kernel_rfl)
    (opensF_cons (o3 enc W) rfl (opensF_cons (o3 enc W) (by kernel_rfl) (opensF_cons (o3 enc W) (by kernel_rfl) (opensF_cons (o9 enc W) (by kernel_rfl)
      (opensF_cons (opens_slice (isBulk H) Try.underlying50 (n := 1) (by kernel_rfl) (by decide) (o79 enc W) (fun _ => rfl)) (by kernel_rfl)
      (opensF_cons (opens_slice (isBulk H) Try.underlying51 (n := 1) (by kernel_rfl) (by decide) (o9 enc W) (fun _ => rfl)) (by kernel_rfl)
      (opensF_cons (opens_slice (isBulk H) Try.underlying25 (n := 1) (by kernel_rfl) (by decide) (o3 enc W) (fun _ => rfl)) (by kernel_rfl)
      (opensF_cons (opens_slice (isBulk H) Try.underlying52 (n := 3) (by kernel_rfl) (by decide) (o86 enc W) (fun _ => rfl)) (by kernel_rfl)
      (opensF_cons (opens_slice (isBulk H) Try.underlying53 (n := 3) (by kernel_rfl) (by decide) (o84 enc W) (fun _ => rfl)) (by kernel_rfl) (opensF_nil' (by kernel_rfl))))))))))))
    (fun b => ⟨b.1, b.2.1, b.2.2.1, b.2.2.2.1, b.2.2.2.2.1, b.2.2.2.2.2.1, b.2.2.2.2.2.2.1, b.2.2.2.2.2.2.2.1, b.2.2.2.2.2.2.2.2.1⟩) (fun _ _ => trivial) (fun _ => by simp) (fun _ => rfl)
theorem o24 : Opens enc Try.prog W (Rows.uptoBulk (H := H)) 24 (fun _ : List PStep => True) (fun l => l.length) (fun l => [.sl 9 (l.map stepC)]) :=
  opens_map (opens_struct (isBulk H) Try.underlying24 (N := 1) (by kernel_rfl) (opensF_cons (opens_slice (isBulk H) Try.underlying22 (n := 9) (by kernel_rfl) (by decide) (o55 enc W) (fun _ => rfl)) rfl (opensF_nil' (by kernel_rfl))))
    (fun b => b.1) (fun _ _ => trivial) (fun b => by have := sum_one b.1; omega) (fun _ => rfl)
end
theorem own : ownKnob Try.prog.godebug = none := by kernel_rfl
theorem laidOut : laidOutB Try.prog = true := by kernel_rfl
set_option maxRecDepth 100000 in
/-- The call, at what was read. -/
theorem contract (H : Type) (enc : TypeId × Value → H) (W : World) (base : Nat) (args : Array Value) (ds gs : List (DataW H)) (before : List MemPlace)
    (hval : ∀ (j : Nat) t v, Try.f3.params[j]? = some t → args[j]? = some v → Value.okWide Try.prog W .any base t v)
    (hW : DataW.Whole enc Try.prog Try.f3.params.toList Rows.placesMatchSpecSpec.vars false W args.toList ds gs before) (hk : Rows.uptoSmall H (ds ++ gs) = true) :
    Calls Try.prog 3 args W fun e W' => ∃ v, e = .returned v ∧ Rows.placesMatchSpecSpec.post enc Try.prog Try.f3 false true false false W args v W' := by
  have hW' := hW
  obtain ⟨p, q, hA0, hV, rfl, hfz, hnd⟩ := hW
  have hA : DataW.TrodAll enc Try.prog W 0 (fun _ => true) true Try.f3.params.toList args.toList ds p := hA0
  rw [Try.params3] at hA hval
  obtain ⟨v0, vs0, d0, ds0, p0, q0, hargs, rfl, rfl, h0, r0⟩ := trodAll_cons hA
  obtain ⟨v1, vs1, d1, ds1, p1, q1, rfl, rfl, rfl, h1, r1⟩ := trodAll_cons r0
  obtain ⟨v2, vs2, d2, ds2, p2, q2, rfl, rfl, rfl, h2, r2⟩ := trodAll_cons r1
  obtain ⟨rfl, rfl, rfl⟩ := trodAll_nil r2
  obtain rfl : args = #[v0, v1, v2] := by cases args; simp_all
  obtain ⟨rfl, rfl⟩ := trodVars_none hV
  obtain ⟨a1, rfl, rfl, rfl, w1⟩ := open_int Try.underlying3 (hval 1 3 v1 rfl rfl) h1
  obtain ⟨a2, rfl, rfl, rfl, w2⟩ := open_int Try.underlying3 (hval 2 3 v2 rfl rfl) h2
  have hw0 := hval 0 24 v0 rfl rfl
  have k0 := h0
  have lt0 : ∀ x ∈ p0, x.block < W.heap.size := by obtain ⟨m, hm⟩ := k0; exact DataW.trod_lt m _ _ _ hm
  obtain ⟨fuel, hf⟩ := h0
  obtain ⟨b, _, hb, hs⟩ := o24 enc W fuel _ _ hf
  obtain ⟨y, ys, hc, _, hd, rfl⟩ := hb
  have hv0 : v0 = .agg #[y] := by
    obtain ⟨cs, rfl, _⟩ := okWide_struct Try.underlying24 hw0
    congr 1
    apply Array.ext'
    simpa [Value.cells] using hc
  subst hv0
  have hlen : b.length ≤ 2000000 := by
    have h : Rows.uptoBulkAll (d0 :: [DataW.lit (.int .i64 a1), DataW.lit (.int .i64 a2)] ++ []) ≤ 1048576 := of_decide_eq_true hk
    simp only [List.append_nil, Rows.uptoBulkAll] at h
    have hs' : b.length ≤ Rows.uptoBulk d0 := hs
    omega
  have hg := (good_law b a1 a2 hlen).2 W F00 [.agg #[y], .int .i64 a1, .int .i64 a2] (fun _ _ h => h.elim)
    ⟨_, _, rfl, ⟨[y], rfl, _, _, rfl, hd, rfl⟩, _, _, rfl, rfl, _, _, rfl, rfl, rfl⟩
  refine hg.mono fun e W' ⟨v, he, bel, hv⟩ => ?_
  obtain rfl : v = .bool true := hv
  subst he
  exact ⟨_, rfl, _, _, _, [], _, [], hW', trodAll_mk1 (shut_bool Try.underlying4 _), trodAll_cons_mk (Below.trod laidOut (by kernel_rfl) (of_decide_eq_true (by kernel_rfl)) k0 bel lt0) (trodAll_cons_mk (shut_int Try.underlying3 w1) (trodAll_cons_mk (shut_int Try.underlying3 w2) trodAll_mk0)), rfl, bel.frame _, fun h => by cases h⟩
set_option maxRecDepth 100000 in
theorem lifted (os : Os) (started : os.Started) (H : Type) (enc : TypeId × Value → H) (F : Stop.Interp) :
    ReturnsInHanded {} Try.checked os 3 .any ((Rows.OpenSpec.upto Rows.placesMatchSpecSpec).pre6 enc Try.prog Try.f3 Rows.placesMatchSpecUptoRow.domain false) (((Rows.OpenSpec.upto Rows.placesMatchSpecSpec).at F).post enc Try.prog Try.f3 false true false false) := by
  refine returnsInHanded_of_cond (C := Try.checked) (s := Rows.OpenSpec.upto Rows.placesMatchSpecSpec) (k := Rows.uptoSmall) rfl own started (by kernel_rfl) Try.func3
    (OpenSpec.witness (enc := enc) (C := Try.checked) (s := Rows.OpenSpec.upto Rows.placesMatchSpecSpec) (k := Rows.uptoSmall) rfl false ⟨#[], #[.agg #[.slice none 0 0], .int .i64 0, .int .i64 0], []⟩ 8 (by kernel_rfl) (by kernel_rfl) (by kernel_rfl)
      (x := ([.agg [.nil], .lit (.int .i64 0), .lit (.int .i64 0)], [], [])) (by kernel_rfl) rfl (by kernel_rfl)) ?_
  intro W base args ds gs before hval hW _ hk _
  exact contract H enc W base args ds gs before hval hW hk
theorem proved : Rows.PlacesMatchSpecUptoSaid :=
  OpenClaim.holds_of_cond 3 Try.f3 rfl rfl rfl rfl rfl rfl rfl ⟨rfl, rfl, rfl, rfl, rfl⟩ rfl rfl rfl rfl rfl (by kernel_rfl) Try.func3 (by kernel_rfl)
    (of_decide_eq_true (by kernel_rfl)) (by unfold Func.isWrapper; first | (rw [if_pos (by decide +kernel)]; kernel_rfl) | (rw [if_neg (by decide +kernel)]; exact ⟨rfl, rfl⟩))
    (fun os started H enc _ F => lifted os started H enc F)
end Go.Proofs.Ytkpnoifnfoijbaa.placesMatchSpec
namespace Go.Proofs.Ytkpnoifnfoijbaa
theorem placesMatchSpec_holds : Rows.PlacesMatchSpecUptoSaid := placesMatchSpec.proved
end Go.Proofs.Ytkpnoifnfoijbaa
