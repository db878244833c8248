/- A part of the proof of the law: it holds for all states of the abstract kind told in the first of these texts; no condition besides those its statements name. -/
import Derived.Test.YtapnljdpijhcnaaAbG1
import Derived.Test.YtapnljdpijhcnaaAbH0
namespace Go.Proofs.Ab.Try
open Go Go.RowKit Go.Proofs Go.Proofs.Ab
set_option linter.unusedSimpArgs false
set_option linter.unusedVariables false
set_option maxHeartbeats 8000000
/-! ### What the library does -/
def cmpS (a b : ByteArray) : Int := Lib.compareBytes a.data.toList b.data.toList
theorem good_Compare (a b : ByteArray) : Good Try.prog 60 [.d (.v (.string a)), .d (.v (.string b))] (aI (cmpS a b)) := by
  refine good_of_calls ⟨_, Try.func60, by kernel_rfl, by kernel_rfl⟩ trivial fun w F vs hF hvs => ?_
  obtain ⟨x, _, rfl, hx, y, _, rfl, hy, h⟩ := hvs
  obtain rfl := h
  obtain rfl := hx
  obtain rfl := hy
  refine Calls.mono (Any.strings_Compare Go.Proofs.Try.layCompare a b w) ?_
  rintro e w' ⟨rfl, rfl⟩
  exact ⟨_, rfl, rfl, rfl⟩
theorem good_Sort (zs : List Int) (hz : zs.length < 4611686018427387904) : GoodI Try.prog 25 zs (zs.mergeSort fun x y => decide (x ≤ y)) none :=
  goodI_sort ⟨_, Try.func25, by kernel_rfl, by kernel_rfl⟩ (fun blk off cap zs w h1 h2 h3 => AnyG.slices_Sort_int Go.Proofs.Try.laySort blk off cap zs w h1 h2 h3) (fun p cap w => AnyG.slices_Sort_int_none Go.Proofs.Try.laySort p cap w) zs hz
theorem good_Compact (zs : List Int) (hz : zs.length < 4611686018427387904) : GoodI Try.prog 26 zs (Lib.compact zs ++ List.replicate (zs.length - (Lib.compact zs).length) 0) (some (Lib.compact zs).length) :=
  goodI_compact ⟨_, Try.func26, by kernel_rfl, by kernel_rfl⟩ (fun blk off cap zs w h1 h2 h3 => AnyG.slices_Compact_int Go.Proofs.Try.layCompact blk off cap zs w h1 h2 h3) (fun p cap w => AnyG.slices_Compact_int_empty Go.Proofs.Try.layCompact p cap w) zs hz
theorem own_rep {w w' : World} {F : Nat → Nat → Prop} (hF : ∀ b o, F b o → b < w.heap.size) {T : TypeId} {v : Value} {zs : List Int} (h : w'.ownsRow w.heap.size T 1 v zs.length (zs.map (Value.int .i64))) : RepA none' F 0 w' (.d (.sl 1 (eI zs))) v := by
  obtain ⟨h1, h⟩ := h
  rcases h with ⟨rfl, h2⟩ | ⟨g, cap, cur, rfl, hg, hh, hn, hc, hs, ht⟩
  · obtain rfl := List.length_eq_zero_iff.1 h2
    exact ⟨none, 0, 0, 0, rfl, Nat.le_refl _, fun h => absurd rfl h, trivial⟩
  · refine ⟨_, cap, g, 0, by simp [eI], by simpa [eI] using hn, fun _ => rfl, eI_rep zs 0 fun j z hj => ⟨?_, fun h => by have := hF _ _ h; omega⟩⟩
    rw [cell_of hh, Nat.zero_add]
    have hjl := (List.getElem?_eq_some_iff.1 hj).1
    have e : (cur.toList.take (zs.length * 1))[j]? = some (Value.int .i64 z) := by rw [ht, List.getElem?_map, hj]; rfl
    rw [List.getElem?_take, if_pos (by omega)] at e
    simpa using e
theorem good_Clone (zs : List Int) (hz : zs.length ≤ 2000000) : Good Try.prog 9 [.bs 1 (eI zs)] (.d (.sl 1 (eI zs))) := by
  refine ⟨⟨_, Try.func9, by kernel_rfl, by kernel_rfl⟩, fun w F vs hF hvs => ?_⟩
  obtain ⟨y, _, rfl, hy, h⟩ := hvs
  obtain rfl := h
  obtain ⟨A, cap, b, o, rfl, hc, hA, hes⟩ := hy
  simp only [eI, List.length_map] at hc ⊢
  by_cases h0 : zs = []
  · subst h0
    cases A with
    | none =>
      refine Calls.mono (AnyG.slices_Clone_int_nil Go.Proofs.Try.layClone 0 cap w) ?_
      rintro e w' ⟨rfl, rfl⟩
      exact ⟨_, rfl, Below.refl _ _, none, 0, 0, 0, rfl, Nat.le_refl _, fun h => absurd rfl h, trivial⟩
    | some a =>
      refine Calls.mono (AnyG.slices_Clone_int_zero Go.Proofs.Try.layClone a cap w) ?_
      rintro e w' ⟨v', rfl, ho, _, hb⟩
      exact ⟨v', rfl, hb, own_rep (zs := []) hF (by simpa using ho)⟩
  · obtain rfl := hA (by simpa [eI] using h0)
    refine Calls.mono (AnyG.slices_Clone_int Go.Proofs.Try.layClone b o zs.length cap zs w (Nat.le_refl _) (by omega) (fun j hj => ?_)) ?_
    · have h2 := (eI_read hes j zs[j] (List.getElem?_eq_getElem hj)).1
      rw [h2]
      simp [List.getD, hj]
    · rintro e w' ⟨v', rfl, ho, _, hb⟩
      exact ⟨v', rfl, hb, own_rep hF (by simpa using ho)⟩
/-- A new array with room, of no element. -/
theorem goodN_Grow {f : FuncId} {T : TypeId} {i0 : TypeInfo} {z : Value} {sz n : Nat} (hfn : ∃ fn, Try.prog.funcs[f]? = some fn ∧ (fn.name == "runtime.NumGoroutine") = false ∧ fn.body.isNone = false) (hzs : z.cells.size = sz)
    (hroom : ∀ w : World, n = 0 → Calls Try.prog f #[.slice none 0 0, .int .i64 n] w fun e w' => e = .returned (.slice none 0 0) ∧ w' = w)
    (hgrow : ∀ w : World, 0 < n → Calls Try.prog f #[.slice none 0 0, .int .i64 n] w fun e w' => e = .returned (.slice (some ⟨w.heap.size, 0, none⟩) 0 (grownCap w (0 + n) 0 T)) ∧
      w' = w.drew.alloc (.cells (([] : List Value).toArray ++ Builtin.zeroCells z.cells (0 + n - 0) ++ Builtin.zeroCells z.cells (grownCap w (0 + n) 0 T - (0 + n))) T)) :
    GoodN Try.prog f [aNil, aI n] sz [] 0 := by
  refine ⟨hfn, fun w F vs hF hvs => ?_⟩
  obtain ⟨x, _, rfl, hx, y, _, rfl, hy, h⟩ := hvs
  obtain rfl := h
  obtain rfl := hx
  obtain rfl := hy
  by_cases hn : n = 0
  · refine Calls.mono (hroom w hn) ?_
    rintro e w' ⟨rfl, rfl⟩
    exact ⟨_, rfl, Below.refl _ _, .inl ⟨rfl, rfl, none, rfl⟩⟩
  · refine Calls.mono (hgrow w (by omega)) ?_
    rintro e w' ⟨rfl, rfl⟩
    have hge := grownCap_ge w (0 + n) 0 T
    refine ⟨_, rfl, ?_, .inr ⟨w.heap.size, grownCap w (0 + n) 0 T, _, T, Nat.le_refl _, heap_alloc_new w.drew _, rfl, Nat.zero_le _, ?_, by simp, trivial⟩⟩
    · have h0 : Below w.heap.size w w.drew := ⟨rfl, rfl, rfl, Nat.le_refl _, fun _ _ => rfl⟩
      exact h0.trans ((Below.refl w.heap.size w.drew).alloc (Nat.le_refl _) _)
    · simp only [Array.size_append, size_zeroCells, hzs, List.size_toArray, List.length_nil, Nat.zero_add]
      rw [← Nat.add_mul]
      exact Nat.mul_le_mul_right _ (by omega)
theorem goodN_GrowI (n : Nat) (hn : n ≤ 2000000) : GoodN Try.prog 31 [aNil, aI n] 1 [] 0 := by
  refine goodN_Grow (T := 3) (i0 := Try.t3) (z := .int .i64 0) ⟨_, Try.func31, by kernel_rfl, by kernel_rfl⟩ rfl (fun w h0 => ?_) (fun w h0 => ?_)
  · exact Any8.slices_Grow_room Go.Proofs.Try.layGrowI none 0 0 n w (Nat.le_refl _) (by omega) (by omega) (by omega)
  · exact Any8.slices_Grow_grow Go.Proofs.Try.layGrowI Try.t3 (.int .i64 0) (by kernel_rfl) (by kernel_rfl) (by decide +kernel) none 0 0 n [] w (Nat.le_refl _) (by omega) (Nat.le_trans (Nat.mul_le_mul_left _ (show Try.t3.bytes ≤ 64 by decide +kernel)) (by omega)) (by omega) (by simp) (fun _ => rfl) (fun a h => by cases h)
theorem goodN_GrowC (n : Nat) (hn : n ≤ 2000000) : GoodN Try.prog 79 [aNil, aI n] 2 [] 0 := by
  refine goodN_Grow (T := 109) (i0 := Try.t109) (z := .agg #[.string ⟨#[]⟩, .int .i64 0]) ⟨_, Try.func79, by kernel_rfl, by kernel_rfl⟩ rfl (fun w h0 => ?_) (fun w h0 => ?_)
  · exact Any8.slices_Grow_room Go.Proofs.Try.layGrowC none 0 0 n w (Nat.le_refl _) (by omega) (by omega) (by omega)
  · exact Any8.slices_Grow_grow Go.Proofs.Try.layGrowC Try.t109 (.agg #[.string ⟨#[]⟩, .int .i64 0]) (by kernel_rfl) (by kernel_rfl) (by decide +kernel) none 0 0 n [] w (Nat.le_refl _) (by omega) (Nat.le_trans (Nat.mul_le_mul_left _ (show Try.t109.bytes ≤ 64 by decide +kernel)) (by omega)) (by omega) (by simp) (fun _ => rfl) (fun a h => by cases h)
end Go.Proofs.Ab.Try
