/- A part of the proof of the law: it holds for all states of the abstract kind told in the first of these texts; no condition besides those its statements name. -/
import Derived.Test.YtkpnoifnfoijbaaAbA7
namespace Go.Proofs.Ab
open Go Go.RowKit
set_option linter.unusedVariables false
set_option linter.unusedSimpArgs false

/-! ### Building -/
def setR (l : List AV) (off : Nat) (cs : List AV) : List AV := l.take off ++ (cs ++ l.drop (off + cs.length))
def fillA (place : Nat → Option (Nat × Nat)) (l : List AV) : List (Nat × AV) → Option (List AV)
  | [] => some l
  | (i, x) :: r => match place i, x.cells with
    | some (off, size), some cs => if cs.length = size ∧ off + size ≤ l.length then fillA place (setR l off cs) r else none
    | _, _ => none
def placeA (tt : TypeId → Option TI) (i : TI) (f : Nat) : Option (Nat × Nat) := (fieldA tt i f).map fun p => (p.1, p.2.size)

section
variable {P : Program} {n base : Nat} {w0 : World} {F0 : Nat → Nat → Prop} {ι : Nat → Option Nat} {full : Nat → Option Ob} {ev : Nat → AV} {a : Act} {w : World}
theorem foldl_set (off : Nat) : ∀ (cs : List Value) (k : Nat) (arr : Array Value), off + k + cs.length ≤ arr.size →
    ((cs.zipIdx k).foldl (fun acc p => acc.setIfInBounds (off + p.2) p.1) arr).toList = arr.toList.take (off + k) ++ (cs ++ arr.toList.drop (off + k + cs.length)) := by
  intro cs
  induction cs with
  | nil => intro k arr h; simp
  | cons c r ih =>
    intro k arr h
    simp only [List.length_cons] at h
    simp only [List.zipIdx_cons, List.foldl_cons]
    rw [ih (k + 1) _ (by simp; omega)]
    have hk : off + k < arr.toList.length := by simp; omega
    simp only [Array.toList_setIfInBounds]
    rw [show off + (k + 1) = off + k + 1 by omega]
    rw [List.take_set, List.take_add_one, List.getElem?_eq_getElem hk]
    rw [List.drop_set_of_lt (by omega)]
    have e1 : ((arr.toList.take (off + k) ++ [arr.toList[off + k]]).set (off + k) c) = arr.toList.take (off + k) ++ [c] := by
      rw [List.set_append_right _ _ (by simp; omega)]
      have e0 : (arr.toList.take (off + k)).length = off + k := by rw [List.length_take]; omega
      rw [e0, Nat.sub_self]
      rfl
    simp only [Option.toList_some]
    rw [e1]
    simp [List.append_assoc, Nat.add_assoc, Nat.add_comm 1]
def RepPs (ι : Nat → Option Nat) (F : Nat → Nat → Prop) (base : Nat) (w : World) : List (Nat × AV) → List (Nat × Value) → Prop
  | [], q => q = []
  | (i, x) :: r, q => ∃ v s, q = (i, v) :: s ∧ RepA ι F base w x v ∧ RepPs ι F base w r s
theorem fillA_sound {place placeV : Nat → Option (Nat × Nat)} (hp : ∀ i p, place i = some p → placeV i = some p) :
    ∀ (parts : List (Nat × AV)) (pv : List (Nat × Value)) (l : List AV) (vs : Array Value) (out : List AV), RepL ι (FF F0 ι) base w l vs.toList →
      RepPs ι (FF F0 ι) base w parts pv → fillA place l parts = some out → ∃ arr, Instr.fill placeV vs pv = some arr ∧ RepL ι (FF F0 ι) base w out arr.toList := by
  intro parts
  induction parts with
  | nil =>
    intro pv l vs out hl hf h
    obtain rfl := hf
    simp only [fillA, Option.some.injEq] at h; subst h
    exact ⟨vs, rfl, hl⟩
  | cons p r ih =>
    intro pv l vs out hl hf h
    obtain ⟨i, x⟩ := p
    obtain ⟨v, qs, rfl, hx, h2⟩ := hf
    simp only [fillA] at h
    split at h
    · rename_i off size cs e1 e2
      split at h
      · rename_i hc
        obtain ⟨us, e3, hus, _⟩ := AV.cells_sound hx e2
        have hlen := hus.length
        have hll := hl.length
        have e4 : v.cells.toList = us := by rw [e3]
        have e5 : v.cells.size = us.length := by rw [e3]; simp
        have hvs : vs.size = l.length := by rw [← hll]; simp
        have e6 := foldl_set off us 0 vs (by omega)
        have e7 : (v.cells.zipIdx.foldl (fun cs (c, j) => cs.setIfInBounds (off + j) c) vs).toList = vs.toList.take off ++ (us ++ vs.toList.drop (off + us.length)) := by
          rw [← Array.foldl_toList, Array.toList_zipIdx, e4]
          simpa using e6
        have hset : RepL ι (FF F0 ι) base w (setR l off cs) (v.cells.zipIdx.foldl (fun cs (c, j) => cs.setIfInBounds (off + j) c) vs).toList := by
          rw [e7]
          unfold setR
          rw [← hlen]
          exact (hl.take _).append (hus.append (hl.drop _))
        obtain ⟨arr, h3, h4⟩ := ih qs (setR l off cs) _ out hset h2 h
        refine ⟨arr, ?_, h4⟩
        simp only [Instr.fill, hp _ _ e1]
        rw [if_neg]
        · exact h3
        · have h6 : v.cells.size = size := by omega
          simp [h6]
          omega
      · cases h
    · cases h
theorem zeros_rep (zs : List Value) : RepL ι (FF F0 ι) base w (zs.map fun x => .d (.v x)) zs := by
  induction zs with
  | nil => rfl
  | cons z r ih => exact ⟨z, r, rfl, rfl, ih⟩
theorem mapM_places {tt : TypeId → Option TI} (htt : TOK P tt) (l : List Field) (h : ∀ f ∈ l, ∃ i, tt f.type = some i) :
    (l.mapM fun f => (do pure (f.offset, ← sizeOf f.type) : Sem (Nat × Nat))).run P w = .ok (l.map fun f => (f.offset, P.cellsOf f.type)) w := by
  induction l with
  | nil => simp
  | cons f r ih =>
    obtain ⟨i, hi⟩ := h f (by simp)
    have ht := htt _ _ hi
    have hc : P.cellsOf f.type = i.size := by
      have := ht.size
      simp [Program.cellsOf, this]
    simp only [List.mapM_cons, Sem.run_bind, run_sizeOf_tok ht, Result.andThen_ok, Sem.run_pure, ih (fun f hf => h f (by simp [hf])), List.map_cons, hc]
/-- A struct's literal. -/
theorem buildA_sound {tt : TypeId → Option TI} (htt : TOK P tt) {t : TypeId} {sz b : Nat} {fs : List (Nat × TypeId)} {zs : List Value} (ht : Tok P t (.st sz b fs zs)) (hall : fs.all (fun p => (tt p.2).isSome) = true)
    {parts : List (Nat × AV)} {pv : Array (Nat × Value)} {out : List AV} (hp : RepPs ι (FF F0 ι) base w parts pv.toList)
    (h : fillA (placeA tt (.st sz b fs zs)) (zs.map fun x => .d (.v x)) parts = some out) :
    ∃ u, (Instr.build t pv).run P w = .ok u w ∧ RepA ι (FF F0 ι) base w (.ag out) u := by
  obtain ⟨_, hzl, _, fa, hu, hf⟩ := id ht
  have hm : (fa.mapM fun f => (do pure (f.offset, ← sizeOf f.type) : Sem (Nat × Nat))).run P w = .ok (fa.toList.map fun f => (f.offset, P.cellsOf f.type)).toArray w := by
    rw [Array.mapM_eq_mapM_toList]
    have := mapM_places (P := P) (w := w) htt fa.toList (by
      intro f hfm
      rw [← hf, List.all_eq_true] at hall
      have := hall (f.offset, f.type) (List.mem_map_of_mem (f := fun f => (f.offset, f.type)) hfm)
      exact Option.isSome_iff_exists.1 this)
    rw [Sem.run_map, this]
    rfl
  have hpl : ∀ i p, placeA tt (.st sz b fs zs) i = some p → (fa.toList.map fun f => (f.offset, P.cellsOf f.type))[i]? = some p := by
    intro i p hpl
    unfold placeA at hpl
    cases hfa : fieldA tt (.st sz b fs zs) i with
    | none => rw [hfa] at hpl; simp at hpl
    | some q =>
      obtain ⟨off, fi⟩ := q
      rw [hfa] at hpl
      simp at hpl
      obtain ⟨fa', fd, hu', hfd, ho, htf, _⟩ := fieldA_spec htt ht hfa
      rw [hu] at hu'
      injection hu' with hu'
      injection hu' with hu'
      subst hu'
      have hc : P.cellsOf fd.type = fi.size := by
        have := htf.size
        simp [Program.cellsOf, this]
      have : fa.toList[i]? = some fd := by simpa using hfd
      simp only [List.getElem?_map, this, Option.map_some, hc, ho]
      rw [← hpl]
  obtain ⟨arr, h1, h2⟩ := fillA_sound hpl parts pv.toList _ zs.toArray out (by simpa using zeros_rep zs) hp h
  refine ⟨.agg arr, ?_, arr.toList, rfl, h2⟩
  have hz := run_zeroValue_tok ht w
  simp only [Instr.build, Sem.run_bind, hz, Result.andThen_ok, run_underlying hu, hm, TI.zero, Value.cells]
  have e : (fun x : Nat => (fa.toList.map fun f => (f.offset, P.cellsOf f.type)).toArray[x]?) = fun i : Nat => (fa.toList.map fun f => (f.offset, P.cellsOf f.type))[i]? := by funext i; simp
  rw [e, h1]
  simp
end

/-! ### A slice's literal, and 'make' -/
def elemsA (sz : Nat) : Nat → List (Nat × AV) → Option (List (List D))
  | _, [] => some []
  | k, (i, x) :: r => if i = k then match x.cells with
      | some cs => if cs.length = sz then match toDs cs, elemsA sz (k + 1) r with
          | some ds, some es => some (ds :: es)
          | _, _ => none
        else none
      | none => none
    else none
section
variable {P : Program} {n base : Nat} {w0 : World} {F0 : Nat → Nat → Prop} {ι : Nat → Option Nat} {full : Nat → Option Ob} {ev : Nat → AV} {a : Act} {w : World}
theorem toDs_sound {pr : Nat → Value → Prop} {cs : List AV} {ds : List D} {vs : List Value} (h : toDs cs = some ds) (hr : RepL ι (FF F0 ι) base w cs vs) (o : Nat) (hc : ∀ j v, vs[j]? = some v → pr (o + j) v) :
    ds.length = cs.length ∧ RepCs (FF F0 ι) w pr ds o := by
  induction cs generalizing ds vs o with
  | nil => simp only [toDs, Option.some.injEq] at h; subst h; exact ⟨rfl, trivial⟩
  | cons x r ih =>
    obtain ⟨y, ys, rfl, h1, h2⟩ := hr
    unfold toDs at h
    split at h
    · rename_i u us e1 e2
      split at h
      case isFalse => cases h
      rename_i e0
      simp only [Option.some.injEq] at h; subst h
      obtain ⟨i1, i2⟩ := ih e2 h2 (o + 1) (fun j v hj => by rw [show o + 1 + j = o + (j + 1) by omega]; exact hc (j + 1) v (by simpa using hj))
      refine ⟨by simp [i1], ⟨e0, y, by simpa using hc 0 y rfl, ?_⟩, i2⟩
      unfold AV.d? at e1
      split at e1
      · simp only [Option.some.injEq] at e1; subst e1; exact h1
      · cases e1
    · cases h
theorem fill_ordered (sz : Nat) : ∀ (parts : List (Nat × AV)) (pv : List (Nat × Value)) (k : Nat) (vs : Array Value) (es : List (List D)), RepPs ι (FF F0 ι) base w parts pv → elemsA sz k parts = some es → (k + parts.length) * sz ≤ vs.size →
    ∃ arr, Instr.fill (fun i => some (i * sz, sz)) vs pv = some arr ∧ arr.size = vs.size ∧ (∀ o, o < k * sz → arr[o]? = vs[o]?) ∧ es.length = parts.length ∧ RepEs (FF F0 ι) w (fun o y => arr[o]? = some y) sz es (k * sz) := by
  intro parts
  induction parts with
  | nil =>
    intro pv k vs es hp he hs
    obtain rfl := hp
    simp only [elemsA, Option.some.injEq] at he; subst he
    exact ⟨vs, rfl, rfl, fun _ _ => rfl, rfl, trivial⟩
  | cons p r ih =>
    intro pv k vs es hp he hs
    obtain ⟨i, x⟩ := p
    obtain ⟨v, qs, rfl, hx, h2⟩ := hp
    simp only [elemsA] at he
    split at he
    · rename_i hik
      subst hik
      split at he
      · rename_i cs e1
        split at he
        · rename_i hcl
          split at he
          · rename_i ds es' e2 e3
            simp only [Option.some.injEq] at he; subst he
            obtain ⟨us, e4, hus, _⟩ := AV.cells_sound hx e1
            have hul : us.length = sz := by rw [hus.length, hcl]
            have e5 : v.cells.toList = us := by rw [e4]
            have e6 : v.cells.size = sz := by rw [e4]; simpa using hul
            have hs' : i * sz + sz ≤ vs.size := by
              refine Nat.le_trans ?_ hs
              rw [show i * sz + sz = (i + 1) * sz by rw [Nat.add_mul, Nat.one_mul]]
              exact Nat.mul_le_mul_right _ (by simp)
            have e7 := foldl_set (i * sz) us 0 vs (by omega)
            have e8 : (v.cells.zipIdx.foldl (fun cs (c, j) => cs.setIfInBounds (i * sz + j) c) vs).toList = vs.toList.take (i * sz) ++ (us ++ vs.toList.drop (i * sz + us.length)) := by
              rw [← Array.foldl_toList, Array.toList_zipIdx, e5]
              simpa using e7
            generalize hg : v.cells.zipIdx.foldl (fun cs (c, j) => cs.setIfInBounds (i * sz + j) c) vs = vs1 at e8
            have hsz : vs1.size = vs.size := by
              have := congrArg List.length e8
              simp at this
              omega
            have hlow : ∀ o, o < i * sz → vs1[o]? = vs[o]? := by
              intro o ho
              rw [← Array.getElem?_toList, e8, List.getElem?_append_left (by simp; omega), List.getElem?_take, if_pos ho, Array.getElem?_toList]
            have hmid : ∀ j u, us[j]? = some u → vs1[i * sz + j]? = some u := by
              intro j u hj
              have hjl := (List.getElem?_eq_some_iff.1 hj).1
              have hl : (vs.toList.take (i * sz)).length = i * sz := by simp; omega
              rw [← Array.getElem?_toList, e8, List.getElem?_append_right (by omega), hl, Nat.add_sub_cancel_left, List.getElem?_append_left hjl, hj]
            have hs2 : (i + 1 + r.length) * sz ≤ vs1.size := by
              rw [hsz]
              simp only [List.length_cons] at hs
              rw [show i + 1 + r.length = i + (r.length + 1) by omega]
              exact hs
            obtain ⟨arr, h3, h4, h5, h6, h7⟩ := ih qs (i + 1) vs1 es' h2 e3 hs2
            have hlt : i * sz ≤ (i + 1) * sz := Nat.mul_le_mul_right _ (by omega)
            have hadd : (i + 1) * sz = i * sz + sz := by rw [Nat.add_mul, Nat.one_mul]
            obtain ⟨g1, g2⟩ := toDs_sound (pr := fun o y => arr[o]? = some y) e2 hus (i * sz) (by
              intro j u hj
              have hjl := (List.getElem?_eq_some_iff.1 hj).1
              rw [h5 _ (by omega)]
              exact hmid j u hj)
            refine ⟨arr, ?_, h4.trans hsz, fun o ho => (h5 o (by omega)).trans (hlow o ho), by simp [h6], ⟨by rw [g1, hcl], g2, ?_⟩⟩
            · simp only [Instr.fill]
              rw [if_neg]
              · rw [hg]; exact h3
              · simp [e6]; omega
            · rw [← hadd]; exact h7
          · cases he
        · cases he
      · cases he
    · cases he
end
end Go.Proofs.Ab
