/- A part of the proof of the law: it holds for all states of the abstract kind told in the first of these texts; no condition besides those its statements name. -/
import Derived.Test.YtkpnoifnfoijbaaAbA9
import Derived.Laws.MakeOwn
namespace Go.Proofs.Ab
open Go Go.RowKit
set_option linter.unusedVariables false
set_option linter.unusedSimpArgs false

/-- The operations that write nothing that was there. -/
def calm (P : Program) (tt : TypeId → Option TI) (et : TypeId → Bool) (o : Oper) (ev : Operand → AV) (full : Nat → Option Ob) (K : AV → Option Ob → Prop) : Prop :=
  match o.op with
  | .move x => K (ev x) none
  | .assign x => K (ev x) none
  | .pick c x y => ∃ q, ev c = .d (.v (.bool q)) ∧ K (if q then ev x else ev y) none
  | .box _ x => ∃ cs d, (ev x).cells = some cs ∧ o.dst = some d ∧ K (.pt d 0) (some (.var cs))
  | .alloc t => ∃ i d, tt t = some i ∧ o.dst = some d ∧ K (.pt d 0) (some (.var (i.zeros.map fun x => .d (.v x))))
  | .load t x => ∃ i v, tt t = some i ∧ loadA full i (ev x) = some v ∧ K v none
  | .fieldAddr t x f => ∃ i p v, tt t = some i ∧ fieldA tt i f = some p ∧ fieldAddrA p.1 (ev x) = some v ∧ K v none
  | .field t x f => ∃ i p cs v, tt t = some i ∧ fieldA tt i f = some p ∧ ev x = .ag cs ∧ pick p.2 (cs.drop p.1) = some v ∧ K v none
  | .indexAddr t x ix => ∃ e ei k m, tt t = some (.sl e) ∧ tt e = some ei ∧ ev ix = .d (.v (.int k m)) ∧ 0 ≤ m ∧ idxA ei.size (ev x) m.toNat fun v => K v none
  | .index t x ix => ∃ k m, tt t = some .str ∧ ev ix = .d (.v (.int k m)) ∧ 0 ≤ m ∧ strIdxA (ev x) m.toNat fun v => K v none
  | .slice t x lo hi mx => ∃ i, tt t = some i ∧
      CutOk tt i (ev x) ∧
      (match mx with
       | none => cutA (ev x) (lo.map ev) (hi.map ev) false fun v => K v none
       | some m => ∃ h k q, hi = some h ∧ ev h = .d (.v (.int k q)) ∧ ev m = .d (.v (.int k q)) ∧ cutA (ev x) (lo.map ev) (hi.map ev) true fun v => K v none)
  | .binOp op t x y _ => binA op (ev x) (ev y) (fun v => K v none) ∨
      (∃ i neq, tt t = some i ∧ op = (if neq then .neq else .eql) ∧ eqA et t i neq (ev x) (ev y) fun v => K v none)
  | .unOp op _ x => unA op (ev x) fun v => K v none
  | .convert s t x => ∃ i k k' m q, tt s = some i ∧ tt t = some (.ik k q) ∧ ev x = .d (.v (.int k' m)) ∧ K (.d (.v (.int k (k.wrap m)))) none
  | .build t parts => ∃ sz b fs zs out, tt t = some (.st sz b fs zs) ∧ fs.all (fun p => (tt p.2).isSome) = true ∧ fillA (placeA tt (.st sz b fs zs)) (zs.map fun x => .d (.v x)) (parts.toList.map fun p => (p.1, ev p.2)) = some out ∧ K (.ag out) none
  | .buildSlice t len parts => ∃ e ei es d, tt t = some (.sl e) ∧ tt e = some ei ∧ o.dst = some d ∧ parts.toList.length = len ∧ len * ei.size ≤ 16777216 ∧ elemsA ei.size 0 (parts.toList.map fun p => (p.1, ev p.2)) = some es ∧ K (.ms d ei.size 0 len) (some (.arr ei.size es))
  | .makeSlice t l c => ∃ e ei k k' m d, tt t = some (.sl e) ∧ tt e = some ei ∧ o.dst = some d ∧ ev l = .d (.v (.int k m)) ∧ ev c = .d (.v (.int k' m)) ∧ 0 ≤ m ∧ m * ei.bytes ≤ 140737488355328 ∧ m ≤ 9223372036854775807 ∧ ei.size ≠ 0 ∧
      K (.ms d ei.size 0 m.toNat) (some (.arr ei.size (List.replicate m.toNat (ei.zeros.map .v))))
  | .makeFunc fn first caps => ∃ f, fn = .func f ∧ first = #[] ∧ K (.cl f (caps.toList.map ev)) none
  | .nilCheck x => (match ev x with | .pt _ _ => True | .pe _ _ _ _ => True | .bp _ => True | .d (.rp _) => True | .cl _ _ => True | _ => False) ∧ K (ev x) none
  | .extract x i => ∃ vs v, ev x = .tp vs ∧ vs[i]? = some v ∧ K v none
  | .call c => match c.callee with
    | .value f => ∃ g caps xs args r, ev f = .cl g caps ∧ passL full (c.args.toList.map ev ++ caps) = some xs ∧ LeL xs args ∧ Good P g args r ∧ K r none
    | .builtin .len => ∃ t x i, c.argTypes = #[t] ∧ c.args = #[x] ∧ tt t = some i ∧
        LenOk i (ev x) ∧ lenA (ev x) fun m => K (.d (.v (.int .i64 m))) none
    | .builtin .min => ∃ x y k m k' m', c.args = #[x, y] ∧ ev x = .d (.v (.int k m)) ∧ ev y = .d (.v (.int k' m')) ∧ k = k' ∧ K (.d (.v (.int k (if m' < m then m' else m)))) none
    | .builtin .max => ∃ x y k m k' m', c.args = #[x, y] ∧ ev x = .d (.v (.int k m)) ∧ ev y = .d (.v (.int k' m')) ∧ k = k' ∧ K (.d (.v (.int k (if m < m' then m' else m)))) none
    | _ => False
  | _ => False

def updE (ev : Nat → AV) (d : Option Nat) (x : AV) : Nat → AV := match d with | some d => fun t => if t = d then x else ev t | none => ev
/-- What stands behind a calm operation. -/
def After (n base : Nat) (w0 : World) (F0 : Nat → Nat → Prop) (ι : Nat → Option Nat) (full : Nat → Option Ob) (ev : Nat → AV) (dst : Option Nat) (x : AV) (ob : Option Ob) (a' : Act) (w' : World) : Prop :=
  match ob with
  | none => Core n base w0 F0 ι full (updE ev dst x) a' w'
  | some oo => ∃ d b, dst = some d ∧ ∀ full' : Nat → Option Ob, (∀ j b, ι j = some b → full' j = full j) → full' d = some oo → Core n base w0 F0 (upd ι d b) full' (updE ev dst x) a' w'

section
variable {P : Program} {n base : Nat} {w0 : World} {F0 : Nat → Nat → Prop} {ι : Nat → Option Nat} {full : Nat → Option Ob} {ev : Nat → AV} {a : Act} {w : World}
theorem Core.putO (hc : Core n base w0 F0 ι full ev a w) {dst : Option Nat} (hd : ∀ d, dst = some d → d < n) {x : AV} {v : Value} (hx : RepA ι (FF F0 ι) base w x v) : Core n base w0 F0 ι full (updE ev dst x) (a.put dst v) w := by
  cases dst with
  | none => exact hc
  | some d => exact hc.put (hd d rfl) hx
/-- An operation that yields a value and leaves the world. -/
theorem fin_val (hc : Core n base w0 F0 ι full ev a w) {o : Oper} (hd : ∀ d, o.dst = some d → d < n) {x : AV} {u : Value} {s : Sem Value} (he : execOp a.eval o = (do pure (.value (← s)))) (hs : s.run P w = .ok u w) (hx : RepA ι (FF F0 ι) base w x u)
    {next : Act → World → Prop} {Q : Exit → Act → World → Prop} (hn : ∀ a' w', After n base w0 F0 ι full ev o.dst x none a' w' → next a' w') : o.wp P a w next Q := by
  unfold Oper.wp
  rw [he]
  simp only [Sem.run_bind, hs, Result.andThen_ok, Sem.run_pure, Oper.upon_value]
  exact hn _ _ (hc.putO hd hx)
/-- An operation that yields a new variable. -/
theorem fin_new (hc : Core n base w0 F0 ι full ev a w) {o : Oper} {d : Nat} (hdst : o.dst = some d) (hd : d < n) (hf : ι d = none) {x : AV} {u : Value} {s : Sem Value} {c : Array Value} {T : TypeId} {ob : Ob}
    (he : execOp a.eval o = (do pure (.value (← s)))) (hs : s.run P w = .ok u (w.alloc (.cells c T)))
    (ho : ObNew ι (FF F0 ι) base w c ob)
    (hx : RepA (upd ι d w.heap.size) (FF F0 (upd ι d w.heap.size)) base (w.alloc (.cells c T)) x u)
    {next : Act → World → Prop} {Q : Exit → Act → World → Prop} (hn : ∀ a' w', After n base w0 F0 ι full ev o.dst x (some ob) a' w' → next a' w') : o.wp P a w next Q := by
  unfold Oper.wp
  rw [he]
  simp only [Sem.run_bind, hs, Result.andThen_ok, Sem.run_pure, Oper.upon_value]
  refine hn _ _ ⟨d, w.heap.size, hdst, fun full' h1 h2 => ?_⟩
  rw [hdst]
  exact hc.new hf hd h1 h2 ho hx
/-- A call. -/
theorem fin_call (hc : Core n base w0 F0 ι full ev a w) {o : Oper} (hd : ∀ d, o.dst = some d → d < n) {g : FuncId} {xs args : List AV} {vs : List Value} {r : AV} (hg : Good P g args r) (hl : LeL xs args)
    (hr : RepL none' (FF F0 ι) w.heap.size w xs vs) (he : (execOp a.eval o).run P w = .ok (.enter g vs.toArray) w)
    {next : Act → World → Prop} {Q : Exit → Act → World → Prop} (hn : ∀ a' w', After n base w0 F0 ι full ev o.dst r none a' w' → next a' w') : o.wp P a w next Q := by
  unfold Oper.wp
  rw [he]
  rw [Oper.upon_enter]
  refine (hg.2 w (FF F0 ι) vs ?_ (hl.sound hr)).mono ?_
  · rintro b o (h | ⟨id, h⟩)
    · exact Nat.lt_of_lt_of_le (hc.lowF b o h) hc.size
    · exact (hc.low _ _ h).2
  · rintro e w' ⟨v, rfl, hb, hv⟩
    exact hn _ _ ((hc.later hb).putO hd hv.back)

theorem convert_run {tt : TypeId → Option TI} (htt : TOK P tt) {s t : TypeId} {i : TI} {k k' : IntKind} {m : Int} {q : Nat} (hs : tt s = some i) (ht : tt t = some (.ik k q)) : (convert s t (.int k' m)).run P w = .ok (.int k (k.wrap m)) w := by
  obtain ⟨d, h1, _⟩ := (htt _ _ hs).under
  have h2 : P.underlying t = some (.int k) := (htt _ _ ht).2
  simp [convert, run_underlying h1, run_underlying h2, Conv.intToInt]
theorem run_min2 (ts : Array TypeId) (t : TypeId) (k : IntKind) (x y : Int) : (Builtin.min_ ts t #[.int k x, .int k y]).run P w = .ok (.int k (if y < x then y else x)) w := by
  simp [Builtin.min_, Builtin.min2]
theorem run_max2 (ts : Array TypeId) (t : TypeId) (k : IntKind) (x y : Int) : (Builtin.max_ ts t #[.int k x, .int k y]).run P w = .ok (.int k (if x < y then y else x)) w := by
  simp [Builtin.max_, Builtin.max2]
end
end Go.Proofs.Ab
