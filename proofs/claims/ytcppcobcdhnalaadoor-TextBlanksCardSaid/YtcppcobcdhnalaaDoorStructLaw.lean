/- Laws on structs in memory: a struct's variable made, read, written, its cells whatever they are; the world behind it by name. -/
import Derived.WalkKit
import Derived.Carry
import Derived.Laws.Rows
import Derived.Laws.Tables
import Derived.Test.YtcppcobcdhnalaaDoorSetLaw
namespace Go.Proofs.YtcppcobcdhnalaaDoor
open Go Go.RowKit
variable {P : Program} {ops : Array Oper} {o : Oper} {rest : List Oper} {a : Act} {Q : Exit → Act → World → Prop} {w : World}
theorem sl_box (hgd : o.guard = none) (T : TypeId) (x : Operand) (ho : o.op = .box T x) (cs : Array Value) (hx : a.eval x = .agg cs)
    (h : ∀ g w1, Hid (g = w.heap.size) → Hid (w1.heap[g]? = some (.cells cs T (0, 0))) → Below g w w1 → Hid (w1.heap.size = g + 1) → wpList P ops Q rest (a.put o.dst (.pointer (some ⟨g, 0, none⟩))) w1) : wpList P ops Q (o :: rest) a w := by
  refine wpList_plain hgd fun K hK => ?_
  unfold Oper.wp execOp
  simp only [ho, hx, Sem.run_bind, Instr.box, newVar, newRow]
  have e : (w.alloc (.cells cs T)).heap.size = w.heap.size + 1 := by show (w.heap.push _).size = _; simp
  have hk := hK _ _ (h w.heap.size (w.alloc (.cells cs T)) rfl (heap_alloc_new w _) ((Below.refl _ _).alloc (Nat.le_refl _) _) e)
  simpa [Value.cells, Oper.upon_value] using hk
theorem sl_alloc (hgd : o.guard = none) (T : TypeId) (ho : o.op = .alloc T) (cs : Array Value) (hz : ∀ w, (zeroValue T).run P w = .ok (.agg cs) w)
    (h : ∀ g w1, Hid (g = w.heap.size) → Hid (w1.heap[g]? = some (.cells cs T (0, 0))) → Below g w w1 → Hid (w1.heap.size = g + 1) → wpList P ops Q rest (a.put o.dst (.pointer (some ⟨g, 0, none⟩))) w1) : wpList P ops Q (o :: rest) a w := by
  refine wpList_plain hgd fun K hK => ?_
  unfold Oper.wp execOp
  have e : (w.alloc (.cells cs T)).heap.size = w.heap.size + 1 := by show (w.heap.push _).size = _; simp
  have hk := hK _ _ (h w.heap.size (w.alloc (.cells cs T)) rfl (heap_alloc_new w _) ((Below.refl _ _).alloc (Nat.le_refl _) _) e)
  simp only [ho]
  simpa [Instr.alloc, hz, Value.cells, newVar, newRow, Result.andThen, Oper.upon_value] using hk
/-- A block written: it holds the new cells; every other block as it was. -/
def OnlyAt (g : Nat) (w w' : World) : Prop := w'.os = w.os ∧ w'.tape = w.tape ∧ w'.output = w.output ∧ w'.heap.size = w.heap.size ∧ ∀ k, k ≠ g → w'.heap[k]? = w.heap[k]?
theorem OnlyAt.below {g B : Nat} {w0 w w' : World} (h : OnlyAt g w w') (hb : Below B w0 w) (hg : B ≤ g) : Below B w0 w' :=
  hb.trans ⟨h.1, h.2.1, h.2.2.1, by rw [h.2.2.2.1]; exact Nat.le_refl _, fun k hk => h.2.2.2.2 k (by omega)⟩
theorem sl_store (hgd : o.guard = none) (T : TypeId) (x y : Operand) (ho : o.op = .store T x y) (g : Nat) (cs : Array Value) (hx : a.eval x = .pointer (some ⟨g, 0, none⟩)) (hy : a.eval y = .agg cs)
    (t : TypeId) (old : Array Value) (hg : w.heap[g]? = some (.cells old t (0, 0))) (hi : (P.info? T).map (·.size) = some cs.size) (hold : old.size = cs.size) (h1 : cs.all (·.oneCell') = true)
    (h : ∀ w1, Hid (w1.heap[g]? = some (.cells cs t (0, 0))) → OnlyAt g w w1 → wpList P ops Q rest (a.put o.dst undef) w1) : wpList P ops Q (o :: rest) a w :=
  wpList_store_row hgd T x y ho g cs hx hy t old hg hi hold h1 (h _ (setRow_heap w g old cs t (0, 0) hg) ⟨rfl, rfl, rfl, by simp, fun k hk => setRow_other w g k cs hk⟩)
theorem sl_load (hgd : o.guard = none) (T : TypeId) (x : Operand) (ho : o.op = .load T x) (g : Nat) (hx : a.eval x = .pointer (some ⟨g, 0, none⟩)) (t : TypeId) (cs : Array Value) (fr : Nat × Nat) (d : TypeDesc) (hg : w.heap[g]? = some (.cells cs t fr))
    (hu : P.underlying T = some d) (hd : (match d with | .struct _ | .array _ _ => true | _ => false) = true) (hi : (P.info? T).map (·.size) = some cs.size)
    (h : wpList P ops Q rest (a.put o.dst (.agg cs)) w) : wpList P ops Q (o :: rest) a w :=
  wpList_load_row hgd T x ho g hx t cs fr d hg hu hd hi h
theorem sl_makeMap (hgd : o.guard = none) (T : TypeId) (ho : o.op = .makeMap T none)
    (h : ∀ g w1, Hid (g = w.heap.size) → SetIs w1 g [] → Below g w w1 → Hid (w1.heap.size = g + 1) → wpList P ops Q rest (a.put o.dst (.map (some g))) w1) : wpList P ops Q (o :: rest) a w := by
  refine wpList_plain hgd fun K hK => ?_
  unfold Oper.wp execOp
  have e : (w.alloc (.map #[] 0)).heap.size = w.heap.size + 1 := by show (w.heap.push _).size = _; simp
  have hk := hK _ _ (h w.heap.size (w.alloc (.map #[] 0)) rfl (SetIs.empty (heap_alloc_new w _)) ((Below.refl _ _).alloc (Nat.le_refl _) _) e)
  simp only [ho]
  simpa [run_makeMap, Result.andThen, Oper.upon_value] using hk
theorem at_dst {N : Tmp} (_h : o.dst = some N) (k : wpList P ops Q (o :: rest) a w) : wpList P ops Q (o :: rest) a w := k
theorem at_store {T : TypeId} {x y : Operand} (_h : o.op = .store T x y) (k : wpList P ops Q (o :: rest) a w) : wpList P ops Q (o :: rest) a w := k
/-- All blocks as they were, but two; none has gone. -/
structure But2 (x y : Nat) (w w' : World) : Prop where
  os : w'.os = w.os
  tape : w'.tape = w.tape
  output : w'.output = w.output
  size : w.heap.size ≤ w'.heap.size
  block : ∀ k, k < w.heap.size → k ≠ x → k ≠ y → w'.heap[k]? = w.heap[k]?
theorem But2.refl (x y : Nat) (w : World) : But2 x y w w := ⟨rfl, rfl, rfl, Nat.le_refl _, fun _ _ _ _ => rfl⟩
theorem But2.trans {x y : Nat} {a b c : World} (h : But2 x y a b) (k : But2 x y b c) : But2 x y a c :=
  ⟨k.os.trans h.os, k.tape.trans h.tape, k.output.trans h.output, Nat.le_trans h.size k.size, fun i hi h1 h2 => (k.block i (Nat.lt_of_lt_of_le hi h.size) h1 h2).trans (h.block i hi h1 h2)⟩
theorem But2.of_below {x y : Nat} {w w' : World} (h : Below w.heap.size w w') : But2 x y w w' := ⟨h.os, h.tape, h.output, h.size, fun k hk _ _ => h.block k hk⟩
theorem But2.setCell {x y : Nat} {a w : World} (h : But2 x y a w) (p : Addr) (hp : p.block = x ∨ p.block = y) (u : Value) : But2 x y a (w.setCell p u) :=
  h.trans ⟨rfl, rfl, rfl, by simp [World.setCell], fun k _ h1 h2 => Below.heap_setCell _ _ _ _ (by rcases hp with e | e <;> omega)⟩
theorem But2.below {x y B : Nat} {w0 w w' : World} (h : But2 x y w w') (hb : Below B w0 w) (hx : B ≤ x) (hy : B ≤ y) (hB : B ≤ w.heap.size) : Below B w0 w' :=
  hb.trans ⟨h.os, h.tape, h.output, h.size, fun k hk => h.block k (by omega) (by omega) (by omega)⟩
theorem results_cell_two {fn : Func} {p q r : Tmp} {ty : TypeId} (h : fn.results = #[.cell p ty, .tmp q, .tmp r]) (tmps : Array Value) (w : World) (g : Nat) (t : TypeId) (cs : Array Value) (fr : Nat × Nat) (d : TypeDesc) (v1 v2 : Value)
    (hp : tmps.getD p undef = .pointer (some ⟨g, 0, none⟩)) (h1 : tmps.getD q undef = v1) (h2 : tmps.getD r undef = v2) (hg : w.heap[g]? = some (.cells cs t fr))
    (hu : P.underlying ty = some d) (hd : (match d with | .struct _ | .array _ _ => true | _ => false) = true) (hi : (P.info? ty).map (·.size) = some cs.size) :
    (results fn tmps).run P w = .ok (.tuple #[.agg cs, v1, v2]) w := by
  have hp' : tmps[p]?.getD undef = .pointer (some ⟨g, 0, none⟩) := by simpa using hp
  have h1' : tmps[q]?.getD undef = v1 := by simpa using h1
  have h2' : tmps[r]?.getD undef = v2 := by simpa using h2
  simp [results, h, hp', h1', h2', asAddr, run_loadVar_row w g t ty cs fr d hg hu hd hi, Result.andThen]
theorem sl_build (hgd : o.guard = none) (T : TypeId) (parts : Array (Nat × Operand)) (ho : o.op = .build T parts) (cs : Array Value) (hc : P.built T (parts.map fun (i, x) => (i, a.eval x)).toList = some cs)
    (h : wpList P ops Q rest (a.put o.dst (.agg cs)) w) : wpList P ops Q (o :: rest) a w := by
  refine wpList_build hgd T parts ho (by rw [hc]; rfl) ?_
  rw [hc]
  exact h
/-- A struct read where a guard stands ahead of it. -/
theorem sl_loadg (hw : Region.wanted o (yielded ops a.tmps) = true) (T : TypeId) (x : Operand) (ho : o.op = .load T x) (g : Nat) (hx : a.eval x = .pointer (some ⟨g, 0, none⟩)) (t : TypeId) (cs : Array Value) (fr : Nat × Nat) (d : TypeDesc) (hg : w.heap[g]? = some (.cells cs t fr))
    (hu : P.underlying T = some d) (hd : (match d with | .struct _ | .array _ _ => true | _ => false) = true) (hi : (P.info? T).map (·.size) = some cs.size)
    (h : wpList P ops Q rest (a.put o.dst (.agg cs)) w) : wpList P ops Q (o :: rest) a w := by
  rw [wpList, if_pos hw]
  exact .inl (wp_load_row T x ho g hx t cs fr d hg hu hd hi h)
end Go.Proofs.YtcppcobcdhnalaaDoor
