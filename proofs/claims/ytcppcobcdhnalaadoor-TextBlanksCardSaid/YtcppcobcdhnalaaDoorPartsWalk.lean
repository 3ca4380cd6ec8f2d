/- The settings' parts, walked: where they stand; a part set. -/
import Derived.Test.YtcppcobcdhnalaaDoorTextLaw
import Derived.Test.YtcppcobcdhnalaaDoorEnv
import Derived.Outline
import Derived.Test.YtcppcobcdhnalaaDoorRegion
import Derived.Deep.Light
import Derived.Deep.QuietTactic
import Derived.BigQuiet
import Derived.Lib.Builder
namespace Go.Proofs.YtcppcobcdhnalaaDoor
open Go.RowKit Go.Proofs.YtcppcobcdhnalaaDoor.PT
theorem heap_new1 (w : World) (o : Obj) : (w.alloc o).heap[w.heap.size]? = some o := by
  show (w.heap.push o)[w.heap.size]? = some o
  simp
theorem one_world (w : World) (o : Obj) (n m q : Nat) : ((((w.drew.drewN n).alloc o).drewN m).drewN q).heap[w.heap.size]? = some o ∧ Below w.heap.size w ((((w.drew.drewN n).alloc o).drewN m).drewN q) := by
  constructor
  · show (w.heap.push o)[w.heap.size]? = some o
    simp
  · refine ⟨rfl, rfl, rfl, ?_, fun k hk => ?_⟩
    · show w.heap.size ≤ (w.heap.push o).size
      rw [Array.size_push]
      omega
    · show (w.heap.push o)[k]? = w.heap[k]?
      rw [Array.getElem?_push, if_neg (by omega)]
def ptrTy (k : Nat) : Nat := if thin k then 71 else 74
def ptrAt (b k : Nat) : Value := .iface (ptrTy k) (.pointer (some ⟨b, k, none⟩))
def ptrCells (b : Nat) : Array Value := ((List.range 20).flatMap fun k => [Value.string ⟨(nameOf k).toArray⟩, ptrAt b k]).toArray
set_option maxRecDepth 100000 in
set_option maxHeartbeats 4000000 in
theorem parts_any (b : Nat) (w : World) : Calls Tryd.prog 25 #[.pointer (some ⟨b, 0, none⟩)] w fun e w' => e = .returned (.slice (some ⟨w.heap.size, 0, none⟩) 20 20) ∧ w'.heap[w.heap.size]? = some (.cells (ptrCells b) 51 (0, 0)) ∧ Below w.heap.size w w' := by
  go_enter Tryd.func25, Tryd.ntmps25
  go_wp2_with fail
  simp only [List.append_eq, List.cons_append, List.nil_append]
  refine Det.region [100, 101] (by kernel_rfl) (by kernel_rfl) (fun _ => True) (fun W n h => h) trivial ?c ?q ?t
  case q =>
    rintro W _
    go_light
    repeat (refine Det.keep rfl ?_; go_big_quiet_step (fail))
    refine Det.skip rfl (Det.skip rfl ?_)
    refine Det.stop (wpQuiet_nil ?_)
    exact rfl
  case t =>
    refine Det.one (t1 := 100) rfl (by kernel_rfl) (v := .slice (some ⟨w.heap.size, 0, none⟩) 20 20) (w' := fun n => (w.drew.drewN n).alloc (.cells (ptrCells b) 51)) (fun n => ?_) (fun n => trivial) (fun n => ?_)
    · go_light
      go_simp
      rfl
    refine Det.one (t1 := 101) rfl (by kernel_rfl) (v := .slice (some ⟨w.heap.size, 0, none⟩) 20 20) (w' := fun m => ((w.drew.drewN n).alloc (.cells (ptrCells b) 51)).drewN m) (fun m => by kernel_rfl) (fun m => trivial) (fun m => ?_)
    refine Det.none_left (fun q => ?_)
    go_wp2_with fail
    go_ret
    exact ⟨rfl, (one_world w _ n m q).1, (one_world w _ n m q).2⟩
/-- What stays of a memory in which a number is put. -/
def Put (w w' : World) (a : Addr) (r : Option Int) : Prop := ∃ wm, Below w.heap.size w wm ∧ w' = (match r with | some n => wm.setCell a (.int .i64 n) | none => wm)
set_option maxHeartbeats 4000000 in
theorem set_any (nm v : ByteArray) (b k : Nat) (old : Int) (w : World) (hE : Env w) (hv : small v) (hc : w.cell? ⟨b, k, none⟩ = some (.int .i64 old)) (hf : w.frozen? ⟨b, k, none⟩ = false) (hb : b < w.heap.size) :
    Calls Tryd.prog 26 #[.agg #[.string nm, ptrAt b k], .string v] w fun e w' => e = .returned (.bool (readP k (bsOf v)).isSome) ∧ Put w w' ⟨b, k, none⟩ (readP k (bsOf v)) := by
  have ta1 : ∀ (a : Addr) (w : World), (Instr.typeAssert (.iface 71 (.pointer (some a))) 20 71 true).run Tryd.prog w = .ok (.tuple #[.pointer (some a), .bool true]) w := fun _ _ => by kernel_rfl
  have ta2 : ∀ (a : Addr) (w : World), (Instr.typeAssert (.iface 74 (.pointer (some a))) 20 71 true).run Tryd.prog w = .ok (.tuple #[.pointer none, .bool false]) w := fun _ _ => by kernel_rfl
  have ta3 : ∀ (a : Addr) (w : World), (Instr.typeAssert (.iface 74 (.pointer (some a))) 20 74 false).run Tryd.prog w = .ok (.pointer (some a)) w := fun _ _ => by kernel_rfl
  unfold ptrAt ptrTy
  by_cases ht : thin k = true
  · rw [if_pos ht]
    have hr : readP k (bsOf v) = numberP (bsOf v) := by unfold readP; rw [if_pos ht]
    rw [hr]
    clear hr ht
    obtain ⟨kq, hn⟩ := num_law v hv
    cases hp : numberP (bsOf v) with
    | none =>
      rw [hp] at hn
      have HN := Lib.hid hn
      clear hn hp
      go_enter Tryd.func26, Tryd.ntmps26
      go_wp2_with fail
      refine (text_Number.calls kq v _ _ _ ?hE1 HN.out).mono ?_
      case hE1 => exact hE.step ((Below.refl _ _).alloc (Nat.le_refl _) _)
      rintro e w1 ⟨rfl, hb1⟩
      have hsz := hb1.size
      go_wp2_with fail
      go_ret
      refine ⟨rfl, _, ?_, rfl⟩
      exact ((Below.refl _ _).alloc (Nat.le_refl _) _).trans (hb1.mono (by simp))
    | some n =>
      rw [hp] at hn
      have HN := Lib.hid hn
      clear hn hp
      go_enter Tryd.func26, Tryd.ntmps26
      go_wp2_with fail
      refine (text_Number.calls kq v _ _ _ ?hE2 HN.out).mono ?_
      case hE2 => exact hE.step ((Below.refl _ _).alloc (Nat.le_refl _) _)
      rintro e w1 ⟨rfl, hb1⟩
      have hb2 : Below w.heap.size w w1 := ((Below.refl _ _).alloc (Nat.le_refl _) _).trans (hb1.mono (by simp))
      have hc1 : w1.cell? ⟨b, k, none⟩ = some (.int .i64 old) := (hb2.cell (by exact hb)).trans hc
      have hf1 : w1.frozen? ⟨b, k, none⟩ = false := (hb2.frozen (by exact hb)).trans hf
      have HB2 := Lib.hid hb2
      clear hb2 hb1
      go_wp2_with fail
      go_ret
      exact ⟨rfl, _, HB2.out, rfl⟩
  · rw [if_neg ht]
    have hr : readP k (bsOf v) = (digitsP (bsOf v) 6).map fun n => (n : Int) := by unfold readP; rw [if_neg ht]
    rw [hr]
    clear hr ht
    have hn := digits_law v 6 (by decide) hv
    have z6 : ((6 : Nat) : Int) = 6 := rfl
    rw [z6] at hn
    clear z6
    cases hp : digitsP (bsOf v) 6 with
    | none =>
      rw [hp] at hn
      have HN := Lib.hid hn
      clear hn hp
      go_enter Tryd.func26, Tryd.ntmps26
      go_wp2_with fail
      refine (text_digits.calls v 6 _ _ _ HN.out).mono ?_
      rintro e w1 ⟨rfl, hb1⟩
      have hb2 : Below w.heap.size w w1 := ((Below.refl _ _).alloc (Nat.le_refl _) _).trans (hb1.mono (by simp))
      have HB2 := Lib.hid hb2
      clear hb2 hb1
      go_wp2_with fail
      go_ret
      exact ⟨rfl, _, HB2.out, rfl⟩
    | some n =>
      rw [hp] at hn
      have HN := Lib.hid hn
      clear hn hp
      go_enter Tryd.func26, Tryd.ntmps26
      go_wp2_with fail
      refine (text_digits.calls v 6 _ _ _ HN.out).mono ?_
      rintro e w1 ⟨rfl, hb1⟩
      have hb2 : Below w.heap.size w w1 := ((Below.refl _ _).alloc (Nat.le_refl _) _).trans (hb1.mono (by simp))
      have hc1 : w1.cell? ⟨b, k, none⟩ = some (.int .i64 old) := (hb2.cell (by exact hb)).trans hc
      have hf1 : w1.frozen? ⟨b, k, none⟩ = false := (hb2.frozen (by exact hb)).trans hf
      have hq : w1.cell? ⟨w.heap.size, 1, none⟩ = some (.iface 74 (.pointer (some ⟨b, k, none⟩))) := (hb1.cell (p := ⟨w.heap.size, 1, none⟩) (by simp)).trans (by rw [Lib.cell_of_heap (heap_new1 w _)]; rfl)
      have HB2 := Lib.hid hb2
      clear hb2 hb1
      go_wp2_with fail
      go_ret
      exact ⟨rfl, _, HB2.out, rfl⟩
end Go.Proofs.YtcppcobcdhnalaaDoor
