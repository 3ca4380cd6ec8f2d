import Derived.Test.YtcppcobcdhnalaaDoorProg
import Derived.Test.YtcppcobcdhnalaaDoorConfPure
import Derived.WalkKit
import Derived.Outline
import Derived.Deep.QuietTactic
import Derived.BigQuiet
import Derived.Lib.Hide
import Derived.Deep.Light
import Derived.Deep.DeepCutAuto
import Derived.Deep.CutBlock
import Derived.Test.YtcppcobcdhnalaaDoorTextPure
import Derived.Test.YtcppcobcdhnalaaDoorRegion
namespace Go.Proofs.YtcppcobcdhnalaaDoor
open Go.RowKit
def confA (c : Conf) : Array Value := #[.int .i64 c.target, .int .i64 c.util, .int .i64 c.stable, .int .i64 c.panic, .int .i64 c.grain, .int .i64 c.threshold, .int .i64 c.up, .int .i64 c.down, .int .i64 c.min, .int .i64 c.max, .int .i64 c.initial, .int .i64 c.grace, .int .i64 c.delay, .int .i64 c.burst, .int .i64 c.limit, .int .i64 c.queue, .int .i64 c.timeout, .int .i64 c.ready, .int .i64 c.subset, .int .i64 c.sample]
theorem inB_cases (n lo hi : Int) : (inB n lo hi = false ∧ n < lo) ∨ (lo ≤ n ∧ inB n lo hi = decide (n ≤ hi)) := by
  unfold inB
  by_cases h : lo ≤ n
  · exact .inr ⟨h, by simp [h]⟩
  · exact .inl ⟨by simp [h], by omega⟩
theorem within_long (n lo hi : Int) (w : World) : Calls Tryd.prog 65 #[.iface 2 (.int .i64 n), .int .i64 lo, .int .i64 hi] w fun e w' => e = .returned (.bool (inB n lo hi)) ∧ w = w' := by
  have t1 : ∀ (w : World), (Instr.typeAssert (.iface 2 (.int .i64 n)) 20 2 true).run Tryd.prog w = .ok (.tuple #[.int .i64 n, .bool true]) w := fun _ => by kernel_rfl
  rcases inB_cases n lo hi with ⟨e, h⟩ | ⟨h, e⟩
  · rw [e]
    have h1 : decide (lo ≤ n) = false := by simpa using h
    clear e h
    go_enter Tryd.func65, Tryd.ntmps65
    go_wp2
    go_ret
    exact ⟨rfl, rfl⟩
  · rw [e]
    have h1 : decide (lo ≤ n) = true := by simpa using h
    clear e h
    go_enter Tryd.func65, Tryd.ntmps65
    go_wp2
    go_ret
    exact ⟨rfl, rfl⟩
theorem within_int (n lo hi : Int) (w : World) : Calls Tryd.prog 65 #[.iface 3 (.int .i64 n), .int .i64 lo, .int .i64 hi] w fun e w' => e = .returned (.bool (inB n lo hi)) ∧ w = w' := by
  have t1 : ∀ (w : World), (Instr.typeAssert (.iface 3 (.int .i64 n)) 20 2 true).run Tryd.prog w = .ok (.tuple #[.int .i64 0, .bool false]) w := fun _ => by kernel_rfl
  have t2 : ∀ (w : World), (Instr.typeAssert (.iface 3 (.int .i64 n)) 20 3 true).run Tryd.prog w = .ok (.tuple #[.int .i64 n, .bool true]) w := fun _ => by kernel_rfl
  rcases inB_cases n lo hi with ⟨e, h⟩ | ⟨h, e⟩
  · rw [e]
    have h1 : decide (lo ≤ n) = false := by simpa using h
    clear e h
    go_enter Tryd.func65, Tryd.ntmps65
    go_wp2
    go_ret
    exact ⟨rfl, rfl⟩
  · rw [e]
    have h1 : decide (lo ≤ n) = true := by simpa using h
    clear e h
    go_enter Tryd.func65, Tryd.ntmps65
    go_wp2
    go_ret
    exact ⟨rfl, rfl⟩

theorem within_q (t : Nat) (ht : t = 2 ∨ t = 3) (n lo hi : Int) (w : World) : Calls Tryd.prog 65 #[.iface t (.int .i64 n), .int .i64 lo, .int .i64 hi] w fun e w' => e = .returned (.bool (inB n lo hi)) ∧ w' = w := by
  rcases ht with rfl | rfl
  · exact (within_long n lo hi w).mono fun _ _ h => ⟨h.1, h.2.symm⟩
  · exact (within_int n lo hi w).mono fun _ _ h => ⟨h.1, h.2.symm⟩
def ConfCells (c : Conf) (b : Nat) (W : World) : Prop := W.cell? ⟨b, 0, none⟩ = some (.int .i64 c.target) ∧ W.cell? ⟨b, 1, none⟩ = some (.int .i64 c.util) ∧ W.cell? ⟨b, 2, none⟩ = some (.int .i64 c.stable) ∧ W.cell? ⟨b, 3, none⟩ = some (.int .i64 c.panic) ∧ W.cell? ⟨b, 4, none⟩ = some (.int .i64 c.grain) ∧ W.cell? ⟨b, 5, none⟩ = some (.int .i64 c.threshold) ∧ W.cell? ⟨b, 6, none⟩ = some (.int .i64 c.up) ∧ W.cell? ⟨b, 7, none⟩ = some (.int .i64 c.down) ∧ W.cell? ⟨b, 8, none⟩ = some (.int .i64 c.min) ∧ W.cell? ⟨b, 9, none⟩ = some (.int .i64 c.max) ∧ W.cell? ⟨b, 10, none⟩ = some (.int .i64 c.initial) ∧ W.cell? ⟨b, 11, none⟩ = some (.int .i64 c.grace) ∧ W.cell? ⟨b, 12, none⟩ = some (.int .i64 c.delay) ∧ W.cell? ⟨b, 13, none⟩ = some (.int .i64 c.burst) ∧ W.cell? ⟨b, 14, none⟩ = some (.int .i64 c.limit) ∧ W.cell? ⟨b, 15, none⟩ = some (.int .i64 c.queue) ∧ W.cell? ⟨b, 16, none⟩ = some (.int .i64 c.timeout) ∧ W.cell? ⟨b, 17, none⟩ = some (.int .i64 c.ready) ∧ W.cell? ⟨b, 18, none⟩ = some (.int .i64 c.subset) ∧ W.cell? ⟨b, 19, none⟩ = some (.int .i64 c.sample)
theorem confCells_of (c : Conf) (b t : Nat) (W : World) (h : W.heap[b]? = some (.cells (confA c) t (0, 0))) : ConfCells c b W := by
  unfold ConfCells
  simp only [World.cell?, h]
  exact ⟨rfl, rfl, rfl, rfl, rfl, rfl, rfl, rfl, rfl, rfl, rfl, rfl, rfl, rfl, rfl, rfl, rfl, rfl, rfl, rfl⟩
theorem heap_new (w : World) (o : Obj) : (w.alloc o).heap[w.heap.size]? = some o := by
  show (w.heap.push o)[w.heap.size]? = some o
  simp
theorem parts_world (w : World) (o1 o2 : Obj) (n m q : Nat) : (((((w.alloc o1).drew.drewN n).alloc o2).drewN m).drewN q).heap[w.heap.size + 1]? = some o2 ∧ Below w.heap.size w (((((w.alloc o1).drew.drewN n).alloc o2).drewN m).drewN q) := by
  constructor
  · show ((w.heap.push o1).push o2)[w.heap.size + 1]? = some o2
    rw [Array.getElem?_push, if_pos (by rw [Array.size_push])]
  · refine ⟨rfl, rfl, rfl, ?_, fun k hk => ?_⟩
    · show w.heap.size ≤ ((w.heap.push o1).push o2).size
      rw [Array.size_push, Array.size_push]
      omega
    · show ((w.heap.push o1).push o2)[k]? = w.heap[k]?
      rw [Array.getElem?_push, if_neg (by rw [Array.size_push]; omega), Array.getElem?_push, if_neg (by omega)]
theorem oks_eq (c : Conf) (top : Int) (a b : Bool) (h1 : top = if c.max = 0 then 100 else c.max) (ha : a = (c.max == 0 || inB c.max (if 1 ≤ c.min then c.min else 1) 100)) (hb : b = (c.burst == -1000 || inB c.burst 0 100000000)) :
    [inB c.target 10 1000000, inB c.util 100 1000, inB c.stable 6 600, inB c.panic 1 c.stable, inB c.grain 1 c.panic, inB c.threshold 1100 10000, inB c.up 1001 1000000, inB c.down 1001 1000000, inB c.min 0 100, a, inB c.initial 0 top, inB c.grace 0 600, inB c.delay 0 600, b, inB c.limit 1 1000, inB c.queue 0 200, inB c.timeout 1 10000, inB c.ready 0 100, inB c.subset 0 100, inB c.sample 0 100].all id = c.may := by
  subst h1 ha hb
  rfl
def partCells (okl : List Bool) : Array Value := ((names.zip okl).flatMap fun p => [Value.string ⟨p.1.toArray⟩, Value.bool p.2]).toArray
/-- The parts, each its name and whether it may be, in a row of the call's own. -/
def PartsAt (c : Conf) (w wc : World) (v : Value) : Prop :=
  ∃ b okl, v = .slice (some ⟨b, 0, none⟩) 20 20 ∧ okl.length = 20 ∧ okl.all id = c.may ∧ wc.heap[b]? = some (.cells (partCells okl) 99 (0, 0)) ∧ w.heap.size ≤ b ∧ Below w.heap.size w wc
theorem names_len : names.length = 20 := rfl
theorem cell_part (okl : List Bool) (h : okl.length = 20) (w : World) (b : Nat) (hb : w.heap[b]? = some (.cells (partCells okl) 99 (0, 0))) (k : Nat) (hk : k < 20) :
    w.cell? ⟨b, k * 2, none⟩ = some (.string ⟨(names.getD k []).toArray⟩) ∧ w.cell? ⟨b, k * 2 + 1, none⟩ = some (.bool (okl.getD k true)) := by
  match okl, h with
  | [_, _, _, _, _, _, _, _, _, _, _, _, _, _, _, _, _, _, _, _], _ =>
    simp only [World.cell?, hb]
    match k, hk with
    | 0, _ => exact ⟨rfl, rfl⟩
    | 1, _ => exact ⟨rfl, rfl⟩
    | 2, _ => exact ⟨rfl, rfl⟩
    | 3, _ => exact ⟨rfl, rfl⟩
    | 4, _ => exact ⟨rfl, rfl⟩
    | 5, _ => exact ⟨rfl, rfl⟩
    | 6, _ => exact ⟨rfl, rfl⟩
    | 7, _ => exact ⟨rfl, rfl⟩
    | 8, _ => exact ⟨rfl, rfl⟩
    | 9, _ => exact ⟨rfl, rfl⟩
    | 10, _ => exact ⟨rfl, rfl⟩
    | 11, _ => exact ⟨rfl, rfl⟩
    | 12, _ => exact ⟨rfl, rfl⟩
    | 13, _ => exact ⟨rfl, rfl⟩
    | 14, _ => exact ⟨rfl, rfl⟩
    | 15, _ => exact ⟨rfl, rfl⟩
    | 16, _ => exact ⟨rfl, rfl⟩
    | 17, _ => exact ⟨rfl, rfl⟩
    | 18, _ => exact ⟨rfl, rfl⟩
    | 19, _ => exact ⟨rfl, rfl⟩
    | n + 20, h => omega
theorem name_ne : ∀ k : Fin 20, (names.getD k.val []).isEmpty = false := by decide +kernel
/- MADE BY gen_conf.py -/
set_option maxRecDepth 100000 in
set_option maxHeartbeats 40000000 in
theorem wrong_zero (c : Conf) (hm : c.max = 0) (w : World) : Calls Tryd.prog 50 #[.agg (confA c)] w fun e w' => ∃ s : ByteArray, e = .returned (.string s) ∧ s.toList.isEmpty = c.may ∧ Below w.heap.size w w' := by
  unfold confA
  have m1 : (c.max != 0) = false := by simpa using hm
  have m2 : (c.max == 0) = true := by simpa using hm
  have HM := Lib.hid hm
  clear hm
  go_enter Tryd.func50, Tryd.ntmps50
  go_upto_region 4 with (fail)
  go_cut [129, 130, 131] (fun v129 v130 v131 wc => PartsAt c w wc v129 ∧ v130 = .int .i64 20 ∧ v131 = .int .i64 0)
  case first =>
    rcases Classical.em (c.burst = -1000) with hb | hb
    · have HB := Lib.hid hb
      have b1 : (c.burst == -1000) = true := by simpa using hb
      clear hb
      simp only [List.append_eq, List.cons_append, List.nil_append]
      refine Det.region [118, 119] (by kernel_rfl) (by kernel_rfl) (fun W => ConfCells c w.heap.size W) (fun W n h => h) ?G1 ?c1 ?q1 ?t1
      case G1 => exact confCells_of c w.heap.size 24 _ (heap_new w _)
      case q1 =>
        rintro W ⟨h0, h1, h2, h3, h4, h5, h6, h7, h8, h9, h10, h11, h12, h13, h14, h15, h16, h17, h18, h19⟩
        go_light
        repeat (refine Det.keep rfl ?_; go_big_quiet_step (exact Calls.quiet_of_same (within_q _ (by decide) _ _ _ _)))
        refine Det.skip rfl (Det.skip rfl ?_)
        refine Det.keep rfl ?_
        go_big_quiet_step (fail)
        refine Det.stop (wpQuiet_nil ?_)
        exact rfl
      case t1 =>
        refine Det.one (t1 := 118) rfl (by kernel_rfl) (v := .slice (some ⟨w.heap.size + 1, 0, none⟩) 20 20) (w' := fun n => ((w.alloc (.cells (confA c) 24)).drew.drewN n).alloc (.cells (partCells [inB c.target 10 1000000, inB c.util 100 1000, inB c.stable 6 600, inB c.panic 1 c.stable, inB c.grain 1 c.panic, inB c.threshold 1100 10000, inB c.up 1001 1000000, inB c.down 1001 1000000, inB c.min 0 100, true, inB c.initial 0 100, inB c.grace 0 600, inB c.delay 0 600, true, inB c.limit 1 1000, inB c.queue 0 200, inB c.timeout 1 10000, inB c.ready 0 100, inB c.subset 0 100, inB c.sample 0 100]) 99)) (fun n => ?_) (fun n => ?_) (fun n => ?_)
        · go_light
          go_simp
          rfl
        · exact confCells_of c w.heap.size 24 _ ((Below.heap_alloc _ _ _ (by show w.heap.size < (w.heap.push _).size; simp)).trans (heap_new w _))
        refine Det.one (t1 := 119) rfl (by kernel_rfl) (v := .int .i64 20) (w' := fun m => (((w.alloc (.cells (confA c) 24)).drew.drewN n).alloc (.cells (partCells [inB c.target 10 1000000, inB c.util 100 1000, inB c.stable 6 600, inB c.panic 1 c.stable, inB c.grain 1 c.panic, inB c.threshold 1100 10000, inB c.up 1001 1000000, inB c.down 1001 1000000, inB c.min 0 100, true, inB c.initial 0 100, inB c.grace 0 600, inB c.delay 0 600, true, inB c.limit 1 1000, inB c.queue 0 200, inB c.timeout 1 10000, inB c.ready 0 100, inB c.subset 0 100, inB c.sample 0 100]) 99)).drewN m) (fun m => by kernel_rfl) (fun m => ?_) (fun m => ?_)
        · exact confCells_of c w.heap.size 24 _ ((Below.heap_alloc _ _ _ (by show w.heap.size < (w.heap.push _).size; simp)).trans (heap_new w _))
        refine Det.none_left (fun q => ?_)
        go_wp2_with fail
        go_meet
        case rel =>
          refine ⟨⟨w.heap.size + 1, [inB c.target 10 1000000, inB c.util 100 1000, inB c.stable 6 600, inB c.panic 1 c.stable, inB c.grain 1 c.panic, inB c.threshold 1100 10000, inB c.up 1001 1000000, inB c.down 1001 1000000, inB c.min 0 100, true, inB c.initial 0 100, inB c.grace 0 600, inB c.delay 0 600, true, inB c.limit 1 1000, inB c.queue 0 200, inB c.timeout 1 10000, inB c.ready 0 100, inB c.subset 0 100, inB c.sample 0 100], rfl, rfl, ?_, ?_, ?_, ?_⟩, rfl, rfl⟩
          · have hx := HM.out
            have hy := HB.out
            exact oks_eq c _ _ _ (by rw [if_pos hx]) (by rw [beq_iff_eq.2 hx]; rfl) (by rw [beq_iff_eq.2 hy]; rfl)
          · exact (parts_world w _ _ n m q).1
          · omega
          · exact (parts_world w _ _ n m q).2
    · have HB := Lib.hid hb
      have b1 : (c.burst == -1000) = false := by simpa using hb
      clear hb
      simp only [List.append_eq, List.cons_append, List.nil_append]
      refine Det.region [118, 119] (by kernel_rfl) (by kernel_rfl) (fun W => ConfCells c w.heap.size W) (fun W n h => h) ?G2 ?c2 ?q2 ?t2
      case G2 => exact confCells_of c w.heap.size 24 _ (heap_new w _)
      case q2 =>
        rintro W ⟨h0, h1, h2, h3, h4, h5, h6, h7, h8, h9, h10, h11, h12, h13, h14, h15, h16, h17, h18, h19⟩
        go_light
        repeat (refine Det.keep rfl ?_; go_big_quiet_step (exact Calls.quiet_of_same (within_q _ (by decide) _ _ _ _)))
        refine Det.skip rfl (Det.skip rfl ?_)
        refine Det.keep rfl ?_
        go_big_quiet_step (fail)
        refine Det.stop (wpQuiet_nil ?_)
        exact rfl
      case t2 =>
        refine Det.one (t1 := 118) rfl (by kernel_rfl) (v := .slice (some ⟨w.heap.size + 1, 0, none⟩) 20 20) (w' := fun n => ((w.alloc (.cells (confA c) 24)).drew.drewN n).alloc (.cells (partCells [inB c.target 10 1000000, inB c.util 100 1000, inB c.stable 6 600, inB c.panic 1 c.stable, inB c.grain 1 c.panic, inB c.threshold 1100 10000, inB c.up 1001 1000000, inB c.down 1001 1000000, inB c.min 0 100, true, inB c.initial 0 100, inB c.grace 0 600, inB c.delay 0 600, inB c.burst 0 100000000, inB c.limit 1 1000, inB c.queue 0 200, inB c.timeout 1 10000, inB c.ready 0 100, inB c.subset 0 100, inB c.sample 0 100]) 99)) (fun n => ?_) (fun n => ?_) (fun n => ?_)
        · go_light
          go_simp
          rfl
        · exact confCells_of c w.heap.size 24 _ ((Below.heap_alloc _ _ _ (by show w.heap.size < (w.heap.push _).size; simp)).trans (heap_new w _))
        refine Det.one (t1 := 119) rfl (by kernel_rfl) (v := .int .i64 20) (w' := fun m => (((w.alloc (.cells (confA c) 24)).drew.drewN n).alloc (.cells (partCells [inB c.target 10 1000000, inB c.util 100 1000, inB c.stable 6 600, inB c.panic 1 c.stable, inB c.grain 1 c.panic, inB c.threshold 1100 10000, inB c.up 1001 1000000, inB c.down 1001 1000000, inB c.min 0 100, true, inB c.initial 0 100, inB c.grace 0 600, inB c.delay 0 600, inB c.burst 0 100000000, inB c.limit 1 1000, inB c.queue 0 200, inB c.timeout 1 10000, inB c.ready 0 100, inB c.subset 0 100, inB c.sample 0 100]) 99)).drewN m) (fun m => by kernel_rfl) (fun m => ?_) (fun m => ?_)
        · exact confCells_of c w.heap.size 24 _ ((Below.heap_alloc _ _ _ (by show w.heap.size < (w.heap.push _).size; simp)).trans (heap_new w _))
        refine Det.none_left (fun q => ?_)
        go_wp2_with fail
        go_meet
        case rel =>
          refine ⟨⟨w.heap.size + 1, [inB c.target 10 1000000, inB c.util 100 1000, inB c.stable 6 600, inB c.panic 1 c.stable, inB c.grain 1 c.panic, inB c.threshold 1100 10000, inB c.up 1001 1000000, inB c.down 1001 1000000, inB c.min 0 100, true, inB c.initial 0 100, inB c.grace 0 600, inB c.delay 0 600, inB c.burst 0 100000000, inB c.limit 1 1000, inB c.queue 0 200, inB c.timeout 1 10000, inB c.ready 0 100, inB c.subset 0 100, inB c.sample 0 100], rfl, rfl, ?_, ?_, ?_, ?_⟩, rfl, rfl⟩
          · have hx := HM.out
            have hy := HB.out
            exact oks_eq c _ _ _ (by rw [if_pos hx]) (by rw [beq_iff_eq.2 hx]; rfl) (by rw [beq_eq_false_iff_ne.2 hy, Bool.false_or])
          · exact (parts_world w _ _ n m q).1
          · omega
          · exact (parts_world w _ _ n m q).2
  case rest =>
    obtain ⟨⟨b, okl, rfl, hl, hall, hblk, hbw, hbel⟩, rfl, rfl⟩ := hcut
    have HALL := Lib.hid hall
    have HL := Lib.hid hl
    have HBLK := Lib.hid hblk
    clear hall hl hblk
    have hblt : b < wc.heap.size := (Array.getElem?_eq_some_iff.1 HBLK.out).1
    go_wp2_with fail
    go_loopw [131] (fun i wr => ∃ k : Nat, k ≤ 20 ∧ i = .int .i64 k ∧ Hid ((okl.take k).all id = true) ∧ Below wc.heap.size wc wr) (fun i _ => 20 - (intOf i).toNat)
    case atStart => exact ⟨0, Nat.zero_le _, rfl, by show (okl.take 0).all id = true; simp, Below.refl _ _⟩
    case round =>
      obtain ⟨k, hk, rfl, HT, hbr⟩ := hrel
      by_cases hlt : k < 20
      · obtain ⟨hc0, hc1⟩ := cell_part okl HL.out wr b ((hbr.block b hblt).trans HBLK.out) k hlt
        have hne := name_ne ⟨k, hlt⟩
        obtain ⟨s, hs⟩ : ∃ s, s = names.getD k [] := ⟨_, rfl⟩
        obtain ⟨q, hq⟩ : ∃ q, q = okl.getD k true := ⟨_, rfl⟩
        simp only at hne
        rw [← hs] at hc0 hne
        rw [← hq] at hc1
        have HQ := Lib.hid hq
        have HN := Lib.hid hne
        clear hq hs hne
        cases q
        · go_wp2_with fail
          go_ret
          refine ⟨_, rfl, ?_, ?_⟩
          · have h1 := all_false okl k (by rw [HL.out]; exact hlt) HQ.out.symm
            rw [← HALL.out, h1]
            simpa using HN.out
          · exact hbel.trans ((hbr.mono hbel.size).alloc (by have := hbel.size; have := hbr.size; omega) _)
        · go_wp2_with fail
          go_roundw
          case rel => 
            refine ⟨k + 1, by omega, by simp, ?_, ?_⟩
            · show (okl.take (k + 1)).all id = true
              rw [all_take_succ okl k (by rw [HL.out]; exact hlt), HT.out, ← HQ.out]
              rfl
            · exact hbr.alloc (by have := hbr.size; omega) _
          case measure => simp [intOf]; omega
      · obtain rfl : k = 20 := by omega
        go_wp2_with fail
        go_ret
        refine ⟨_, rfl, ?_, hbel.trans (hbr.mono hbel.size)⟩
        have h1 := HT.out
        rw [List.take_of_length_le (by rw [HL.out]; exact Nat.le_refl _)] at h1
        rw [← HALL.out, h1]
        decide +kernel
set_option maxRecDepth 100000 in
set_option maxHeartbeats 40000000 in
theorem wrong_more (c : Conf) (hm : c.max ≠ 0) (w : World) : Calls Tryd.prog 50 #[.agg (confA c)] w fun e w' => ∃ s : ByteArray, e = .returned (.string s) ∧ s.toList.isEmpty = c.may ∧ Below w.heap.size w w' := by
  unfold confA
  have m1 : (c.max != 0) = true := by simpa using hm
  have m2 : (c.max == 0) = false := by simpa using hm
  have HM := Lib.hid hm
  clear hm
  go_enter Tryd.func50, Tryd.ntmps50
  go_upto_region 4 with (fail)
  go_cut [129, 130, 131] (fun v129 v130 v131 wc => PartsAt c w wc v129 ∧ v130 = .int .i64 20 ∧ v131 = .int .i64 0)
  case first =>
    rcases Classical.em (c.burst = -1000) with hb | hb
    · have HB := Lib.hid hb
      have b1 : (c.burst == -1000) = true := by simpa using hb
      clear hb
      simp only [List.append_eq, List.cons_append, List.nil_append]
      refine Det.region [118, 119] (by kernel_rfl) (by kernel_rfl) (fun W => ConfCells c w.heap.size W) (fun W n h => h) ?G1 ?c1 ?q1 ?t1
      case G1 => exact confCells_of c w.heap.size 24 _ (heap_new w _)
      case q1 =>
        rintro W ⟨h0, h1, h2, h3, h4, h5, h6, h7, h8, h9, h10, h11, h12, h13, h14, h15, h16, h17, h18, h19⟩
        go_light
        repeat (refine Det.keep rfl ?_; go_big_quiet_step (exact Calls.quiet_of_same (within_q _ (by decide) _ _ _ _)))
        refine Det.skip rfl (Det.skip rfl ?_)
        refine Det.keep rfl ?_
        go_big_quiet_step (fail)
        refine Det.stop (wpQuiet_nil ?_)
        exact rfl
      case t1 =>
        refine Det.one (t1 := 118) rfl (by kernel_rfl) (v := .slice (some ⟨w.heap.size + 1, 0, none⟩) 20 20) (w' := fun n => ((w.alloc (.cells (confA c) 24)).drew.drewN n).alloc (.cells (partCells [inB c.target 10 1000000, inB c.util 100 1000, inB c.stable 6 600, inB c.panic 1 c.stable, inB c.grain 1 c.panic, inB c.threshold 1100 10000, inB c.up 1001 1000000, inB c.down 1001 1000000, inB c.min 0 100, inB c.max (max c.min 1) 100, inB c.initial 0 c.max, inB c.grace 0 600, inB c.delay 0 600, true, inB c.limit 1 1000, inB c.queue 0 200, inB c.timeout 1 10000, inB c.ready 0 100, inB c.subset 0 100, inB c.sample 0 100]) 99)) (fun n => ?_) (fun n => ?_) (fun n => ?_)
        · go_light
          go_simp
          rfl
        · exact confCells_of c w.heap.size 24 _ ((Below.heap_alloc _ _ _ (by show w.heap.size < (w.heap.push _).size; simp)).trans (heap_new w _))
        refine Det.one (t1 := 119) rfl (by kernel_rfl) (v := .int .i64 20) (w' := fun m => (((w.alloc (.cells (confA c) 24)).drew.drewN n).alloc (.cells (partCells [inB c.target 10 1000000, inB c.util 100 1000, inB c.stable 6 600, inB c.panic 1 c.stable, inB c.grain 1 c.panic, inB c.threshold 1100 10000, inB c.up 1001 1000000, inB c.down 1001 1000000, inB c.min 0 100, inB c.max (max c.min 1) 100, inB c.initial 0 c.max, inB c.grace 0 600, inB c.delay 0 600, true, inB c.limit 1 1000, inB c.queue 0 200, inB c.timeout 1 10000, inB c.ready 0 100, inB c.subset 0 100, inB c.sample 0 100]) 99)).drewN m) (fun m => by kernel_rfl) (fun m => ?_) (fun m => ?_)
        · exact confCells_of c w.heap.size 24 _ ((Below.heap_alloc _ _ _ (by show w.heap.size < (w.heap.push _).size; simp)).trans (heap_new w _))
        refine Det.none_left (fun q => ?_)
        go_wp2_with fail
        go_meet
        case rel =>
          refine ⟨⟨w.heap.size + 1, [inB c.target 10 1000000, inB c.util 100 1000, inB c.stable 6 600, inB c.panic 1 c.stable, inB c.grain 1 c.panic, inB c.threshold 1100 10000, inB c.up 1001 1000000, inB c.down 1001 1000000, inB c.min 0 100, inB c.max (max c.min 1) 100, inB c.initial 0 c.max, inB c.grace 0 600, inB c.delay 0 600, true, inB c.limit 1 1000, inB c.queue 0 200, inB c.timeout 1 10000, inB c.ready 0 100, inB c.subset 0 100, inB c.sample 0 100], rfl, rfl, ?_, ?_, ?_, ?_⟩, rfl, rfl⟩
          · have hx := HM.out
            have hy := HB.out
            exact oks_eq c _ _ _ (by rw [if_neg hx]) (by rw [beq_eq_false_iff_ne.2 hx, Bool.false_or]; congr 1; split <;> omega) (by rw [beq_iff_eq.2 hy]; rfl)
          · exact (parts_world w _ _ n m q).1
          · omega
          · exact (parts_world w _ _ n m q).2
    · have HB := Lib.hid hb
      have b1 : (c.burst == -1000) = false := by simpa using hb
      clear hb
      simp only [List.append_eq, List.cons_append, List.nil_append]
      refine Det.region [118, 119] (by kernel_rfl) (by kernel_rfl) (fun W => ConfCells c w.heap.size W) (fun W n h => h) ?G2 ?c2 ?q2 ?t2
      case G2 => exact confCells_of c w.heap.size 24 _ (heap_new w _)
      case q2 =>
        rintro W ⟨h0, h1, h2, h3, h4, h5, h6, h7, h8, h9, h10, h11, h12, h13, h14, h15, h16, h17, h18, h19⟩
        go_light
        repeat (refine Det.keep rfl ?_; go_big_quiet_step (exact Calls.quiet_of_same (within_q _ (by decide) _ _ _ _)))
        refine Det.skip rfl (Det.skip rfl ?_)
        refine Det.keep rfl ?_
        go_big_quiet_step (fail)
        refine Det.stop (wpQuiet_nil ?_)
        exact rfl
      case t2 =>
        refine Det.one (t1 := 118) rfl (by kernel_rfl) (v := .slice (some ⟨w.heap.size + 1, 0, none⟩) 20 20) (w' := fun n => ((w.alloc (.cells (confA c) 24)).drew.drewN n).alloc (.cells (partCells [inB c.target 10 1000000, inB c.util 100 1000, inB c.stable 6 600, inB c.panic 1 c.stable, inB c.grain 1 c.panic, inB c.threshold 1100 10000, inB c.up 1001 1000000, inB c.down 1001 1000000, inB c.min 0 100, inB c.max (max c.min 1) 100, inB c.initial 0 c.max, inB c.grace 0 600, inB c.delay 0 600, inB c.burst 0 100000000, inB c.limit 1 1000, inB c.queue 0 200, inB c.timeout 1 10000, inB c.ready 0 100, inB c.subset 0 100, inB c.sample 0 100]) 99)) (fun n => ?_) (fun n => ?_) (fun n => ?_)
        · go_light
          go_simp
          rfl
        · exact confCells_of c w.heap.size 24 _ ((Below.heap_alloc _ _ _ (by show w.heap.size < (w.heap.push _).size; simp)).trans (heap_new w _))
        refine Det.one (t1 := 119) rfl (by kernel_rfl) (v := .int .i64 20) (w' := fun m => (((w.alloc (.cells (confA c) 24)).drew.drewN n).alloc (.cells (partCells [inB c.target 10 1000000, inB c.util 100 1000, inB c.stable 6 600, inB c.panic 1 c.stable, inB c.grain 1 c.panic, inB c.threshold 1100 10000, inB c.up 1001 1000000, inB c.down 1001 1000000, inB c.min 0 100, inB c.max (max c.min 1) 100, inB c.initial 0 c.max, inB c.grace 0 600, inB c.delay 0 600, inB c.burst 0 100000000, inB c.limit 1 1000, inB c.queue 0 200, inB c.timeout 1 10000, inB c.ready 0 100, inB c.subset 0 100, inB c.sample 0 100]) 99)).drewN m) (fun m => by kernel_rfl) (fun m => ?_) (fun m => ?_)
        · exact confCells_of c w.heap.size 24 _ ((Below.heap_alloc _ _ _ (by show w.heap.size < (w.heap.push _).size; simp)).trans (heap_new w _))
        refine Det.none_left (fun q => ?_)
        go_wp2_with fail
        go_meet
        case rel =>
          refine ⟨⟨w.heap.size + 1, [inB c.target 10 1000000, inB c.util 100 1000, inB c.stable 6 600, inB c.panic 1 c.stable, inB c.grain 1 c.panic, inB c.threshold 1100 10000, inB c.up 1001 1000000, inB c.down 1001 1000000, inB c.min 0 100, inB c.max (max c.min 1) 100, inB c.initial 0 c.max, inB c.grace 0 600, inB c.delay 0 600, inB c.burst 0 100000000, inB c.limit 1 1000, inB c.queue 0 200, inB c.timeout 1 10000, inB c.ready 0 100, inB c.subset 0 100, inB c.sample 0 100], rfl, rfl, ?_, ?_, ?_, ?_⟩, rfl, rfl⟩
          · have hx := HM.out
            have hy := HB.out
            exact oks_eq c _ _ _ (by rw [if_neg hx]) (by rw [beq_eq_false_iff_ne.2 hx, Bool.false_or]; congr 1; split <;> omega) (by rw [beq_eq_false_iff_ne.2 hy, Bool.false_or])
          · exact (parts_world w _ _ n m q).1
          · omega
          · exact (parts_world w _ _ n m q).2
  case rest =>
    obtain ⟨⟨b, okl, rfl, hl, hall, hblk, hbw, hbel⟩, rfl, rfl⟩ := hcut
    have HALL := Lib.hid hall
    have HL := Lib.hid hl
    have HBLK := Lib.hid hblk
    clear hall hl hblk
    have hblt : b < wc.heap.size := (Array.getElem?_eq_some_iff.1 HBLK.out).1
    go_wp2_with fail
    go_loopw [131] (fun i wr => ∃ k : Nat, k ≤ 20 ∧ i = .int .i64 k ∧ Hid ((okl.take k).all id = true) ∧ Below wc.heap.size wc wr) (fun i _ => 20 - (intOf i).toNat)
    case atStart => exact ⟨0, Nat.zero_le _, rfl, by show (okl.take 0).all id = true; simp, Below.refl _ _⟩
    case round =>
      obtain ⟨k, hk, rfl, HT, hbr⟩ := hrel
      by_cases hlt : k < 20
      · obtain ⟨hc0, hc1⟩ := cell_part okl HL.out wr b ((hbr.block b hblt).trans HBLK.out) k hlt
        have hne := name_ne ⟨k, hlt⟩
        obtain ⟨s, hs⟩ : ∃ s, s = names.getD k [] := ⟨_, rfl⟩
        obtain ⟨q, hq⟩ : ∃ q, q = okl.getD k true := ⟨_, rfl⟩
        simp only at hne
        rw [← hs] at hc0 hne
        rw [← hq] at hc1
        have HQ := Lib.hid hq
        have HN := Lib.hid hne
        clear hq hs hne
        cases q
        · go_wp2_with fail
          go_ret
          refine ⟨_, rfl, ?_, ?_⟩
          · have h1 := all_false okl k (by rw [HL.out]; exact hlt) HQ.out.symm
            rw [← HALL.out, h1]
            simpa using HN.out
          · exact hbel.trans ((hbr.mono hbel.size).alloc (by have := hbel.size; have := hbr.size; omega) _)
        · go_wp2_with fail
          go_roundw
          case rel => 
            refine ⟨k + 1, by omega, by simp, ?_, ?_⟩
            · show (okl.take (k + 1)).all id = true
              rw [all_take_succ okl k (by rw [HL.out]; exact hlt), HT.out, ← HQ.out]
              rfl
            · exact hbr.alloc (by have := hbr.size; omega) _
          case measure => simp [intOf]; omega
      · obtain rfl : k = 20 := by omega
        go_wp2_with fail
        go_ret
        refine ⟨_, rfl, ?_, hbel.trans (hbr.mono hbel.size)⟩
        have h1 := HT.out
        rw [List.take_of_length_le (by rw [HL.out]; exact Nat.le_refl _)] at h1
        rw [← HALL.out, h1]
        decide +kernel
theorem wrong_any (c : Conf) (w : World) : Calls Tryd.prog 50 #[.agg (confA c)] w fun e w' => ∃ s : ByteArray, e = .returned (.string s) ∧ s.toList.isEmpty = c.may ∧ Below w.heap.size w w' := by
  rcases Classical.em (c.max = 0) with h | h
  · exact wrong_zero c h w
  · exact wrong_more c h w
end Go.Proofs.YtcppcobcdhnalaaDoor
