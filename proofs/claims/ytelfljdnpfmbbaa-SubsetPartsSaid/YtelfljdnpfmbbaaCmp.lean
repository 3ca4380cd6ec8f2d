/- The comparisons that the subset's sort uses: what each returns, at every argument. -/
import Derived.Test.YtelfljdnpfmbbaaProg
import Derived.WalkKit
import Derived.Deep.QuietTactic
import Derived.BigQuiet
import Derived.StillTailTactics
import Derived.Sort.Grow
import Derived.Lib.Hide
namespace Go.Proofs.Ytelfljdnpfmbbaa
open Go.RowKit Go.Sort
theorem isNaN_any (x : Int) (w : World) : Calls Try.prog 18 #[.int .i64 x] w fun e w' => e = .returned (.bool false) ∧ w = w' := by
  go_enter Try.func18, Try.ntmps18
  go_wp2
  go_ret
  exact ⟨rfl, rfl⟩
theorem isNaN32_any (x : Int) (w : World) : Calls Try.prog 29 #[.int .u32 x] w fun e w' => e = .returned (.bool false) ∧ w = w' := by
  go_enter Try.func29, Try.ntmps29
  go_wp2
  go_ret
  exact ⟨rfl, rfl⟩
def cmpI (x y : Int) : Int := if x < y then -1 else if y < x then 1 else 0
def scoreOf (x : Int) : Int := (IntKind.u64.wrap (IntKind.u64.wrap x * 2654435761)) % 4294967296
theorem score_any (x : Int) (w : World) : Calls Try.prog 13 #[.int .i64 x] w fun e w' => e = .returned (.int .u32 (scoreOf x)) ∧ w = w' := by
  go_enter Try.func13, Try.ntmps13
  go_wp2
  go_ret
  exact ⟨rfl, rfl⟩
theorem cmp_any (x y : Int) (w : World) : Calls Try.prog 12 #[.int .i64 x, .int .i64 y] w fun e w' => e = .returned (.int .i64 (cmpI x y)) ∧ w = w' := by
  unfold cmpI
  by_cases h1 : x < y
  · rw [if_pos h1]
    go_enter Try.func12, Try.ntmps12
    go_wp2_with (go_at_call 18; refine (isNaN_any _ _).mono ?_; rintro e w' ⟨rfl, rfl⟩)
    go_ret
    exact ⟨rfl, rfl⟩
  · rw [if_neg h1]
    by_cases h2 : y < x
    · rw [if_pos h2]
      go_enter Try.func12, Try.ntmps12
      go_wp2_with (go_at_call 18; refine (isNaN_any _ _).mono ?_; rintro e w' ⟨rfl, rfl⟩)
      go_ret
      exact ⟨rfl, rfl⟩
    · rw [if_neg h2]
      go_enter Try.func12, Try.ntmps12
      go_wp2_with (go_at_call 18; refine (isNaN_any _ _).mono ?_; rintro e w' ⟨rfl, rfl⟩)
      go_ret
      exact ⟨rfl, rfl⟩
theorem cmp32_any (x y : Int) (w : World) : Calls Try.prog 17 #[.int .u32 x, .int .u32 y] w fun e w' => e = .returned (.int .i64 (cmpI x y)) ∧ w = w' := by
  unfold cmpI
  by_cases h1 : x < y
  · rw [if_pos h1]
    go_enter Try.func17, Try.ntmps17
    go_wp2_with (go_at_call 29; refine (isNaN32_any _ _).mono ?_; rintro e w' ⟨rfl, rfl⟩)
    go_ret
    exact ⟨rfl, rfl⟩
  · rw [if_neg h1]
    by_cases h2 : y < x
    · rw [if_pos h2]
      go_enter Try.func17, Try.ntmps17
      go_wp2_with (go_at_call 29; refine (isNaN32_any _ _).mono ?_; rintro e w' ⟨rfl, rfl⟩)
      go_ret
      exact ⟨rfl, rfl⟩
    · rw [if_neg h2]
      go_enter Try.func17, Try.ntmps17
      go_wp2_with (go_at_call 29; refine (isNaN32_any _ _).mono ?_; rintro e w' ⟨rfl, rfl⟩)
      go_ret
      exact ⟨rfl, rfl⟩
theorem of1_any (i a j b : Int) (w : World) : Calls Try.prog 11 #[.iface 31 (.agg #[.int .i64 i, .int .i64 a]), .iface 31 (.agg #[.int .i64 j, .int .i64 b])] w fun e w' => e = .returned (.int .i64 (cmpI a b)) ∧ ∃ n, w' = w.drewN n := by
  have ta : ∀ (v : Value) (w : World), (Instr.typeAssert (.iface 31 v) 20 31 false).run Try.prog w = .ok v w := fun _ _ => by kernel_rfl
  have fa : ∀ (x y : Int) (w : World), (Instr.field 31 (.agg #[.int .i64 x, .int .i64 y]) 1).run Try.prog w = .ok (.int .i64 y) w := fun _ _ _ => by kernel_rfl
  go_enter Try.func11, Try.ntmps11
  go_wp2
  go_quiet ((go_at_call 12; exact Calls.quiet_of_same ((cmp_any _ _ _).mono fun _ _ h => ⟨h.1, h.2.symm⟩)))
  go_wp2
  go_ret
  exact ⟨rfl, _, rfl⟩
theorem ret_int {k : IntKind} {a b : Int} (h : a = b) : Ending.returned (.int k a) = .returned (.int k b) := by rw [h]
-- cmp.Or of three
def or3 (x y z : Int) : Int := if x ≠ 0 then x else if y ≠ 0 then y else z
set_option maxHeartbeats 1000000 in
theorem or_any (x y z : Int) (b : Nat) (w : World) (h0 : w.cell? ⟨b, 0, none⟩ = some (.int .i64 x)) (h1 : w.cell? ⟨b, 1, none⟩ = some (.int .i64 y)) (h2 : w.cell? ⟨b, 2, none⟩ = some (.int .i64 z)) :
    Calls Try.prog 16 #[.slice (some ⟨b, 0, none⟩) 3 3] w fun e w' => e = .returned (.int .i64 (or3 x y z)) ∧ w = w' := by
  unfold or3
  by_cases e0 : x = 0
  · have f0 : (x != 0) = false := by simp [e0]
    rw [if_neg (by simp [e0])]
    by_cases e1 : y = 0
    · have f1 : (y != 0) = false := by simp [e1]
      rw [if_neg (by simp [e1])]
      by_cases e2 : z = 0
      · have f2 : (z != 0) = false := by simp [e2]
        have hz := Lib.hid e2.symm
        clear e0 e1 e2
        go_enter Try.func16, Try.ntmps16
        go_wp2
        refine wp_loop_rounds 4 ?_
        rw [rounds_succ]
        go_wp2
        rw [rounds_succ]
        go_wp2
        rw [rounds_succ]
        go_wp2
        rw [rounds_succ]
        go_wp2
        go_ret
        exact ⟨ret_int hz.out, rfl⟩
      · have f2 : (z != 0) = true := by simp [e2]
        clear e0 e1 e2
        go_enter Try.func16, Try.ntmps16
        go_wp2
        refine wp_loop_rounds 3 ?_
        rw [rounds_succ]
        go_wp2
        rw [rounds_succ]
        go_wp2
        rw [rounds_succ]
        go_wp2
        go_ret
        exact ⟨rfl, rfl⟩
    · have f1 : (y != 0) = true := by simp [e1]
      rw [if_pos (by simp [e1])]
      clear e0 e1
      go_enter Try.func16, Try.ntmps16
      go_wp2
      refine wp_loop_rounds 2 ?_
      rw [rounds_succ]
      go_wp2
      rw [rounds_succ]
      go_wp2
      go_ret
      exact ⟨rfl, rfl⟩
  · have f0 : (x != 0) = true := by simp [e0]
    rw [if_pos (by simp [e0])]
    clear e0
    go_enter Try.func16, Try.ntmps16
    go_wp2
    refine wp_loop_rounds 1 ?_
    rw [rounds_succ]
    go_wp2
    go_ret
    exact ⟨rfl, rfl⟩


theorem region_still_tail {P : Program} {id : Nat} {Q : Exit → Act → World → Prop} {a : Act} {w : World} {l : List Oper} (n : Nat) (hm : P.follows .mixedOrders = true) (hB : Region.lexTailB .any l.toArray n = true)
    (h : wpStill P l.toArray w.drew (fun a' => wpList P l.toArray Q (l.drop n) a' w.drew) (l.take n) a) : (Code.region id l.toArray true).wp P Q a w :=
  wp_region_still_tail n hm hB h
def before (i a j b : Int) : Int := or3 (cmpI (scoreOf i) (scoreOf j)) (cmpI i j) (cmpI a b)
set_option maxHeartbeats 1000000 in
theorem before_any (i a j b : Int) (w : World) : Calls Try.prog 10 #[.iface 31 (.agg #[.int .i64 i, .int .i64 a]), .iface 31 (.agg #[.int .i64 j, .int .i64 b])] w fun e w' => e = .returned (.int .i64 (before i a j b)) ∧ ∃ n os, w' = grow (w.drewN n) os := by
  have ta : ∀ (v : Value) (w : World), (Instr.typeAssert (.iface 31 v) 20 31 true).run Try.prog w = .ok (.tuple #[v, .bool true]) w := fun _ _ => by kernel_rfl
  go_enter Try.func10, Try.ntmps10
  go_wp2
  refine region_still_tail 17 (by kernel_rfl) (by kernel_rfl) ?_
  simp only [List.take_succ_cons, List.take_zero, List.drop_succ_cons, List.drop_zero]
  repeat still_step
  still_call ((score_any _ _).mono fun _ _ h => ⟨h.1, h.2.symm⟩)
  repeat still_step
  still_call ((score_any _ _).mono fun _ _ h => ⟨h.1, h.2.symm⟩)
  repeat still_step
  still_call ((cmp32_any _ _ _).mono fun _ _ h => ⟨h.1, h.2.symm⟩)
  repeat still_step
  still_call ((cmp_any _ _ _).mono fun _ _ h => ⟨h.1, h.2.symm⟩)
  repeat still_step
  still_call ((cmp_any _ _ _).mono fun _ _ h => ⟨h.1, h.2.symm⟩)
  refine wpStill_nil ?_
  go_wp2_with fail
  refine (or_any (cmpI (scoreOf i) (scoreOf j)) (cmpI i j) (cmpI a b) _ _ ?_ ?_ ?_).mono ?_
  · go_simp
  · go_simp
  · go_simp
  rintro e w' ⟨rfl, rfl⟩
  go_wp2
  go_ret
  exact ⟨rfl, 1, #[_, _, _], by rw [alloc_eq_grow, alloc_eq_grow, alloc_eq_grow, grow_grow, grow_grow]; rfl⟩
end Go.Proofs.Ytelfljdnpfmbbaa
