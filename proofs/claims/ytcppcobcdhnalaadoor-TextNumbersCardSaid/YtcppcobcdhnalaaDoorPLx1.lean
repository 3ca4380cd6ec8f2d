-- Written by a program of this session (tools/myprint.py), out of the translation; Lean checks it.
import Derived.Test.YtcppcobcdhnalaaDoorPLx0
namespace Go.Proofs.YtcppcobcdhnalaaDoor.PL
open Go.RowKit Go.Proofs.YtcppcobcdhnalaaDoorW.PrintWords Go.Proofs.YtcppcobcdhnalaaDoorW.PrintLast Go.Proofs.YtcppcobcdhnalaaDoorW.PrintMore
attribute [local go_sem] max2_int min2_int max_two min_two max_three min_three max_four min_four   -- for this text's walks alone
set_option linter.unusedVariables false
set_option linter.unusedSimpArgs false

/-! ### spinnakerref1_Decimal: function 20 -/
def spinnakerref1_Decimal.l0 : Nat → Int → ByteArray → Option (ByteArray)
  | 0, _, _ => none
  | k + 1, x0, x3 => if x0 > 9 then (if 0 ≤ (Int.tmod x0 10) then (if (Int.tmod x0 10) ≤ (wrap64 ((Int.tmod x0 10) + 1)) then (if (wrap64 ((Int.tmod x0 10) + 1)) ≤ 10 then (if ((⟨#[48, 49, 50, 51, 52, 53, 54, 55, 56, 57]⟩ : ByteArray).extract ((Int.tmod x0 10) : Int).toNat ((wrap64 ((Int.tmod x0 10) + 1)) : Int).toNat).size + x3.size ≤ 9223372036854775807 then (spinnakerref1_Decimal.l0 k (wrap64 (Int.tdiv x0 10)) (((⟨#[48, 49, 50, 51, 52, 53, 54, 55, 56, 57]⟩ : ByteArray).extract ((Int.tmod x0 10) : Int).toNat ((wrap64 ((Int.tmod x0 10) + 1)) : Int).toNat) ++ x3)) else (none)) else (none)) else (none)) else (none)) else (if 0 ≤ x0 then (if x0 ≤ (wrap64 (x0 + 1)) then (if (wrap64 (x0 + 1)) ≤ 10 then (if ((⟨#[48, 49, 50, 51, 52, 53, 54, 55, 56, 57]⟩ : ByteArray).extract (x0 : Int).toNat ((wrap64 (x0 + 1)) : Int).toNat).size + x3.size ≤ 9223372036854775807 then (some (((⟨#[48, 49, 50, 51, 52, 53, 54, 55, 56, 57]⟩ : ByteArray).extract (x0 : Int).toNat ((wrap64 (x0 + 1)) : Int).toNat) ++ x3)) else (none)) else (none)) else (none)) else (none))
def spinnakerref1_Decimal.f (k : Nat) (a0 : Int) : Option (ByteArray) := spinnakerref1_Decimal.l0 k a0 (⟨#[]⟩ : ByteArray)
theorem spinnakerref1_Decimal.mono_l : ∀ k, (∀ y0 y1, LeO (spinnakerref1_Decimal.l0 k y0 y1) (spinnakerref1_Decimal.l0 (k + 1) y0 y1))
  | 0 => fun _ _ r h => by simp [spinnakerref1_Decimal.l0] at h
  | k + 1 => by
    have ih0 := spinnakerref1_Decimal.mono_l k
    · intro y0 y1
      unfold spinnakerref1_Decimal.l0
      repeat' first
      | (with_reducible exact ih0 _ _)
      | (with_reducible exact LeO.refl _)
      | (with_reducible exact LeO.none _)
      | (with_reducible refine LeO.ite ?_ ?_)
      | (with_reducible refine LeO.bind ?_ (fun _ => ?_))
      | exact ih0 _ _
      | exact LeO.none _
      | refine LeO.ite ?_ ?_
      | refine LeO.bind ?_ (fun _ => ?_)
theorem spinnakerref1_Decimal.mono : ∀ a0 k, LeO (spinnakerref1_Decimal.f k a0) (spinnakerref1_Decimal.f (k + 1) a0) := by
  intro a0 k
  have ih0 := spinnakerref1_Decimal.mono_l k
  unfold spinnakerref1_Decimal.f
  repeat' first
      | (with_reducible exact ih0 _ _)
      | (with_reducible exact LeO.refl _)
      | (with_reducible exact LeO.none _)
      | (with_reducible refine LeO.ite ?_ ?_)
      | (with_reducible refine LeO.bind ?_ (fun _ => ?_))
      | exact ih0 _ _
      | exact LeO.none _
      | refine LeO.ite ?_ ?_
      | refine LeO.bind ?_ (fun _ => ?_)
set_option maxHeartbeats 8000000 in
set_option maxRecDepth 100000 in
theorem spinnakerref1_Decimal.calls (k : Nat) (a0 : Int) (r : ByteArray) (w : World) (h : spinnakerref1_Decimal.f k a0 = some r) :
    Calls Tryd.prog 20 #[.int .i64 a0] w fun e w' => e = .returned (.string r) ∧ Drawn0 w w' := by
  have H : (spinnakerref1_Decimal.l0 k a0 (⟨#[]⟩ : ByteArray)) = some r := h
  clear h
  have H' := Aside0.mk H
  clear H
  go_enter Tryd.func20, Tryd.ntmps20
  go_wp2
  go_loopg [0, 3] k (fun kq v0 v3 w' => ∃ (x0_1 : Int) (x3_1 : ByteArray), v0 = .int .i64 x0_1 ∧ v3 = .string x3_1 ∧ Aside0 (spinnakerref1_Decimal.l0 kq x0_1 x3_1 = some r) ∧ Aside0 (kq ≤ k) ∧ Drawn0 w w')
  case atStart => exact ⟨(a0), ((⟨#[]⟩ : ByteArray)), (by first | rfl | (simp; done) | (simp [*]; done)), (by first | rfl | (simp; done) | (simp [*]; done)), H', ⟨Nat.le_refl _⟩, by repeat (first | exact Drawn0.refl _ | apply Drawn0.step)⟩
  case round =>
    clear H'
    obtain ⟨x0_1, x3_1, rfl, rfl, HA, HK1, ⟨m1, rfl⟩⟩ := hrel
    cases gk with
    | zero => exact absurd HA.out (by simp [spinnakerref1_Decimal.l0])
    | succ k1 =>
      have H := HA.out
      clear HA
      simp only [spinnakerref1_Decimal.l0] at H
      by_cases c2 : x0_1 > 9
      · rw [if_pos c2] at H
        have c2b0 : decide (9 < x0_1) = true := decide_eq_true c2
        clear c2
        obtain ⟨ji3, hji3⟩ : ∃ j_ : Int, (Int.tmod x0_1 10) = j_ := ⟨_, rfl⟩
        replace H : (if 0 ≤ (ji3) then (if (ji3) ≤ (wrap64 ((ji3) + 1)) then (if (wrap64 ((ji3) + 1)) ≤ 10 then (if ((⟨#[48, 49, 50, 51, 52, 53, 54, 55, 56, 57]⟩ : ByteArray).extract ((ji3) : Int).toNat ((wrap64 ((ji3) + 1)) : Int).toNat).size + x3_1.size ≤ 9223372036854775807 then (spinnakerref1_Decimal.l0 k1 (wrap64 (Int.tdiv x0_1 10)) (((⟨#[48, 49, 50, 51, 52, 53, 54, 55, 56, 57]⟩ : ByteArray).extract ((ji3) : Int).toNat ((wrap64 ((ji3) + 1)) : Int).toNat) ++ x3_1)) else (none)) else (none)) else (none)) else (none)) = some r := by first | (rw [hji3] at H; exact H) | (simp only [hji3] at H ⊢; exact H)
        by_cases c4 : 0 ≤ (ji3)
        · rw [if_pos c4] at H
          have c4b0 := eq_true c4
          have c4b1 : decide (0 ≤ (ji3)) = true := decide_eq_true c4
          clear c4
          by_cases c5 : (ji3) ≤ (wrap64 ((ji3) + 1))
          · rw [if_pos c5] at H
            have c5b0 := eq_true c5
            have c5b1 : decide ((ji3) ≤ (wrap64 ((ji3) + 1))) = true := decide_eq_true c5
            by_cases c6 : (wrap64 ((ji3) + 1)) ≤ 10
            · rw [if_pos c6] at H
              have c6b0 := eq_true c6
              have c6b1 : decide ((wrap64 ((ji3) + 1)) ≤ 10) = true := decide_eq_true c6
              by_cases c7 : ((⟨#[48, 49, 50, 51, 52, 53, 54, 55, 56, 57]⟩ : ByteArray).extract ((ji3) : Int).toNat ((wrap64 ((ji3) + 1)) : Int).toNat).size + x3_1.size ≤ 9223372036854775807
              · rw [if_pos c7] at H
                have c7b0 := eq_true c7
                have c7b1 : decide (((⟨#[48, 49, 50, 51, 52, 53, 54, 55, 56, 57]⟩ : ByteArray).extract ((ji3) : Int).toNat ((wrap64 ((ji3) + 1)) : Int).toNat).size + x3_1.size ≤ 9223372036854775807) = true := decide_eq_true c7
                try have c7b2 : (9223372036854775807 < ((⟨#[48, 49, 50, 51, 52, 53, 54, 55, 56, 57]⟩ : ByteArray).extract ((ji3) : Int).toNat ((wrap64 ((ji3) + 1)) : Int).toNat).size + x3_1.size) = False := eq_false (Nat.not_lt.2 c7)
                try (have c7b3 := c7b2; simp only [ByteArray.size_append, ba_size, List.size_toArray, List.length_cons, List.length_nil, Nat.zero_add] at c7b3)
                try (have c7b4 := c7b3; simp only [ByteArray.size_extract, Nat.min_self] at c7b4)
                have H' := Aside0.mk H
                clear H
                go_wp2
                go_roundg k1
                case measure => have := HK1.out; omega
                case rel => exact ⟨(wrap64 (Int.tdiv x0_1 10)), (((⟨#[48, 49, 50, 51, 52, 53, 54, 55, 56, 57]⟩ : ByteArray).extract ((ji3) : Int).toNat ((wrap64 ((ji3) + 1)) : Int).toNat) ++ x3_1), (by first | rfl | (simp; done) | (simp [*]; done)), (by first | rfl | (simp; done) | (simp only [← hji3] <;> (first | rfl | simp)) | (simp [*]; done)), H', ⟨by have := HK1.out; omega⟩, by repeat (first | exact Drawn0.refl _ | apply Drawn0.step)⟩
              · rw [if_neg c7] at H
                exact absurd H (by simp)
            · rw [if_neg c6] at H
              exact absurd H (by simp)
          · rw [if_neg c5] at H
            exact absurd H (by simp)
        · rw [if_neg c4] at H
          exact absurd H (by simp)
      · rw [if_neg c2] at H
        have c2b0 : decide (9 < x0_1) = false := decide_eq_false c2
        clear c2
        by_cases c8 : 0 ≤ x0_1
        · rw [if_pos c8] at H
          have c8b0 := eq_true c8
          have c8b1 : decide (0 ≤ x0_1) = true := decide_eq_true c8
          clear c8
          by_cases c9 : x0_1 ≤ (wrap64 (x0_1 + 1))
          · rw [if_pos c9] at H
            have c9b0 := eq_true c9
            have c9b1 : decide (x0_1 ≤ (wrap64 (x0_1 + 1))) = true := decide_eq_true c9
            by_cases c10 : (wrap64 (x0_1 + 1)) ≤ 10
            · rw [if_pos c10] at H
              have c10b0 := eq_true c10
              have c10b1 : decide ((wrap64 (x0_1 + 1)) ≤ 10) = true := decide_eq_true c10
              by_cases c11 : ((⟨#[48, 49, 50, 51, 52, 53, 54, 55, 56, 57]⟩ : ByteArray).extract (x0_1 : Int).toNat ((wrap64 (x0_1 + 1)) : Int).toNat).size + x3_1.size ≤ 9223372036854775807
              · rw [if_pos c11] at H
                have c11b0 := eq_true c11
                have c11b1 : decide (((⟨#[48, 49, 50, 51, 52, 53, 54, 55, 56, 57]⟩ : ByteArray).extract (x0_1 : Int).toNat ((wrap64 (x0_1 + 1)) : Int).toNat).size + x3_1.size ≤ 9223372036854775807) = true := decide_eq_true c11
                try have c11b2 : (9223372036854775807 < ((⟨#[48, 49, 50, 51, 52, 53, 54, 55, 56, 57]⟩ : ByteArray).extract (x0_1 : Int).toNat ((wrap64 (x0_1 + 1)) : Int).toNat).size + x3_1.size) = False := eq_false (Nat.not_lt.2 c11)
                try (have c11b3 := c11b2; simp only [ByteArray.size_append, ba_size, List.size_toArray, List.length_cons, List.length_nil, Nat.zero_add] at c11b3)
                try (have c11b4 := c11b3; simp only [ByteArray.size_extract, Nat.min_self] at c11b4)
                obtain rfl := Option.some.inj H
                go_wp2
                go_ret
                exact ⟨by first | rfl | (simp; done) | (simp [*]; done), by repeat (first | exact Drawn0.refl _ | apply Drawn0.step)⟩
              · rw [if_neg c11] at H
                exact absurd H (by simp)
            · rw [if_neg c10] at H
              exact absurd H (by simp)
          · rw [if_neg c9] at H
            exact absurd H (by simp)
        · rw [if_neg c8] at H
          exact absurd H (by simp)

/-! ### spinnakerlaw4_TextNumbers: function 7 -/
def spinnakerlaw4_TextNumbers.j0 : Nat → Int → ByteArray → ByteArray → Int → Option (Bool)
  | 0, _, _, _, _ => none
  | k + 1, x8, x9, x10, x11 => if x10.size + 1 ≤ 9223372036854775807 then (if (x10 ++ (⟨#[46]⟩ : ByteArray)).size + x9.size ≤ 9223372036854775807 then ((PT.text_Number.f k ((x10 ++ (⟨#[46]⟩ : ByteArray)) ++ x9)).bind fun bt103 => (if ((x10 ++ (⟨#[46]⟩ : ByteArray)) ++ x9).size + 1 ≤ 9223372036854775807 then ((PT.text_Number.f k (((x10 ++ (⟨#[46]⟩ : ByteArray)) ++ x9) ++ (⟨#[48]⟩ : ByteArray))).bind fun bt105 => ((PT.text_Number.f k x10).bind fun bt107 => ((spinnakerlaw4_told.f).bind fun t109 => (if t109 = true then (if bt103.2 = true then (if bt103.1 = x11 then (if bt105.2 = true then (some false) else (if bt105.1 = 0 then (if bt107.2 = true then (if bt107.1 = x11 then (if x8 = 0 then (some true) else ((PT.text_Show.f k bt103.1).bind fun t110 => ((PT.text_Show.f k bt107.1).bind fun t111 => (some (t110.toList != t111.toList))))) else (if x8 = 0 then (some false) else ((PT.text_Show.f k bt103.1).bind fun t112 => ((PT.text_Show.f k bt107.1).bind fun t113 => (some (t112.toList != t113.toList)))))) else (some false)) else (some false))) else (some false)) else (some false)) else (some false))))) else (none))) else (none)) else (none)
def spinnakerlaw4_TextNumbers.f (k : Nat) (a0 : Int) (a1 : Int) (a2 : Bool) : Option (Bool) := (spinnakerref1_Decimal.f k (wrap64 (1000 + (wrap64 (Int.tmod (IntKind.u64.wrap (a1)) 1000))))).bind fun t101 => (if 1 ≤ (t101.size : Int) then ((spinnakerref1_Decimal.f k (wrap64 (Int.tmod (IntKind.u64.wrap (a0)) 1000000000))).bind fun t102 => (if a2 = true then (if 1 + t102.size ≤ 9223372036854775807 then (spinnakerlaw4_TextNumbers.j0 k (wrap64 (Int.tmod (IntKind.u64.wrap (a1)) 1000)) (t101.extract 1 t101.size) ((⟨#[45]⟩ : ByteArray) ++ t102) (wrap64 (-(wrap64 ((wrap64 (1000 * (wrap64 (Int.tmod (IntKind.u64.wrap (a0)) 1000000000)))) + (wrap64 (Int.tmod (IntKind.u64.wrap (a1)) 1000))))))) else (none)) else (spinnakerlaw4_TextNumbers.j0 k (wrap64 (Int.tmod (IntKind.u64.wrap (a1)) 1000)) (t101.extract 1 t101.size) t102 (wrap64 ((wrap64 (1000 * (wrap64 (Int.tmod (IntKind.u64.wrap (a0)) 1000000000)))) + (wrap64 (Int.tmod (IntKind.u64.wrap (a1)) 1000))))))) else (none))
theorem spinnakerlaw4_TextNumbers.mono_l : ∀ k, (∀ y0 y1 y2 y3, LeO (spinnakerlaw4_TextNumbers.j0 k y0 y1 y2 y3) (spinnakerlaw4_TextNumbers.j0 (k + 1) y0 y1 y2 y3))
  | 0 => fun _ _ _ _ r h => by simp [spinnakerlaw4_TextNumbers.j0] at h
  | k + 1 => by
    have ih0 := spinnakerlaw4_TextNumbers.mono_l k
    · intro y0 y1 y2 y3
      unfold spinnakerlaw4_TextNumbers.j0
      repeat' first
      | (with_reducible exact ih0 _ _ _ _)
      | (with_reducible exact PT.text_Number.mono _ _)
      | (with_reducible exact PT.text_Show.mono _ _)
      | (with_reducible exact spinnakerref1_Decimal.mono _ _)
      | (with_reducible exact LeO.refl _)
      | (with_reducible exact LeO.none _)
      | (with_reducible refine LeO.ite ?_ ?_)
      | (with_reducible refine LeO.bind ?_ (fun _ => ?_))
      | exact ih0 _ _ _ _
      | exact PT.text_Number.mono _ _
      | exact PT.text_Show.mono _ _
      | exact spinnakerref1_Decimal.mono _ _
      | exact LeO.none _
      | refine LeO.ite ?_ ?_
      | refine LeO.bind ?_ (fun _ => ?_)
theorem spinnakerlaw4_TextNumbers.mono : ∀ a0 a1 a2 k, LeO (spinnakerlaw4_TextNumbers.f k a0 a1 a2) (spinnakerlaw4_TextNumbers.f (k + 1) a0 a1 a2) := by
  intro a0 a1 a2 k
  have ih0 := spinnakerlaw4_TextNumbers.mono_l k
  unfold spinnakerlaw4_TextNumbers.f
  repeat' first
      | (with_reducible exact ih0 _ _ _ _)
      | (with_reducible exact PT.text_Number.mono _ _)
      | (with_reducible exact PT.text_Show.mono _ _)
      | (with_reducible exact spinnakerref1_Decimal.mono _ _)
      | (with_reducible exact LeO.refl _)
      | (with_reducible exact LeO.none _)
      | (with_reducible refine LeO.ite ?_ ?_)
      | (with_reducible refine LeO.bind ?_ (fun _ => ?_))
      | exact ih0 _ _ _ _
      | exact PT.text_Number.mono _ _
      | exact PT.text_Show.mono _ _
      | exact spinnakerref1_Decimal.mono _ _
      | exact LeO.none _
      | refine LeO.ite ?_ ?_
      | refine LeO.bind ?_ (fun _ => ?_)
set_option maxHeartbeats 8000000 in
set_option maxRecDepth 100000 in
theorem spinnakerlaw4_TextNumbers.calls (k : Nat) (a0 : Int) (a1 : Int) (a2 : Bool) (r : Bool) (w : World) (hE : Env w) (h : spinnakerlaw4_TextNumbers.f k a0 a1 a2 = some r) :
    Calls Tryd.prog 7 #[.int .i64 a0, .int .i64 a1, .bool a2] w fun e w' => e = .returned (.bool r) ∧ Below w.heap.size w w' := by
  have HB := Aside0.mk (Below.refl w.heap.size w)
  have H : ((spinnakerref1_Decimal.f k (wrap64 (1000 + (wrap64 (Int.tmod (IntKind.u64.wrap (a1)) 1000))))).bind fun t101 => (if 1 ≤ (t101.size : Int) then ((spinnakerref1_Decimal.f k (wrap64 (Int.tmod (IntKind.u64.wrap (a0)) 1000000000))).bind fun t102 => (if a2 = true then (if 1 + t102.size ≤ 9223372036854775807 then (spinnakerlaw4_TextNumbers.j0 k (wrap64 (Int.tmod (IntKind.u64.wrap (a1)) 1000)) (t101.extract 1 t101.size) ((⟨#[45]⟩ : ByteArray) ++ t102) (wrap64 (-(wrap64 ((wrap64 (1000 * (wrap64 (Int.tmod (IntKind.u64.wrap (a0)) 1000000000)))) + (wrap64 (Int.tmod (IntKind.u64.wrap (a1)) 1000))))))) else (none)) else (spinnakerlaw4_TextNumbers.j0 k (wrap64 (Int.tmod (IntKind.u64.wrap (a1)) 1000)) (t101.extract 1 t101.size) t102 (wrap64 ((wrap64 (1000 * (wrap64 (Int.tmod (IntKind.u64.wrap (a0)) 1000000000)))) + (wrap64 (Int.tmod (IntKind.u64.wrap (a1)) 1000))))))) else (none))) = some r := h
  clear h
  replace H := Option.bind_eq_some_iff.mp H
  obtain ⟨t101, A40, H⟩ := H
  replace H : (if 1 ≤ (t101.size : Int) then ((spinnakerref1_Decimal.f k (wrap64 (Int.tmod (IntKind.u64.wrap (a0)) 1000000000))).bind fun t102 => (if a2 = true then (if 1 + t102.size ≤ 9223372036854775807 then (spinnakerlaw4_TextNumbers.j0 k (wrap64 (Int.tmod (IntKind.u64.wrap (a1)) 1000)) (t101.extract 1 t101.size) ((⟨#[45]⟩ : ByteArray) ++ t102) (wrap64 (-(wrap64 ((wrap64 (1000 * (wrap64 (Int.tmod (IntKind.u64.wrap (a0)) 1000000000)))) + (wrap64 (Int.tmod (IntKind.u64.wrap (a1)) 1000))))))) else (none)) else (spinnakerlaw4_TextNumbers.j0 k (wrap64 (Int.tmod (IntKind.u64.wrap (a1)) 1000)) (t101.extract 1 t101.size) t102 (wrap64 ((wrap64 (1000 * (wrap64 (Int.tmod (IntKind.u64.wrap (a0)) 1000000000)))) + (wrap64 (Int.tmod (IntKind.u64.wrap (a1)) 1000))))))) else (none)) = some r := H
  have A4 := Aside0.mk A40
  clear A40
  by_cases c5 : 1 ≤ (t101.size : Int)
  · rw [if_pos c5] at H
    have c5b0 := eq_true c5
    have c5b1 : decide (1 ≤ (t101.size : Int)) = true := decide_eq_true c5
    clear c5
    replace H := Option.bind_eq_some_iff.mp H
    obtain ⟨t102, A60, H⟩ := H
    replace H : (if a2 = true then (if 1 + t102.size ≤ 9223372036854775807 then (spinnakerlaw4_TextNumbers.j0 k (wrap64 (Int.tmod (IntKind.u64.wrap (a1)) 1000)) (t101.extract 1 t101.size) ((⟨#[45]⟩ : ByteArray) ++ t102) (wrap64 (-(wrap64 ((wrap64 (1000 * (wrap64 (Int.tmod (IntKind.u64.wrap (a0)) 1000000000)))) + (wrap64 (Int.tmod (IntKind.u64.wrap (a1)) 1000))))))) else (none)) else (spinnakerlaw4_TextNumbers.j0 k (wrap64 (Int.tmod (IntKind.u64.wrap (a1)) 1000)) (t101.extract 1 t101.size) t102 (wrap64 ((wrap64 (1000 * (wrap64 (Int.tmod (IntKind.u64.wrap (a0)) 1000000000)))) + (wrap64 (Int.tmod (IntKind.u64.wrap (a1)) 1000)))))) = some r := H
    have A6 := Aside0.mk A60
    clear A60
    have HC7 := Aside0.mk H
    clear H
    go_enter Tryd.func7, Tryd.ntmps7
    go_upto_if 36 with (first | ((with_reducible refine gate_callee (f := 20) rfl ?_); refine goesL_ (some 28) rfl rfl Tryd.func20 (by kernel_rfl) rfl #[.int .i64 (wrap64 (1000 + (wrap64 (Int.tmod (IntKind.u64.wrap (a1)) 1000))))] rfl (by (try simp only [List.map_toArray, List.map_cons, List.map_nil]); first | done | rfl | (simp only [List.length_drop, List.length_take]; rfl)) ?_; (with_reducible refine (spinnakerref1_Decimal.calls k (wrap64 (1000 + (wrap64 (Int.tmod (IntKind.u64.wrap (a1)) 1000)))) t101 _ A4.out).mono ?_); rintro e w' ⟨rfl, ⟨nd, rfl⟩⟩; refine ⟨_, rfl, ?_⟩) | ((with_reducible refine gate_callee (f := 20) rfl ?_); refine goesL_ (some 31) rfl rfl Tryd.func20 (by kernel_rfl) rfl #[.int .i64 (wrap64 (Int.tmod (IntKind.u64.wrap (a0)) 1000000000))] rfl (by (try simp only [List.map_toArray, List.map_cons, List.map_nil]); first | done | rfl | (simp only [List.length_drop, List.length_take]; rfl)) ?_; (with_reducible refine (spinnakerref1_Decimal.calls k (wrap64 (Int.tmod (IntKind.u64.wrap (a0)) 1000000000)) t102 _ A6.out).mono ?_); rintro e w' ⟨rfl, ⟨nd, rfl⟩⟩; refine ⟨_, rfl, ?_⟩))
    (try simp only [Act.put, List.setIfInBounds_toArray, List.set_cons_zero, List.set_cons_succ])
    go_cut [10, 11] (fun v10 v11 wc => ∃ (kq : Nat) (x10_6 : ByteArray) (x11_6 : Int), v10 = .string x10_6 ∧ v11 = .int .i64 x11_6 ∧ Aside0 (spinnakerlaw4_TextNumbers.j0 kq (wrap64 (Int.tmod (IntKind.u64.wrap (a1)) 1000)) (t101.extract 1 t101.size) x10_6 x11_6 = some r) ∧ Aside0 (kq ≤ k) ∧ Aside0 (Below w.heap.size w wc))
    case first =>
      have H := HC7.out
      clear HC7
      by_cases c8 : a2 = true
      · subst c8
        have H1 : (if 1 + t102.size ≤ 9223372036854775807 then (spinnakerlaw4_TextNumbers.j0 k (wrap64 (Int.tmod (IntKind.u64.wrap (a1)) 1000)) (t101.extract 1 t101.size) ((⟨#[45]⟩ : ByteArray) ++ t102) (wrap64 (-(wrap64 ((wrap64 (1000 * (wrap64 (Int.tmod (IntKind.u64.wrap (a0)) 1000000000)))) + (wrap64 (Int.tmod (IntKind.u64.wrap (a1)) 1000))))))) else (none)) = some r := by rw [if_pos rfl] at H; exact H
        clear H
        have H := H1
        clear H1
        by_cases c9 : 1 + t102.size ≤ 9223372036854775807
        · rw [if_pos c9] at H
          have c9b0 := eq_true c9
          have c9b1 : decide (1 + t102.size ≤ 9223372036854775807) = true := decide_eq_true c9
          try have c9b2 : (9223372036854775807 < 1 + t102.size) = False := eq_false (Nat.not_lt.2 c9)
          try (have c9b3 := c9b2; simp only [ByteArray.size_append, ba_size, List.size_toArray, List.length_cons, List.length_nil, Nat.zero_add] at c9b3)
          try (have c9b4 := c9b3; simp only [ByteArray.size_extract, Nat.min_self] at c9b4)
          have H' := Aside0.mk H
          clear H
          go_wp2
          go_meet
          case rel => exact ⟨_, ((⟨#[45]⟩ : ByteArray) ++ t102), (wrap64 (-(wrap64 ((wrap64 (1000 * (wrap64 (Int.tmod (IntKind.u64.wrap (a0)) 1000000000)))) + (wrap64 (Int.tmod (IntKind.u64.wrap (a1)) 1000)))))), (by first | rfl | (simp; done) | (simp [*]; done)), (by first | rfl | (simp; done) | (simp [*]; done)), H', ⟨by first | omega | exact Nat.le_refl _⟩, ⟨by repeat (first | (with_reducible first | exact HB.out | apply below_alloc | apply pw_below_drewN | apply below_drew1) | exact HB.out)⟩⟩
        · rw [if_neg c9] at H
          exact absurd H (by simp)
      · replace c8 := Bool.eq_false_iff.mpr c8
        subst c8
        have H1 : (spinnakerlaw4_TextNumbers.j0 k (wrap64 (Int.tmod (IntKind.u64.wrap (a1)) 1000)) (t101.extract 1 t101.size) t102 (wrap64 ((wrap64 (1000 * (wrap64 (Int.tmod (IntKind.u64.wrap (a0)) 1000000000)))) + (wrap64 (Int.tmod (IntKind.u64.wrap (a1)) 1000))))) = some r := by rw [if_neg (show ¬ (false = true) by decide)] at H; exact H
        clear H
        have H := H1
        clear H1
        have H' := Aside0.mk H
        clear H
        go_wp2
        go_meet
        case rel => exact ⟨_, (t102), (wrap64 ((wrap64 (1000 * (wrap64 (Int.tmod (IntKind.u64.wrap (a0)) 1000000000)))) + (wrap64 (Int.tmod (IntKind.u64.wrap (a1)) 1000)))), (by first | rfl | (simp; done) | (simp [*]; done)), (by first | rfl | (simp; done) | (simp [*]; done)), H', ⟨by first | omega | exact Nat.le_refl _⟩, ⟨by repeat (first | (with_reducible first | exact HB.out | apply below_alloc | apply pw_below_drewN | apply below_drew1) | exact HB.out)⟩⟩
    case rest =>
      clear HC7
      try clear c2
      try clear p2
      try clear c5
      try clear c5b0
      try clear c5b1
      try clear p6
      try clear c7
      try clear c8
      try clear c9
      try clear c9b0
      try clear c9b1
      try clear c9b2
      obtain ⟨kq, x10_6, x11_6, rfl, rfl, HA, HJ6, HB⟩ := hcut
      cases kq with
      | zero => exact absurd HA.out (by simp [spinnakerlaw4_TextNumbers.j0])
      | succ kj6 =>
        have H := HA.out
        clear HA
        simp only [spinnakerlaw4_TextNumbers.j0] at H
        by_cases c10 : x10_6.size + 1 ≤ 9223372036854775807
        · rw [if_pos c10] at H
          have c10b0 := eq_true c10
          have c10b1 : decide (x10_6.size + 1 ≤ 9223372036854775807) = true := decide_eq_true c10
          try have c10b2 : (9223372036854775807 < x10_6.size + 1) = False := eq_false (Nat.not_lt.2 c10)
          try (have c10b3 := c10b2; simp only [ByteArray.size_append, ba_size, List.size_toArray, List.length_cons, List.length_nil, Nat.zero_add] at c10b3)
          try (have c10b4 := c10b3; simp only [ByteArray.size_extract, Nat.min_self] at c10b4)
          by_cases c11 : (x10_6 ++ (⟨#[46]⟩ : ByteArray)).size + (t101.extract 1 t101.size).size ≤ 9223372036854775807
          · rw [if_pos c11] at H
            have c11b0 := eq_true c11
            have c11b1 : decide ((x10_6 ++ (⟨#[46]⟩ : ByteArray)).size + (t101.extract 1 t101.size).size ≤ 9223372036854775807) = true := decide_eq_true c11
            try have c11b2 : (9223372036854775807 < (x10_6 ++ (⟨#[46]⟩ : ByteArray)).size + (t101.extract 1 t101.size).size) = False := eq_false (Nat.not_lt.2 c11)
            try (have c11b3 := c11b2; simp only [ByteArray.size_append, ba_size, List.size_toArray, List.length_cons, List.length_nil, Nat.zero_add] at c11b3)
            try (have c11b4 := c11b3; simp only [ByteArray.size_extract, Nat.min_self] at c11b4)
            replace H := Option.bind_eq_some_iff.mp H
            obtain ⟨⟨t103, t104⟩, A120, H⟩ := H
            replace H : (if ((x10_6 ++ (⟨#[46]⟩ : ByteArray)) ++ (t101.extract 1 t101.size)).size + 1 ≤ 9223372036854775807 then ((PT.text_Number.f kj6 (((x10_6 ++ (⟨#[46]⟩ : ByteArray)) ++ (t101.extract 1 t101.size)) ++ (⟨#[48]⟩ : ByteArray))).bind fun bt105 => ((PT.text_Number.f kj6 x10_6).bind fun bt107 => ((spinnakerlaw4_told.f).bind fun t109 => (if t109 = true then (if t104 = true then (if t103 = x11_6 then (if bt105.2 = true then (some false) else (if bt105.1 = 0 then (if bt107.2 = true then (if bt107.1 = x11_6 then (if (wrap64 (Int.tmod (IntKind.u64.wrap (a1)) 1000)) = 0 then (some true) else ((PT.text_Show.f kj6 t103).bind fun t110 => ((PT.text_Show.f kj6 bt107.1).bind fun t111 => (some (t110.toList != t111.toList))))) else (if (wrap64 (Int.tmod (IntKind.u64.wrap (a1)) 1000)) = 0 then (some false) else ((PT.text_Show.f kj6 t103).bind fun t112 => ((PT.text_Show.f kj6 bt107.1).bind fun t113 => (some (t112.toList != t113.toList)))))) else (some false)) else (some false))) else (some false)) else (some false)) else (some false))))) else (none)) = some r := H
            have A12 := Aside0.mk A120
            clear A120
            by_cases c13 : ((x10_6 ++ (⟨#[46]⟩ : ByteArray)) ++ (t101.extract 1 t101.size)).size + 1 ≤ 9223372036854775807
            · rw [if_pos c13] at H
              have c13b0 := eq_true c13
              have c13b1 : decide (((x10_6 ++ (⟨#[46]⟩ : ByteArray)) ++ (t101.extract 1 t101.size)).size + 1 ≤ 9223372036854775807) = true := decide_eq_true c13
              try have c13b2 : (9223372036854775807 < ((x10_6 ++ (⟨#[46]⟩ : ByteArray)) ++ (t101.extract 1 t101.size)).size + 1) = False := eq_false (Nat.not_lt.2 c13)
              try (have c13b3 := c13b2; simp only [ByteArray.size_append, ba_size, List.size_toArray, List.length_cons, List.length_nil, Nat.zero_add] at c13b3)
              try (have c13b4 := c13b3; simp only [ByteArray.size_extract, Nat.min_self] at c13b4)
              replace H := Option.bind_eq_some_iff.mp H
              obtain ⟨⟨t105, t106⟩, A140, H⟩ := H
              replace H : ((PT.text_Number.f kj6 x10_6).bind fun bt107 => ((spinnakerlaw4_told.f).bind fun t109 => (if t109 = true then (if t104 = true then (if t103 = x11_6 then (if t106 = true then (some false) else (if t105 = 0 then (if bt107.2 = true then (if bt107.1 = x11_6 then (if (wrap64 (Int.tmod (IntKind.u64.wrap (a1)) 1000)) = 0 then (some true) else ((PT.text_Show.f kj6 t103).bind fun t110 => ((PT.text_Show.f kj6 bt107.1).bind fun t111 => (some (t110.toList != t111.toList))))) else (if (wrap64 (Int.tmod (IntKind.u64.wrap (a1)) 1000)) = 0 then (some false) else ((PT.text_Show.f kj6 t103).bind fun t112 => ((PT.text_Show.f kj6 bt107.1).bind fun t113 => (some (t112.toList != t113.toList)))))) else (some false)) else (some false))) else (some false)) else (some false)) else (some false)))) = some r := H
              have A14 := Aside0.mk A140
              clear A140
              replace H := Option.bind_eq_some_iff.mp H
              obtain ⟨⟨t107, t108⟩, A150, H⟩ := H
              replace H : ((spinnakerlaw4_told.f).bind fun t109 => (if t109 = true then (if t104 = true then (if t103 = x11_6 then (if t106 = true then (some false) else (if t105 = 0 then (if t108 = true then (if t107 = x11_6 then (if (wrap64 (Int.tmod (IntKind.u64.wrap (a1)) 1000)) = 0 then (some true) else ((PT.text_Show.f kj6 t103).bind fun t110 => ((PT.text_Show.f kj6 t107).bind fun t111 => (some (t110.toList != t111.toList))))) else (if (wrap64 (Int.tmod (IntKind.u64.wrap (a1)) 1000)) = 0 then (some false) else ((PT.text_Show.f kj6 t103).bind fun t112 => ((PT.text_Show.f kj6 t107).bind fun t113 => (some (t112.toList != t113.toList)))))) else (some false)) else (some false))) else (some false)) else (some false)) else (some false))) = some r := H
              have A15 := Aside0.mk A150
              clear A150
              replace H := Option.bind_eq_some_iff.mp H
              obtain ⟨t109, A160, H⟩ := H
              replace H : (if t109 = true then (if t104 = true then (if t103 = x11_6 then (if t106 = true then (some false) else (if t105 = 0 then (if t108 = true then (if t107 = x11_6 then (if (wrap64 (Int.tmod (IntKind.u64.wrap (a1)) 1000)) = 0 then (some true) else ((PT.text_Show.f kj6 t103).bind fun t110 => ((PT.text_Show.f kj6 t107).bind fun t111 => (some (t110.toList != t111.toList))))) else (if (wrap64 (Int.tmod (IntKind.u64.wrap (a1)) 1000)) = 0 then (some false) else ((PT.text_Show.f kj6 t103).bind fun t112 => ((PT.text_Show.f kj6 t107).bind fun t113 => (some (t112.toList != t113.toList)))))) else (some false)) else (some false))) else (some false)) else (some false)) else (some false)) = some r := H
              have A16 := Aside0.mk A160
              clear A160
              by_cases c17 : t109 = true
              · subst c17
                have H1 : (if t104 = true then (if t103 = x11_6 then (if t106 = true then (some false) else (if t105 = 0 then (if t108 = true then (if t107 = x11_6 then (if (wrap64 (Int.tmod (IntKind.u64.wrap (a1)) 1000)) = 0 then (some true) else ((PT.text_Show.f kj6 t103).bind fun t110 => ((PT.text_Show.f kj6 t107).bind fun t111 => (some (t110.toList != t111.toList))))) else (if (wrap64 (Int.tmod (IntKind.u64.wrap (a1)) 1000)) = 0 then (some false) else ((PT.text_Show.f kj6 t103).bind fun t112 => ((PT.text_Show.f kj6 t107).bind fun t113 => (some (t112.toList != t113.toList)))))) else (some false)) else (some false))) else (some false)) else (some false)) = some r := by rw [if_pos rfl] at H; exact H
                clear H
                have H := H1
                clear H1
                by_cases c18 : t104 = true
                · subst c18
                  have H1 : (if t103 = x11_6 then (if t106 = true then (some false) else (if t105 = 0 then (if t108 = true then (if t107 = x11_6 then (if (wrap64 (Int.tmod (IntKind.u64.wrap (a1)) 1000)) = 0 then (some true) else ((PT.text_Show.f kj6 t103).bind fun t110 => ((PT.text_Show.f kj6 t107).bind fun t111 => (some (t110.toList != t111.toList))))) else (if (wrap64 (Int.tmod (IntKind.u64.wrap (a1)) 1000)) = 0 then (some false) else ((PT.text_Show.f kj6 t103).bind fun t112 => ((PT.text_Show.f kj6 t107).bind fun t113 => (some (t112.toList != t113.toList)))))) else (some false)) else (some false))) else (some false)) = some r := by rw [if_pos rfl] at H; exact H
                  clear H
                  have H := H1
                  clear H1
                  by_cases c19 : t103 = x11_6
                  · rw [if_pos c19] at H
                    have c19b0 : (t103 == x11_6) = true := beq_iff_eq.mpr c19
                    have c19b1 : (t103 != x11_6) = false := bne_eq_false_iff_eq.mpr c19
                    clear c19
                    by_cases c20 : t106 = true
                    · subst c20
                      have H1 : (some false) = some r := by rw [if_pos rfl] at H; exact H
                      clear H
                      have H := H1
                      clear H1
                      obtain rfl := Option.some.inj H
                      go_wp2_with (first | ((with_reducible refine gate_callee (f := 12) rfl ?_); refine goesL_ (some 46) rfl rfl Tryd.func12 (by kernel_rfl) rfl #[.string ((x10_6 ++ (⟨#[46]⟩ : ByteArray)) ++ (t101.extract 1 t101.size))] rfl (by (try simp only [List.map_toArray, List.map_cons, List.map_nil]); first | done | rfl | (simp only [List.length_drop, List.length_take]; rfl)) ?_; (with_reducible refine (PT.text_Number.calls kj6 ((x10_6 ++ (⟨#[46]⟩ : ByteArray)) ++ (t101.extract 1 t101.size)) t103 true _ ?side1 A12.out).mono ?_); (case side1 => exact Env.step hE (by repeat (first | (with_reducible first | exact HB.out | apply below_alloc | apply pw_below_drewN | apply below_drew1) | exact HB.out))); rintro e w21 ⟨rfl, hb⟩; refine ⟨_, rfl, ?_⟩; have n0_ := Aside0.mk (below_step (by repeat (first | (with_reducible first | exact HB.out | apply below_alloc | apply pw_below_drewN | apply below_drew1) | exact HB.out)) hb); clear HB; have HB := n0_; clear n0_; (try clear hb); (try clear hb2); (try clear hk); (try clear hi)) | ((with_reducible refine gate_callee (f := 12) rfl ?_); refine goesL_ (some 55) rfl rfl Tryd.func12 (by kernel_rfl) rfl #[.string (((x10_6 ++ (⟨#[46]⟩ : ByteArray)) ++ (t101.extract 1 t101.size)) ++ (⟨#[48]⟩ : ByteArray))] rfl (by (try simp only [List.map_toArray, List.map_cons, List.map_nil]); first | done | rfl | (simp only [List.length_drop, List.length_take]; rfl)) ?_; (with_reducible refine (PT.text_Number.calls kj6 (((x10_6 ++ (⟨#[46]⟩ : ByteArray)) ++ (t101.extract 1 t101.size)) ++ (⟨#[48]⟩ : ByteArray)) t105 true _ ?side1 A14.out).mono ?_); (case side1 => exact Env.step hE (by repeat (first | (with_reducible first | exact HB.out | apply below_alloc | apply pw_below_drewN | apply below_drew1) | exact HB.out))); rintro e w22 ⟨rfl, hb⟩; refine ⟨_, rfl, ?_⟩; have n0_ := Aside0.mk (below_step (by repeat (first | (with_reducible first | exact HB.out | apply below_alloc | apply pw_below_drewN | apply below_drew1) | exact HB.out)) hb); clear HB; have HB := n0_; clear n0_; (try clear hb); (try clear hb2); (try clear hk); (try clear hi)) | ((with_reducible refine gate_callee (f := 12) rfl ?_); refine goesL_ (some 60) rfl rfl Tryd.func12 (by kernel_rfl) rfl #[.string x10_6] rfl (by (try simp only [List.map_toArray, List.map_cons, List.map_nil]); first | done | rfl | (simp only [List.length_drop, List.length_take]; rfl)) ?_; (with_reducible refine (PT.text_Number.calls kj6 x10_6 t107 t108 _ ?side1 A15.out).mono ?_); (case side1 => exact Env.step hE (by repeat (first | (with_reducible first | exact HB.out | apply below_alloc | apply pw_below_drewN | apply below_drew1) | exact HB.out))); rintro e w23 ⟨rfl, hb⟩; refine ⟨_, rfl, ?_⟩; have n0_ := Aside0.mk (below_step (by repeat (first | (with_reducible first | exact HB.out | apply below_alloc | apply pw_below_drewN | apply below_drew1) | exact HB.out)) hb); clear HB; have HB := n0_; clear n0_; (try clear hb); (try clear hb2); (try clear hk); (try clear hi)) | ((with_reducible refine gate_callee (f := 11) rfl ?_); refine goesL_ (some 63) rfl rfl Tryd.func11 (by kernel_rfl) rfl #[] rfl (by (try simp only [List.map_toArray, List.map_cons, List.map_nil]); first | done | rfl | (simp only [List.length_drop, List.length_take]; rfl)) ?_; (with_reducible refine (spinnakerlaw4_told.calls  true _ ?side1 A16.out).mono ?_); (case side1 => exact Env.step hE (by repeat (first | (with_reducible first | exact HB.out | apply below_alloc | apply pw_below_drewN | apply below_drew1) | exact HB.out))); rintro e w24 ⟨rfl, hb⟩; refine ⟨_, rfl, ?_⟩; have n0_ := Aside0.mk (below_step (by repeat (first | (with_reducible first | exact HB.out | apply below_alloc | apply pw_below_drewN | apply below_drew1) | exact HB.out)) hb); clear HB; have HB := n0_; clear n0_; (try clear hb); (try clear hb2); (try clear hk); (try clear hi)))
                      go_ret
                      exact ⟨by first | rfl | (simp [errW_none, errW_some] <;> rfl) | (simp [*, errW_none, errW_some] <;> rfl), by repeat (first | (with_reducible first | exact HB.out | apply below_alloc | apply pw_below_drewN | apply below_drew1) | exact HB.out)⟩
                    · replace c20 := Bool.eq_false_iff.mpr c20
                      subst c20
                      have H1 : (if t105 = 0 then (if t108 = true then (if t107 = x11_6 then (if (wrap64 (Int.tmod (IntKind.u64.wrap (a1)) 1000)) = 0 then (some true) else ((PT.text_Show.f kj6 t103).bind fun t110 => ((PT.text_Show.f kj6 t107).bind fun t111 => (some (t110.toList != t111.toList))))) else (if (wrap64 (Int.tmod (IntKind.u64.wrap (a1)) 1000)) = 0 then (some false) else ((PT.text_Show.f kj6 t103).bind fun t112 => ((PT.text_Show.f kj6 t107).bind fun t113 => (some (t112.toList != t113.toList)))))) else (some false)) else (some false)) = some r := by rw [if_neg (show ¬ (false = true) by decide)] at H; exact H
                      clear H
                      have H := H1
                      clear H1
                      by_cases c25 : t105 = 0
                      · rw [if_pos c25] at H
                        have c25b0 : (t105 == 0) = true := beq_iff_eq.mpr c25
                        have c25b1 : (t105 != 0) = false := bne_eq_false_iff_eq.mpr c25
                        clear c25
                        by_cases c26 : t108 = true
                        · subst c26
                          have H1 : (if t107 = x11_6 then (if (wrap64 (Int.tmod (IntKind.u64.wrap (a1)) 1000)) = 0 then (some true) else ((PT.text_Show.f kj6 t103).bind fun t110 => ((PT.text_Show.f kj6 t107).bind fun t111 => (some (t110.toList != t111.toList))))) else (if (wrap64 (Int.tmod (IntKind.u64.wrap (a1)) 1000)) = 0 then (some false) else ((PT.text_Show.f kj6 t103).bind fun t112 => ((PT.text_Show.f kj6 t107).bind fun t113 => (some (t112.toList != t113.toList)))))) = some r := by rw [if_pos rfl] at H; exact H
                          clear H
                          have H := H1
                          clear H1
                          by_cases c27 : t107 = x11_6
                          · rw [if_pos c27] at H
                            have c27b0 : (t107 == x11_6) = true := beq_iff_eq.mpr c27
                            have c27b1 : (t107 != x11_6) = false := bne_eq_false_iff_eq.mpr c27
                            clear c27
                            by_cases c28 : (wrap64 (Int.tmod (IntKind.u64.wrap (a1)) 1000)) = 0
                            · rw [if_pos c28] at H
                              have c28b0 : ((wrap64 (Int.tmod (IntKind.u64.wrap (a1)) 1000)) == 0) = true := beq_iff_eq.mpr c28
                              have c28b1 : ((wrap64 (Int.tmod (IntKind.u64.wrap (a1)) 1000)) != 0) = false := bne_eq_false_iff_eq.mpr c28
                              clear c28
                              obtain rfl := Option.some.inj H
                              go_wp2_with (first | ((with_reducible refine gate_callee (f := 12) rfl ?_); refine goesL_ (some 46) rfl rfl Tryd.func12 (by kernel_rfl) rfl #[.string ((x10_6 ++ (⟨#[46]⟩ : ByteArray)) ++ (t101.extract 1 t101.size))] rfl (by (try simp only [List.map_toArray, List.map_cons, List.map_nil]); first | done | rfl | (simp only [List.length_drop, List.length_take]; rfl)) ?_; (with_reducible refine (PT.text_Number.calls kj6 ((x10_6 ++ (⟨#[46]⟩ : ByteArray)) ++ (t101.extract 1 t101.size)) t103 true _ ?side1 A12.out).mono ?_); (case side1 => exact Env.step hE (by repeat (first | (with_reducible first | exact HB.out | apply below_alloc | apply pw_below_drewN | apply below_drew1) | exact HB.out))); rintro e w29 ⟨rfl, hb⟩; refine ⟨_, rfl, ?_⟩; have n0_ := Aside0.mk (below_step (by repeat (first | (with_reducible first | exact HB.out | apply below_alloc | apply pw_below_drewN | apply below_drew1) | exact HB.out)) hb); clear HB; have HB := n0_; clear n0_; (try clear hb); (try clear hb2); (try clear hk); (try clear hi)) | ((with_reducible refine gate_callee (f := 12) rfl ?_); refine goesL_ (some 55) rfl rfl Tryd.func12 (by kernel_rfl) rfl #[.string (((x10_6 ++ (⟨#[46]⟩ : ByteArray)) ++ (t101.extract 1 t101.size)) ++ (⟨#[48]⟩ : ByteArray))] rfl (by (try simp only [List.map_toArray, List.map_cons, List.map_nil]); first | done | rfl | (simp only [List.length_drop, List.length_take]; rfl)) ?_; (with_reducible refine (PT.text_Number.calls kj6 (((x10_6 ++ (⟨#[46]⟩ : ByteArray)) ++ (t101.extract 1 t101.size)) ++ (⟨#[48]⟩ : ByteArray)) t105 false _ ?side1 A14.out).mono ?_); (case side1 => exact Env.step hE (by repeat (first | (with_reducible first | exact HB.out | apply below_alloc | apply pw_below_drewN | apply below_drew1) | exact HB.out))); rintro e w30 ⟨rfl, hb⟩; refine ⟨_, rfl, ?_⟩; have n0_ := Aside0.mk (below_step (by repeat (first | (with_reducible first | exact HB.out | apply below_alloc | apply pw_below_drewN | apply below_drew1) | exact HB.out)) hb); clear HB; have HB := n0_; clear n0_; (try clear hb); (try clear hb2); (try clear hk); (try clear hi)) | ((with_reducible refine gate_callee (f := 12) rfl ?_); refine goesL_ (some 60) rfl rfl Tryd.func12 (by kernel_rfl) rfl #[.string x10_6] rfl (by (try simp only [List.map_toArray, List.map_cons, List.map_nil]); first | done | rfl | (simp only [List.length_drop, List.length_take]; rfl)) ?_; (with_reducible refine (PT.text_Number.calls kj6 x10_6 t107 true _ ?side1 A15.out).mono ?_); (case side1 => exact Env.step hE (by repeat (first | (with_reducible first | exact HB.out | apply below_alloc | apply pw_below_drewN | apply below_drew1) | exact HB.out))); rintro e w31 ⟨rfl, hb⟩; refine ⟨_, rfl, ?_⟩; have n0_ := Aside0.mk (below_step (by repeat (first | (with_reducible first | exact HB.out | apply below_alloc | apply pw_below_drewN | apply below_drew1) | exact HB.out)) hb); clear HB; have HB := n0_; clear n0_; (try clear hb); (try clear hb2); (try clear hk); (try clear hi)) | ((with_reducible refine gate_callee (f := 11) rfl ?_); refine goesL_ (some 63) rfl rfl Tryd.func11 (by kernel_rfl) rfl #[] rfl (by (try simp only [List.map_toArray, List.map_cons, List.map_nil]); first | done | rfl | (simp only [List.length_drop, List.length_take]; rfl)) ?_; (with_reducible refine (spinnakerlaw4_told.calls  true _ ?side1 A16.out).mono ?_); (case side1 => exact Env.step hE (by repeat (first | (with_reducible first | exact HB.out | apply below_alloc | apply pw_below_drewN | apply below_drew1) | exact HB.out))); rintro e w32 ⟨rfl, hb⟩; refine ⟨_, rfl, ?_⟩; have n0_ := Aside0.mk (below_step (by repeat (first | (with_reducible first | exact HB.out | apply below_alloc | apply pw_below_drewN | apply below_drew1) | exact HB.out)) hb); clear HB; have HB := n0_; clear n0_; (try clear hb); (try clear hb2); (try clear hk); (try clear hi)))
                              go_ret
                              exact ⟨by first | rfl | (simp [errW_none, errW_some] <;> rfl) | (simp [*, errW_none, errW_some] <;> rfl), by repeat (first | (with_reducible first | exact HB.out | apply below_alloc | apply pw_below_drewN | apply below_drew1) | exact HB.out)⟩
                            · rw [if_neg c28] at H
                              have c28b0 : ((wrap64 (Int.tmod (IntKind.u64.wrap (a1)) 1000)) == 0) = false := beq_eq_false_iff_ne.mpr c28
                              have c28b1 : ((wrap64 (Int.tmod (IntKind.u64.wrap (a1)) 1000)) != 0) = true := bne_iff_ne.mpr c28
                              replace H := Option.bind_eq_some_iff.mp H
                              obtain ⟨t110, A330, H⟩ := H
                              replace H : ((PT.text_Show.f kj6 t107).bind fun t111 => (some (t110.toList != t111.toList))) = some r := H
                              have A33 := Aside0.mk A330
                              clear A330
                              replace H := Option.bind_eq_some_iff.mp H
                              obtain ⟨t111, A340, H⟩ := H
                              replace H : (some (t110.toList != t111.toList)) = some r := H
                              have A34 := Aside0.mk A340
                              clear A340
                              obtain rfl := Option.some.inj H
                              go_wp2_with (first | ((with_reducible refine gate_callee (f := 12) rfl ?_); refine goesL_ (some 46) rfl rfl Tryd.func12 (by kernel_rfl) rfl #[.string ((x10_6 ++ (⟨#[46]⟩ : ByteArray)) ++ (t101.extract 1 t101.size))] rfl (by (try simp only [List.map_toArray, List.map_cons, List.map_nil]); first | done | rfl | (simp only [List.length_drop, List.length_take]; rfl)) ?_; (with_reducible refine (PT.text_Number.calls kj6 ((x10_6 ++ (⟨#[46]⟩ : ByteArray)) ++ (t101.extract 1 t101.size)) t103 true _ ?side1 A12.out).mono ?_); (case side1 => exact Env.step hE (by repeat (first | (with_reducible first | exact HB.out | apply below_alloc | apply pw_below_drewN | apply below_drew1) | exact HB.out))); rintro e w35 ⟨rfl, hb⟩; refine ⟨_, rfl, ?_⟩; have n0_ := Aside0.mk (below_step (by repeat (first | (with_reducible first | exact HB.out | apply below_alloc | apply pw_below_drewN | apply below_drew1) | exact HB.out)) hb); clear HB; have HB := n0_; clear n0_; (try clear hb); (try clear hb2); (try clear hk); (try clear hi)) | ((with_reducible refine gate_callee (f := 12) rfl ?_); refine goesL_ (some 55) rfl rfl Tryd.func12 (by kernel_rfl) rfl #[.string (((x10_6 ++ (⟨#[46]⟩ : ByteArray)) ++ (t101.extract 1 t101.size)) ++ (⟨#[48]⟩ : ByteArray))] rfl (by (try simp only [List.map_toArray, List.map_cons, List.map_nil]); first | done | rfl | (simp only [List.length_drop, List.length_take]; rfl)) ?_; (with_reducible refine (PT.text_Number.calls kj6 (((x10_6 ++ (⟨#[46]⟩ : ByteArray)) ++ (t101.extract 1 t101.size)) ++ (⟨#[48]⟩ : ByteArray)) t105 false _ ?side1 A14.out).mono ?_); (case side1 => exact Env.step hE (by repeat (first | (with_reducible first | exact HB.out | apply below_alloc | apply pw_below_drewN | apply below_drew1) | exact HB.out))); rintro e w36 ⟨rfl, hb⟩; refine ⟨_, rfl, ?_⟩; have n0_ := Aside0.mk (below_step (by repeat (first | (with_reducible first | exact HB.out | apply below_alloc | apply pw_below_drewN | apply below_drew1) | exact HB.out)) hb); clear HB; have HB := n0_; clear n0_; (try clear hb); (try clear hb2); (try clear hk); (try clear hi)) | ((with_reducible refine gate_callee (f := 12) rfl ?_); refine goesL_ (some 60) rfl rfl Tryd.func12 (by kernel_rfl) rfl #[.string x10_6] rfl (by (try simp only [List.map_toArray, List.map_cons, List.map_nil]); first | done | rfl | (simp only [List.length_drop, List.length_take]; rfl)) ?_; (with_reducible refine (PT.text_Number.calls kj6 x10_6 t107 true _ ?side1 A15.out).mono ?_); (case side1 => exact Env.step hE (by repeat (first | (with_reducible first | exact HB.out | apply below_alloc | apply pw_below_drewN | apply below_drew1) | exact HB.out))); rintro e w37 ⟨rfl, hb⟩; refine ⟨_, rfl, ?_⟩; have n0_ := Aside0.mk (below_step (by repeat (first | (with_reducible first | exact HB.out | apply below_alloc | apply pw_below_drewN | apply below_drew1) | exact HB.out)) hb); clear HB; have HB := n0_; clear n0_; (try clear hb); (try clear hb2); (try clear hk); (try clear hi)) | ((with_reducible refine gate_callee (f := 11) rfl ?_); refine goesL_ (some 63) rfl rfl Tryd.func11 (by kernel_rfl) rfl #[] rfl (by (try simp only [List.map_toArray, List.map_cons, List.map_nil]); first | done | rfl | (simp only [List.length_drop, List.length_take]; rfl)) ?_; (with_reducible refine (spinnakerlaw4_told.calls  true _ ?side1 A16.out).mono ?_); (case side1 => exact Env.step hE (by repeat (first | (with_reducible first | exact HB.out | apply below_alloc | apply pw_below_drewN | apply below_drew1) | exact HB.out))); rintro e w38 ⟨rfl, hb⟩; refine ⟨_, rfl, ?_⟩; have n0_ := Aside0.mk (below_step (by repeat (first | (with_reducible first | exact HB.out | apply below_alloc | apply pw_below_drewN | apply below_drew1) | exact HB.out)) hb); clear HB; have HB := n0_; clear n0_; (try clear hb); (try clear hb2); (try clear hk); (try clear hi)) | (go_at_call 17; (with_reducible refine (PT.text_Show.calls kj6 t103 t110 _ ?side1 A33.out).mono ?_); (case side1 => exact Env.step hE (by repeat (first | (with_reducible first | exact HB.out | apply below_alloc | apply pw_below_drewN | apply below_drew1) | exact HB.out))); rintro e w39 ⟨rfl, hb⟩; have n0_ := Aside0.mk (below_step (by repeat (first | (with_reducible first | exact HB.out | apply below_alloc | apply pw_below_drewN | apply below_drew1) | exact HB.out)) hb); clear HB; have HB := n0_; clear n0_; (try clear hb); (try clear hb2); (try clear hk); (try clear hi)) | (go_at_call 17; (with_reducible refine (PT.text_Show.calls kj6 t107 t111 _ ?side1 A34.out).mono ?_); (case side1 => exact Env.step hE (by repeat (first | (with_reducible first | exact HB.out | apply below_alloc | apply pw_below_drewN | apply below_drew1) | exact HB.out))); rintro e w40 ⟨rfl, hb⟩; have n0_ := Aside0.mk (below_step (by repeat (first | (with_reducible first | exact HB.out | apply below_alloc | apply pw_below_drewN | apply below_drew1) | exact HB.out)) hb); clear HB; have HB := n0_; clear n0_; (try clear hb); (try clear hb2); (try clear hk); (try clear hi)))
                              go_ret
                              exact ⟨by first | rfl | (simp [errW_none, errW_some] <;> rfl) | (simp [*, errW_none, errW_some] <;> rfl), by repeat (first | (with_reducible first | exact HB.out | apply below_alloc | apply pw_below_drewN | apply below_drew1) | exact HB.out)⟩
                          · rw [if_neg c27] at H
                            have c27b0 : (t107 == x11_6) = false := beq_eq_false_iff_ne.mpr c27
                            have c27b1 : (t107 != x11_6) = true := bne_iff_ne.mpr c27
                            by_cases c41 : (wrap64 (Int.tmod (IntKind.u64.wrap (a1)) 1000)) = 0
                            · rw [if_pos c41] at H
                              have c41b0 : ((wrap64 (Int.tmod (IntKind.u64.wrap (a1)) 1000)) == 0) = true := beq_iff_eq.mpr c41
                              have c41b1 : ((wrap64 (Int.tmod (IntKind.u64.wrap (a1)) 1000)) != 0) = false := bne_eq_false_iff_eq.mpr c41
                              clear c41
                              obtain rfl := Option.some.inj H
                              go_wp2_with (first | ((with_reducible refine gate_callee (f := 12) rfl ?_); refine goesL_ (some 46) rfl rfl Tryd.func12 (by kernel_rfl) rfl #[.string ((x10_6 ++ (⟨#[46]⟩ : ByteArray)) ++ (t101.extract 1 t101.size))] rfl (by (try simp only [List.map_toArray, List.map_cons, List.map_nil]); first | done | rfl | (simp only [List.length_drop, List.length_take]; rfl)) ?_; (with_reducible refine (PT.text_Number.calls kj6 ((x10_6 ++ (⟨#[46]⟩ : ByteArray)) ++ (t101.extract 1 t101.size)) t103 true _ ?side1 A12.out).mono ?_); (case side1 => exact Env.step hE (by repeat (first | (with_reducible first | exact HB.out | apply below_alloc | apply pw_below_drewN | apply below_drew1) | exact HB.out))); rintro e w42 ⟨rfl, hb⟩; refine ⟨_, rfl, ?_⟩; have n0_ := Aside0.mk (below_step (by repeat (first | (with_reducible first | exact HB.out | apply below_alloc | apply pw_below_drewN | apply below_drew1) | exact HB.out)) hb); clear HB; have HB := n0_; clear n0_; (try clear hb); (try clear hb2); (try clear hk); (try clear hi)) | ((with_reducible refine gate_callee (f := 12) rfl ?_); refine goesL_ (some 55) rfl rfl Tryd.func12 (by kernel_rfl) rfl #[.string (((x10_6 ++ (⟨#[46]⟩ : ByteArray)) ++ (t101.extract 1 t101.size)) ++ (⟨#[48]⟩ : ByteArray))] rfl (by (try simp only [List.map_toArray, List.map_cons, List.map_nil]); first | done | rfl | (simp only [List.length_drop, List.length_take]; rfl)) ?_; (with_reducible refine (PT.text_Number.calls kj6 (((x10_6 ++ (⟨#[46]⟩ : ByteArray)) ++ (t101.extract 1 t101.size)) ++ (⟨#[48]⟩ : ByteArray)) t105 false _ ?side1 A14.out).mono ?_); (case side1 => exact Env.step hE (by repeat (first | (with_reducible first | exact HB.out | apply below_alloc | apply pw_below_drewN | apply below_drew1) | exact HB.out))); rintro e w43 ⟨rfl, hb⟩; refine ⟨_, rfl, ?_⟩; have n0_ := Aside0.mk (below_step (by repeat (first | (with_reducible first | exact HB.out | apply below_alloc | apply pw_below_drewN | apply below_drew1) | exact HB.out)) hb); clear HB; have HB := n0_; clear n0_; (try clear hb); (try clear hb2); (try clear hk); (try clear hi)) | ((with_reducible refine gate_callee (f := 12) rfl ?_); refine goesL_ (some 60) rfl rfl Tryd.func12 (by kernel_rfl) rfl #[.string x10_6] rfl (by (try simp only [List.map_toArray, List.map_cons, List.map_nil]); first | done | rfl | (simp only [List.length_drop, List.length_take]; rfl)) ?_; (with_reducible refine (PT.text_Number.calls kj6 x10_6 t107 true _ ?side1 A15.out).mono ?_); (case side1 => exact Env.step hE (by repeat (first | (with_reducible first | exact HB.out | apply below_alloc | apply pw_below_drewN | apply below_drew1) | exact HB.out))); rintro e w44 ⟨rfl, hb⟩; refine ⟨_, rfl, ?_⟩; have n0_ := Aside0.mk (below_step (by repeat (first | (with_reducible first | exact HB.out | apply below_alloc | apply pw_below_drewN | apply below_drew1) | exact HB.out)) hb); clear HB; have HB := n0_; clear n0_; (try clear hb); (try clear hb2); (try clear hk); (try clear hi)) | ((with_reducible refine gate_callee (f := 11) rfl ?_); refine goesL_ (some 63) rfl rfl Tryd.func11 (by kernel_rfl) rfl #[] rfl (by (try simp only [List.map_toArray, List.map_cons, List.map_nil]); first | done | rfl | (simp only [List.length_drop, List.length_take]; rfl)) ?_; (with_reducible refine (spinnakerlaw4_told.calls  true _ ?side1 A16.out).mono ?_); (case side1 => exact Env.step hE (by repeat (first | (with_reducible first | exact HB.out | apply below_alloc | apply pw_below_drewN | apply below_drew1) | exact HB.out))); rintro e w45 ⟨rfl, hb⟩; refine ⟨_, rfl, ?_⟩; have n0_ := Aside0.mk (below_step (by repeat (first | (with_reducible first | exact HB.out | apply below_alloc | apply pw_below_drewN | apply below_drew1) | exact HB.out)) hb); clear HB; have HB := n0_; clear n0_; (try clear hb); (try clear hb2); (try clear hk); (try clear hi)))
                              go_ret
                              exact ⟨by first | rfl | (simp [errW_none, errW_some] <;> rfl) | (simp [*, errW_none, errW_some] <;> rfl), by repeat (first | (with_reducible first | exact HB.out | apply below_alloc | apply pw_below_drewN | apply below_drew1) | exact HB.out)⟩
                            · rw [if_neg c41] at H
                              have c41b0 : ((wrap64 (Int.tmod (IntKind.u64.wrap (a1)) 1000)) == 0) = false := beq_eq_false_iff_ne.mpr c41
                              have c41b1 : ((wrap64 (Int.tmod (IntKind.u64.wrap (a1)) 1000)) != 0) = true := bne_iff_ne.mpr c41
                              replace H := Option.bind_eq_some_iff.mp H
                              obtain ⟨t112, A460, H⟩ := H
                              replace H : ((PT.text_Show.f kj6 t107).bind fun t113 => (some (t112.toList != t113.toList))) = some r := H
                              have A46 := Aside0.mk A460
                              clear A460
                              replace H := Option.bind_eq_some_iff.mp H
                              obtain ⟨t113, A470, H⟩ := H
                              replace H : (some (t112.toList != t113.toList)) = some r := H
                              have A47 := Aside0.mk A470
                              clear A470
                              obtain rfl := Option.some.inj H
                              go_wp2_with (first | ((with_reducible refine gate_callee (f := 12) rfl ?_); refine goesL_ (some 46) rfl rfl Tryd.func12 (by kernel_rfl) rfl #[.string ((x10_6 ++ (⟨#[46]⟩ : ByteArray)) ++ (t101.extract 1 t101.size))] rfl (by (try simp only [List.map_toArray, List.map_cons, List.map_nil]); first | done | rfl | (simp only [List.length_drop, List.length_take]; rfl)) ?_; (with_reducible refine (PT.text_Number.calls kj6 ((x10_6 ++ (⟨#[46]⟩ : ByteArray)) ++ (t101.extract 1 t101.size)) t103 true _ ?side1 A12.out).mono ?_); (case side1 => exact Env.step hE (by repeat (first | (with_reducible first | exact HB.out | apply below_alloc | apply pw_below_drewN | apply below_drew1) | exact HB.out))); rintro e w48 ⟨rfl, hb⟩; refine ⟨_, rfl, ?_⟩; have n0_ := Aside0.mk (below_step (by repeat (first | (with_reducible first | exact HB.out | apply below_alloc | apply pw_below_drewN | apply below_drew1) | exact HB.out)) hb); clear HB; have HB := n0_; clear n0_; (try clear hb); (try clear hb2); (try clear hk); (try clear hi)) | ((with_reducible refine gate_callee (f := 12) rfl ?_); refine goesL_ (some 55) rfl rfl Tryd.func12 (by kernel_rfl) rfl #[.string (((x10_6 ++ (⟨#[46]⟩ : ByteArray)) ++ (t101.extract 1 t101.size)) ++ (⟨#[48]⟩ : ByteArray))] rfl (by (try simp only [List.map_toArray, List.map_cons, List.map_nil]); first | done | rfl | (simp only [List.length_drop, List.length_take]; rfl)) ?_; (with_reducible refine (PT.text_Number.calls kj6 (((x10_6 ++ (⟨#[46]⟩ : ByteArray)) ++ (t101.extract 1 t101.size)) ++ (⟨#[48]⟩ : ByteArray)) t105 false _ ?side1 A14.out).mono ?_); (case side1 => exact Env.step hE (by repeat (first | (with_reducible first | exact HB.out | apply below_alloc | apply pw_below_drewN | apply below_drew1) | exact HB.out))); rintro e w49 ⟨rfl, hb⟩; refine ⟨_, rfl, ?_⟩; have n0_ := Aside0.mk (below_step (by repeat (first | (with_reducible first | exact HB.out | apply below_alloc | apply pw_below_drewN | apply below_drew1) | exact HB.out)) hb); clear HB; have HB := n0_; clear n0_; (try clear hb); (try clear hb2); (try clear hk); (try clear hi)) | ((with_reducible refine gate_callee (f := 12) rfl ?_); refine goesL_ (some 60) rfl rfl Tryd.func12 (by kernel_rfl) rfl #[.string x10_6] rfl (by (try simp only [List.map_toArray, List.map_cons, List.map_nil]); first | done | rfl | (simp only [List.length_drop, List.length_take]; rfl)) ?_; (with_reducible refine (PT.text_Number.calls kj6 x10_6 t107 true _ ?side1 A15.out).mono ?_); (case side1 => exact Env.step hE (by repeat (first | (with_reducible first | exact HB.out | apply below_alloc | apply pw_below_drewN | apply below_drew1) | exact HB.out))); rintro e w50 ⟨rfl, hb⟩; refine ⟨_, rfl, ?_⟩; have n0_ := Aside0.mk (below_step (by repeat (first | (with_reducible first | exact HB.out | apply below_alloc | apply pw_below_drewN | apply below_drew1) | exact HB.out)) hb); clear HB; have HB := n0_; clear n0_; (try clear hb); (try clear hb2); (try clear hk); (try clear hi)) | ((with_reducible refine gate_callee (f := 11) rfl ?_); refine goesL_ (some 63) rfl rfl Tryd.func11 (by kernel_rfl) rfl #[] rfl (by (try simp only [List.map_toArray, List.map_cons, List.map_nil]); first | done | rfl | (simp only [List.length_drop, List.length_take]; rfl)) ?_; (with_reducible refine (spinnakerlaw4_told.calls  true _ ?side1 A16.out).mono ?_); (case side1 => exact Env.step hE (by repeat (first | (with_reducible first | exact HB.out | apply below_alloc | apply pw_below_drewN | apply below_drew1) | exact HB.out))); rintro e w51 ⟨rfl, hb⟩; refine ⟨_, rfl, ?_⟩; have n0_ := Aside0.mk (below_step (by repeat (first | (with_reducible first | exact HB.out | apply below_alloc | apply pw_below_drewN | apply below_drew1) | exact HB.out)) hb); clear HB; have HB := n0_; clear n0_; (try clear hb); (try clear hb2); (try clear hk); (try clear hi)) | (go_at_call 17; (with_reducible refine (PT.text_Show.calls kj6 t103 t112 _ ?side1 A46.out).mono ?_); (case side1 => exact Env.step hE (by repeat (first | (with_reducible first | exact HB.out | apply below_alloc | apply pw_below_drewN | apply below_drew1) | exact HB.out))); rintro e w52 ⟨rfl, hb⟩; have n0_ := Aside0.mk (below_step (by repeat (first | (with_reducible first | exact HB.out | apply below_alloc | apply pw_below_drewN | apply below_drew1) | exact HB.out)) hb); clear HB; have HB := n0_; clear n0_; (try clear hb); (try clear hb2); (try clear hk); (try clear hi)) | (go_at_call 17; (with_reducible refine (PT.text_Show.calls kj6 t107 t113 _ ?side1 A47.out).mono ?_); (case side1 => exact Env.step hE (by repeat (first | (with_reducible first | exact HB.out | apply below_alloc | apply pw_below_drewN | apply below_drew1) | exact HB.out))); rintro e w53 ⟨rfl, hb⟩; have n0_ := Aside0.mk (below_step (by repeat (first | (with_reducible first | exact HB.out | apply below_alloc | apply pw_below_drewN | apply below_drew1) | exact HB.out)) hb); clear HB; have HB := n0_; clear n0_; (try clear hb); (try clear hb2); (try clear hk); (try clear hi)))
                              go_ret
                              exact ⟨by first | rfl | (simp [errW_none, errW_some] <;> rfl) | (simp [*, errW_none, errW_some] <;> rfl), by repeat (first | (with_reducible first | exact HB.out | apply below_alloc | apply pw_below_drewN | apply below_drew1) | exact HB.out)⟩
                        · replace c26 := Bool.eq_false_iff.mpr c26
                          subst c26
                          have H1 : (some false) = some r := by rw [if_neg (show ¬ (false = true) by decide)] at H; exact H
                          clear H
                          have H := H1
                          clear H1
                          obtain rfl := Option.some.inj H
                          go_wp2_with (first | ((with_reducible refine gate_callee (f := 12) rfl ?_); refine goesL_ (some 46) rfl rfl Tryd.func12 (by kernel_rfl) rfl #[.string ((x10_6 ++ (⟨#[46]⟩ : ByteArray)) ++ (t101.extract 1 t101.size))] rfl (by (try simp only [List.map_toArray, List.map_cons, List.map_nil]); first | done | rfl | (simp only [List.length_drop, List.length_take]; rfl)) ?_; (with_reducible refine (PT.text_Number.calls kj6 ((x10_6 ++ (⟨#[46]⟩ : ByteArray)) ++ (t101.extract 1 t101.size)) t103 true _ ?side1 A12.out).mono ?_); (case side1 => exact Env.step hE (by repeat (first | (with_reducible first | exact HB.out | apply below_alloc | apply pw_below_drewN | apply below_drew1) | exact HB.out))); rintro e w54 ⟨rfl, hb⟩; refine ⟨_, rfl, ?_⟩; have n0_ := Aside0.mk (below_step (by repeat (first | (with_reducible first | exact HB.out | apply below_alloc | apply pw_below_drewN | apply below_drew1) | exact HB.out)) hb); clear HB; have HB := n0_; clear n0_; (try clear hb); (try clear hb2); (try clear hk); (try clear hi)) | ((with_reducible refine gate_callee (f := 12) rfl ?_); refine goesL_ (some 55) rfl rfl Tryd.func12 (by kernel_rfl) rfl #[.string (((x10_6 ++ (⟨#[46]⟩ : ByteArray)) ++ (t101.extract 1 t101.size)) ++ (⟨#[48]⟩ : ByteArray))] rfl (by (try simp only [List.map_toArray, List.map_cons, List.map_nil]); first | done | rfl | (simp only [List.length_drop, List.length_take]; rfl)) ?_; (with_reducible refine (PT.text_Number.calls kj6 (((x10_6 ++ (⟨#[46]⟩ : ByteArray)) ++ (t101.extract 1 t101.size)) ++ (⟨#[48]⟩ : ByteArray)) t105 false _ ?side1 A14.out).mono ?_); (case side1 => exact Env.step hE (by repeat (first | (with_reducible first | exact HB.out | apply below_alloc | apply pw_below_drewN | apply below_drew1) | exact HB.out))); rintro e w55 ⟨rfl, hb⟩; refine ⟨_, rfl, ?_⟩; have n0_ := Aside0.mk (below_step (by repeat (first | (with_reducible first | exact HB.out | apply below_alloc | apply pw_below_drewN | apply below_drew1) | exact HB.out)) hb); clear HB; have HB := n0_; clear n0_; (try clear hb); (try clear hb2); (try clear hk); (try clear hi)) | ((with_reducible refine gate_callee (f := 12) rfl ?_); refine goesL_ (some 60) rfl rfl Tryd.func12 (by kernel_rfl) rfl #[.string x10_6] rfl (by (try simp only [List.map_toArray, List.map_cons, List.map_nil]); first | done | rfl | (simp only [List.length_drop, List.length_take]; rfl)) ?_; (with_reducible refine (PT.text_Number.calls kj6 x10_6 t107 false _ ?side1 A15.out).mono ?_); (case side1 => exact Env.step hE (by repeat (first | (with_reducible first | exact HB.out | apply below_alloc | apply pw_below_drewN | apply below_drew1) | exact HB.out))); rintro e w56 ⟨rfl, hb⟩; refine ⟨_, rfl, ?_⟩; have n0_ := Aside0.mk (below_step (by repeat (first | (with_reducible first | exact HB.out | apply below_alloc | apply pw_below_drewN | apply below_drew1) | exact HB.out)) hb); clear HB; have HB := n0_; clear n0_; (try clear hb); (try clear hb2); (try clear hk); (try clear hi)) | ((with_reducible refine gate_callee (f := 11) rfl ?_); refine goesL_ (some 63) rfl rfl Tryd.func11 (by kernel_rfl) rfl #[] rfl (by (try simp only [List.map_toArray, List.map_cons, List.map_nil]); first | done | rfl | (simp only [List.length_drop, List.length_take]; rfl)) ?_; (with_reducible refine (spinnakerlaw4_told.calls  true _ ?side1 A16.out).mono ?_); (case side1 => exact Env.step hE (by repeat (first | (with_reducible first | exact HB.out | apply below_alloc | apply pw_below_drewN | apply below_drew1) | exact HB.out))); rintro e w57 ⟨rfl, hb⟩; refine ⟨_, rfl, ?_⟩; have n0_ := Aside0.mk (below_step (by repeat (first | (with_reducible first | exact HB.out | apply below_alloc | apply pw_below_drewN | apply below_drew1) | exact HB.out)) hb); clear HB; have HB := n0_; clear n0_; (try clear hb); (try clear hb2); (try clear hk); (try clear hi)))
                          go_ret
                          exact ⟨by first | rfl | (simp [errW_none, errW_some] <;> rfl) | (simp [*, errW_none, errW_some] <;> rfl), by repeat (first | (with_reducible first | exact HB.out | apply below_alloc | apply pw_below_drewN | apply below_drew1) | exact HB.out)⟩
                      · rw [if_neg c25] at H
                        have c25b0 : (t105 == 0) = false := beq_eq_false_iff_ne.mpr c25
                        have c25b1 : (t105 != 0) = true := bne_iff_ne.mpr c25
                        obtain rfl := Option.some.inj H
                        go_wp2_with (first | ((with_reducible refine gate_callee (f := 12) rfl ?_); refine goesL_ (some 46) rfl rfl Tryd.func12 (by kernel_rfl) rfl #[.string ((x10_6 ++ (⟨#[46]⟩ : ByteArray)) ++ (t101.extract 1 t101.size))] rfl (by (try simp only [List.map_toArray, List.map_cons, List.map_nil]); first | done | rfl | (simp only [List.length_drop, List.length_take]; rfl)) ?_; (with_reducible refine (PT.text_Number.calls kj6 ((x10_6 ++ (⟨#[46]⟩ : ByteArray)) ++ (t101.extract 1 t101.size)) t103 true _ ?side1 A12.out).mono ?_); (case side1 => exact Env.step hE (by repeat (first | (with_reducible first | exact HB.out | apply below_alloc | apply pw_below_drewN | apply below_drew1) | exact HB.out))); rintro e w58 ⟨rfl, hb⟩; refine ⟨_, rfl, ?_⟩; have n0_ := Aside0.mk (below_step (by repeat (first | (with_reducible first | exact HB.out | apply below_alloc | apply pw_below_drewN | apply below_drew1) | exact HB.out)) hb); clear HB; have HB := n0_; clear n0_; (try clear hb); (try clear hb2); (try clear hk); (try clear hi)) | ((with_reducible refine gate_callee (f := 12) rfl ?_); refine goesL_ (some 55) rfl rfl Tryd.func12 (by kernel_rfl) rfl #[.string (((x10_6 ++ (⟨#[46]⟩ : ByteArray)) ++ (t101.extract 1 t101.size)) ++ (⟨#[48]⟩ : ByteArray))] rfl (by (try simp only [List.map_toArray, List.map_cons, List.map_nil]); first | done | rfl | (simp only [List.length_drop, List.length_take]; rfl)) ?_; (with_reducible refine (PT.text_Number.calls kj6 (((x10_6 ++ (⟨#[46]⟩ : ByteArray)) ++ (t101.extract 1 t101.size)) ++ (⟨#[48]⟩ : ByteArray)) t105 false _ ?side1 A14.out).mono ?_); (case side1 => exact Env.step hE (by repeat (first | (with_reducible first | exact HB.out | apply below_alloc | apply pw_below_drewN | apply below_drew1) | exact HB.out))); rintro e w59 ⟨rfl, hb⟩; refine ⟨_, rfl, ?_⟩; have n0_ := Aside0.mk (below_step (by repeat (first | (with_reducible first | exact HB.out | apply below_alloc | apply pw_below_drewN | apply below_drew1) | exact HB.out)) hb); clear HB; have HB := n0_; clear n0_; (try clear hb); (try clear hb2); (try clear hk); (try clear hi)) | ((with_reducible refine gate_callee (f := 12) rfl ?_); refine goesL_ (some 60) rfl rfl Tryd.func12 (by kernel_rfl) rfl #[.string x10_6] rfl (by (try simp only [List.map_toArray, List.map_cons, List.map_nil]); first | done | rfl | (simp only [List.length_drop, List.length_take]; rfl)) ?_; (with_reducible refine (PT.text_Number.calls kj6 x10_6 t107 t108 _ ?side1 A15.out).mono ?_); (case side1 => exact Env.step hE (by repeat (first | (with_reducible first | exact HB.out | apply below_alloc | apply pw_below_drewN | apply below_drew1) | exact HB.out))); rintro e w60 ⟨rfl, hb⟩; refine ⟨_, rfl, ?_⟩; have n0_ := Aside0.mk (below_step (by repeat (first | (with_reducible first | exact HB.out | apply below_alloc | apply pw_below_drewN | apply below_drew1) | exact HB.out)) hb); clear HB; have HB := n0_; clear n0_; (try clear hb); (try clear hb2); (try clear hk); (try clear hi)) | ((with_reducible refine gate_callee (f := 11) rfl ?_); refine goesL_ (some 63) rfl rfl Tryd.func11 (by kernel_rfl) rfl #[] rfl (by (try simp only [List.map_toArray, List.map_cons, List.map_nil]); first | done | rfl | (simp only [List.length_drop, List.length_take]; rfl)) ?_; (with_reducible refine (spinnakerlaw4_told.calls  true _ ?side1 A16.out).mono ?_); (case side1 => exact Env.step hE (by repeat (first | (with_reducible first | exact HB.out | apply below_alloc | apply pw_below_drewN | apply below_drew1) | exact HB.out))); rintro e w61 ⟨rfl, hb⟩; refine ⟨_, rfl, ?_⟩; have n0_ := Aside0.mk (below_step (by repeat (first | (with_reducible first | exact HB.out | apply below_alloc | apply pw_below_drewN | apply below_drew1) | exact HB.out)) hb); clear HB; have HB := n0_; clear n0_; (try clear hb); (try clear hb2); (try clear hk); (try clear hi)))
                        go_ret
                        exact ⟨by first | rfl | (simp [errW_none, errW_some] <;> rfl) | (simp [*, errW_none, errW_some] <;> rfl), by repeat (first | (with_reducible first | exact HB.out | apply below_alloc | apply pw_below_drewN | apply below_drew1) | exact HB.out)⟩
                  · rw [if_neg c19] at H
                    have c19b0 : (t103 == x11_6) = false := beq_eq_false_iff_ne.mpr c19
                    have c19b1 : (t103 != x11_6) = true := bne_iff_ne.mpr c19
                    obtain rfl := Option.some.inj H
                    go_wp2_with (first | ((with_reducible refine gate_callee (f := 12) rfl ?_); refine goesL_ (some 46) rfl rfl Tryd.func12 (by kernel_rfl) rfl #[.string ((x10_6 ++ (⟨#[46]⟩ : ByteArray)) ++ (t101.extract 1 t101.size))] rfl (by (try simp only [List.map_toArray, List.map_cons, List.map_nil]); first | done | rfl | (simp only [List.length_drop, List.length_take]; rfl)) ?_; (with_reducible refine (PT.text_Number.calls kj6 ((x10_6 ++ (⟨#[46]⟩ : ByteArray)) ++ (t101.extract 1 t101.size)) t103 true _ ?side1 A12.out).mono ?_); (case side1 => exact Env.step hE (by repeat (first | (with_reducible first | exact HB.out | apply below_alloc | apply pw_below_drewN | apply below_drew1) | exact HB.out))); rintro e w62 ⟨rfl, hb⟩; refine ⟨_, rfl, ?_⟩; have n0_ := Aside0.mk (below_step (by repeat (first | (with_reducible first | exact HB.out | apply below_alloc | apply pw_below_drewN | apply below_drew1) | exact HB.out)) hb); clear HB; have HB := n0_; clear n0_; (try clear hb); (try clear hb2); (try clear hk); (try clear hi)) | ((with_reducible refine gate_callee (f := 12) rfl ?_); refine goesL_ (some 55) rfl rfl Tryd.func12 (by kernel_rfl) rfl #[.string (((x10_6 ++ (⟨#[46]⟩ : ByteArray)) ++ (t101.extract 1 t101.size)) ++ (⟨#[48]⟩ : ByteArray))] rfl (by (try simp only [List.map_toArray, List.map_cons, List.map_nil]); first | done | rfl | (simp only [List.length_drop, List.length_take]; rfl)) ?_; (with_reducible refine (PT.text_Number.calls kj6 (((x10_6 ++ (⟨#[46]⟩ : ByteArray)) ++ (t101.extract 1 t101.size)) ++ (⟨#[48]⟩ : ByteArray)) t105 t106 _ ?side1 A14.out).mono ?_); (case side1 => exact Env.step hE (by repeat (first | (with_reducible first | exact HB.out | apply below_alloc | apply pw_below_drewN | apply below_drew1) | exact HB.out))); rintro e w63 ⟨rfl, hb⟩; refine ⟨_, rfl, ?_⟩; have n0_ := Aside0.mk (below_step (by repeat (first | (with_reducible first | exact HB.out | apply below_alloc | apply pw_below_drewN | apply below_drew1) | exact HB.out)) hb); clear HB; have HB := n0_; clear n0_; (try clear hb); (try clear hb2); (try clear hk); (try clear hi)) | ((with_reducible refine gate_callee (f := 12) rfl ?_); refine goesL_ (some 60) rfl rfl Tryd.func12 (by kernel_rfl) rfl #[.string x10_6] rfl (by (try simp only [List.map_toArray, List.map_cons, List.map_nil]); first | done | rfl | (simp only [List.length_drop, List.length_take]; rfl)) ?_; (with_reducible refine (PT.text_Number.calls kj6 x10_6 t107 t108 _ ?side1 A15.out).mono ?_); (case side1 => exact Env.step hE (by repeat (first | (with_reducible first | exact HB.out | apply below_alloc | apply pw_below_drewN | apply below_drew1) | exact HB.out))); rintro e w64 ⟨rfl, hb⟩; refine ⟨_, rfl, ?_⟩; have n0_ := Aside0.mk (below_step (by repeat (first | (with_reducible first | exact HB.out | apply below_alloc | apply pw_below_drewN | apply below_drew1) | exact HB.out)) hb); clear HB; have HB := n0_; clear n0_; (try clear hb); (try clear hb2); (try clear hk); (try clear hi)) | ((with_reducible refine gate_callee (f := 11) rfl ?_); refine goesL_ (some 63) rfl rfl Tryd.func11 (by kernel_rfl) rfl #[] rfl (by (try simp only [List.map_toArray, List.map_cons, List.map_nil]); first | done | rfl | (simp only [List.length_drop, List.length_take]; rfl)) ?_; (with_reducible refine (spinnakerlaw4_told.calls  true _ ?side1 A16.out).mono ?_); (case side1 => exact Env.step hE (by repeat (first | (with_reducible first | exact HB.out | apply below_alloc | apply pw_below_drewN | apply below_drew1) | exact HB.out))); rintro e w65 ⟨rfl, hb⟩; refine ⟨_, rfl, ?_⟩; have n0_ := Aside0.mk (below_step (by repeat (first | (with_reducible first | exact HB.out | apply below_alloc | apply pw_below_drewN | apply below_drew1) | exact HB.out)) hb); clear HB; have HB := n0_; clear n0_; (try clear hb); (try clear hb2); (try clear hk); (try clear hi)))
                    go_ret
                    exact ⟨by first | rfl | (simp [errW_none, errW_some] <;> rfl) | (simp [*, errW_none, errW_some] <;> rfl), by repeat (first | (with_reducible first | exact HB.out | apply below_alloc | apply pw_below_drewN | apply below_drew1) | exact HB.out)⟩
                · replace c18 := Bool.eq_false_iff.mpr c18
                  subst c18
                  have H1 : (some false) = some r := by rw [if_neg (show ¬ (false = true) by decide)] at H; exact H
                  clear H
                  have H := H1
                  clear H1
                  obtain rfl := Option.some.inj H
                  go_wp2_with (first | ((with_reducible refine gate_callee (f := 12) rfl ?_); refine goesL_ (some 46) rfl rfl Tryd.func12 (by kernel_rfl) rfl #[.string ((x10_6 ++ (⟨#[46]⟩ : ByteArray)) ++ (t101.extract 1 t101.size))] rfl (by (try simp only [List.map_toArray, List.map_cons, List.map_nil]); first | done | rfl | (simp only [List.length_drop, List.length_take]; rfl)) ?_; (with_reducible refine (PT.text_Number.calls kj6 ((x10_6 ++ (⟨#[46]⟩ : ByteArray)) ++ (t101.extract 1 t101.size)) t103 false _ ?side1 A12.out).mono ?_); (case side1 => exact Env.step hE (by repeat (first | (with_reducible first | exact HB.out | apply below_alloc | apply pw_below_drewN | apply below_drew1) | exact HB.out))); rintro e w66 ⟨rfl, hb⟩; refine ⟨_, rfl, ?_⟩; have n0_ := Aside0.mk (below_step (by repeat (first | (with_reducible first | exact HB.out | apply below_alloc | apply pw_below_drewN | apply below_drew1) | exact HB.out)) hb); clear HB; have HB := n0_; clear n0_; (try clear hb); (try clear hb2); (try clear hk); (try clear hi)) | ((with_reducible refine gate_callee (f := 12) rfl ?_); refine goesL_ (some 55) rfl rfl Tryd.func12 (by kernel_rfl) rfl #[.string (((x10_6 ++ (⟨#[46]⟩ : ByteArray)) ++ (t101.extract 1 t101.size)) ++ (⟨#[48]⟩ : ByteArray))] rfl (by (try simp only [List.map_toArray, List.map_cons, List.map_nil]); first | done | rfl | (simp only [List.length_drop, List.length_take]; rfl)) ?_; (with_reducible refine (PT.text_Number.calls kj6 (((x10_6 ++ (⟨#[46]⟩ : ByteArray)) ++ (t101.extract 1 t101.size)) ++ (⟨#[48]⟩ : ByteArray)) t105 t106 _ ?side1 A14.out).mono ?_); (case side1 => exact Env.step hE (by repeat (first | (with_reducible first | exact HB.out | apply below_alloc | apply pw_below_drewN | apply below_drew1) | exact HB.out))); rintro e w67 ⟨rfl, hb⟩; refine ⟨_, rfl, ?_⟩; have n0_ := Aside0.mk (below_step (by repeat (first | (with_reducible first | exact HB.out | apply below_alloc | apply pw_below_drewN | apply below_drew1) | exact HB.out)) hb); clear HB; have HB := n0_; clear n0_; (try clear hb); (try clear hb2); (try clear hk); (try clear hi)) | ((with_reducible refine gate_callee (f := 12) rfl ?_); refine goesL_ (some 60) rfl rfl Tryd.func12 (by kernel_rfl) rfl #[.string x10_6] rfl (by (try simp only [List.map_toArray, List.map_cons, List.map_nil]); first | done | rfl | (simp only [List.length_drop, List.length_take]; rfl)) ?_; (with_reducible refine (PT.text_Number.calls kj6 x10_6 t107 t108 _ ?side1 A15.out).mono ?_); (case side1 => exact Env.step hE (by repeat (first | (with_reducible first | exact HB.out | apply below_alloc | apply pw_below_drewN | apply below_drew1) | exact HB.out))); rintro e w68 ⟨rfl, hb⟩; refine ⟨_, rfl, ?_⟩; have n0_ := Aside0.mk (below_step (by repeat (first | (with_reducible first | exact HB.out | apply below_alloc | apply pw_below_drewN | apply below_drew1) | exact HB.out)) hb); clear HB; have HB := n0_; clear n0_; (try clear hb); (try clear hb2); (try clear hk); (try clear hi)) | ((with_reducible refine gate_callee (f := 11) rfl ?_); refine goesL_ (some 63) rfl rfl Tryd.func11 (by kernel_rfl) rfl #[] rfl (by (try simp only [List.map_toArray, List.map_cons, List.map_nil]); first | done | rfl | (simp only [List.length_drop, List.length_take]; rfl)) ?_; (with_reducible refine (spinnakerlaw4_told.calls  true _ ?side1 A16.out).mono ?_); (case side1 => exact Env.step hE (by repeat (first | (with_reducible first | exact HB.out | apply below_alloc | apply pw_below_drewN | apply below_drew1) | exact HB.out))); rintro e w69 ⟨rfl, hb⟩; refine ⟨_, rfl, ?_⟩; have n0_ := Aside0.mk (below_step (by repeat (first | (with_reducible first | exact HB.out | apply below_alloc | apply pw_below_drewN | apply below_drew1) | exact HB.out)) hb); clear HB; have HB := n0_; clear n0_; (try clear hb); (try clear hb2); (try clear hk); (try clear hi)))
                  go_ret
                  exact ⟨by first | rfl | (simp [errW_none, errW_some] <;> rfl) | (simp [*, errW_none, errW_some] <;> rfl), by repeat (first | (with_reducible first | exact HB.out | apply below_alloc | apply pw_below_drewN | apply below_drew1) | exact HB.out)⟩
              · replace c17 := Bool.eq_false_iff.mpr c17
                subst c17
                have H1 : (some false) = some r := by rw [if_neg (show ¬ (false = true) by decide)] at H; exact H
                clear H
                have H := H1
                clear H1
                obtain rfl := Option.some.inj H
                go_wp2_with (first | ((with_reducible refine gate_callee (f := 12) rfl ?_); refine goesL_ (some 46) rfl rfl Tryd.func12 (by kernel_rfl) rfl #[.string ((x10_6 ++ (⟨#[46]⟩ : ByteArray)) ++ (t101.extract 1 t101.size))] rfl (by (try simp only [List.map_toArray, List.map_cons, List.map_nil]); first | done | rfl | (simp only [List.length_drop, List.length_take]; rfl)) ?_; (with_reducible refine (PT.text_Number.calls kj6 ((x10_6 ++ (⟨#[46]⟩ : ByteArray)) ++ (t101.extract 1 t101.size)) t103 t104 _ ?side1 A12.out).mono ?_); (case side1 => exact Env.step hE (by repeat (first | (with_reducible first | exact HB.out | apply below_alloc | apply pw_below_drewN | apply below_drew1) | exact HB.out))); rintro e w70 ⟨rfl, hb⟩; refine ⟨_, rfl, ?_⟩; have n0_ := Aside0.mk (below_step (by repeat (first | (with_reducible first | exact HB.out | apply below_alloc | apply pw_below_drewN | apply below_drew1) | exact HB.out)) hb); clear HB; have HB := n0_; clear n0_; (try clear hb); (try clear hb2); (try clear hk); (try clear hi)) | ((with_reducible refine gate_callee (f := 12) rfl ?_); refine goesL_ (some 55) rfl rfl Tryd.func12 (by kernel_rfl) rfl #[.string (((x10_6 ++ (⟨#[46]⟩ : ByteArray)) ++ (t101.extract 1 t101.size)) ++ (⟨#[48]⟩ : ByteArray))] rfl (by (try simp only [List.map_toArray, List.map_cons, List.map_nil]); first | done | rfl | (simp only [List.length_drop, List.length_take]; rfl)) ?_; (with_reducible refine (PT.text_Number.calls kj6 (((x10_6 ++ (⟨#[46]⟩ : ByteArray)) ++ (t101.extract 1 t101.size)) ++ (⟨#[48]⟩ : ByteArray)) t105 t106 _ ?side1 A14.out).mono ?_); (case side1 => exact Env.step hE (by repeat (first | (with_reducible first | exact HB.out | apply below_alloc | apply pw_below_drewN | apply below_drew1) | exact HB.out))); rintro e w71 ⟨rfl, hb⟩; refine ⟨_, rfl, ?_⟩; have n0_ := Aside0.mk (below_step (by repeat (first | (with_reducible first | exact HB.out | apply below_alloc | apply pw_below_drewN | apply below_drew1) | exact HB.out)) hb); clear HB; have HB := n0_; clear n0_; (try clear hb); (try clear hb2); (try clear hk); (try clear hi)) | ((with_reducible refine gate_callee (f := 12) rfl ?_); refine goesL_ (some 60) rfl rfl Tryd.func12 (by kernel_rfl) rfl #[.string x10_6] rfl (by (try simp only [List.map_toArray, List.map_cons, List.map_nil]); first | done | rfl | (simp only [List.length_drop, List.length_take]; rfl)) ?_; (with_reducible refine (PT.text_Number.calls kj6 x10_6 t107 t108 _ ?side1 A15.out).mono ?_); (case side1 => exact Env.step hE (by repeat (first | (with_reducible first | exact HB.out | apply below_alloc | apply pw_below_drewN | apply below_drew1) | exact HB.out))); rintro e w72 ⟨rfl, hb⟩; refine ⟨_, rfl, ?_⟩; have n0_ := Aside0.mk (below_step (by repeat (first | (with_reducible first | exact HB.out | apply below_alloc | apply pw_below_drewN | apply below_drew1) | exact HB.out)) hb); clear HB; have HB := n0_; clear n0_; (try clear hb); (try clear hb2); (try clear hk); (try clear hi)) | ((with_reducible refine gate_callee (f := 11) rfl ?_); refine goesL_ (some 63) rfl rfl Tryd.func11 (by kernel_rfl) rfl #[] rfl (by (try simp only [List.map_toArray, List.map_cons, List.map_nil]); first | done | rfl | (simp only [List.length_drop, List.length_take]; rfl)) ?_; (with_reducible refine (spinnakerlaw4_told.calls  false _ ?side1 A16.out).mono ?_); (case side1 => exact Env.step hE (by repeat (first | (with_reducible first | exact HB.out | apply below_alloc | apply pw_below_drewN | apply below_drew1) | exact HB.out))); rintro e w73 ⟨rfl, hb⟩; refine ⟨_, rfl, ?_⟩; have n0_ := Aside0.mk (below_step (by repeat (first | (with_reducible first | exact HB.out | apply below_alloc | apply pw_below_drewN | apply below_drew1) | exact HB.out)) hb); clear HB; have HB := n0_; clear n0_; (try clear hb); (try clear hb2); (try clear hk); (try clear hi)))
                go_ret
                exact ⟨by first | rfl | (simp [errW_none, errW_some] <;> rfl) | (simp [*, errW_none, errW_some] <;> rfl), by repeat (first | (with_reducible first | exact HB.out | apply below_alloc | apply pw_below_drewN | apply below_drew1) | exact HB.out)⟩
            · rw [if_neg c13] at H
              exact absurd H (by simp)
          · rw [if_neg c11] at H
            exact absurd H (by simp)
        · rw [if_neg c10] at H
          exact absurd H (by simp)
  · rw [if_neg c5] at H
    exact absurd H (by simp)

/-- THE ONE PURE STATEMENT of spinnakerlaw4_TextNumbers: yours. -/
def spinnakerlaw4_TextNumbers.Pure : Prop := ∀ (a0 : Int) (a1 : Int) (a2 : Bool), (Lit.int .i64 a0).wf = true → (Lit.int .i64 a1).wf = true → ∃ k, spinnakerlaw4_TextNumbers.f k a0 a1 a2 = some true
theorem spinnakerlaw4_TextNumbers.walk (P : spinnakerlaw4_TextNumbers.Pure) (a0 : Int) (a1 : Int) (a2 : Bool) (w : World) (w0 : (Lit.int .i64 a0).wf = true) (w1 : (Lit.int .i64 a1).wf = true) (hE : Env w) :
    Calls Tryd.prog 7 #[.int .i64 a0, .int .i64 a1, .bool a2] w fun e w' => e = .returned (.bool true) ∧ Below w.heap.size w w' := by
  obtain ⟨k, h⟩ := P a0 a1 a2 w0 w1
  refine (spinnakerlaw4_TextNumbers.calls k a0 a1 a2 true w hE h).mono ?_
  rintro e w' ⟨rfl, hd⟩
  exact ⟨rfl, hd⟩

end Go.Proofs.YtcppcobcdhnalaaDoor.PL
