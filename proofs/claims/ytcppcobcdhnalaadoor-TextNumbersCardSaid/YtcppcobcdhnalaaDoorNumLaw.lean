/- TextNumbers: the printed function answers true. -/
import Derived.Test.YtcppcobcdhnalaaDoorPLx1
import Derived.Test.YtcppcobcdhnalaaDoorTextLaw
namespace Go.Proofs.YtcppcobcdhnalaaDoor
open Go.RowKit Go.Proofs.YtcppcobcdhnalaaDoor.PL Go.Proofs.YtcppcobcdhnalaaDoorW.PrintWords
theorem u64_nonneg (a : Int) : 0 ≤ IntKind.u64.wrap a := by
  show 0 ≤ a % 18446744073709551616
  exact Int.emod_nonneg _ (by decide)
theorem up_k {α : Type} {g : Nat → Option α} (h : ∀ k, LeO (g k) (g (k + 1))) {r : α} {k K : Nat} (e : g k = some r) (hk : k ≤ K) : g K = some r := by
  obtain ⟨j, rfl⟩ : ∃ j, K = k + j := ⟨K - k, by omega⟩
  exact more_rounds h k j r e
theorem digit_str : ∀ d : Fin 10, ((⟨#[48, 49, 50, 51, 52, 53, 54, 55, 56, 57]⟩ : ByteArray).extract d.val (d.val + 1)) = strOf [UInt8.ofNat (48 + d.val)] := by decide +kernel
theorem digit_at (d : Nat) (h : d < 10) : ((⟨#[48, 49, 50, 51, 52, 53, 54, 55, 56, 57]⟩ : ByteArray).extract d (d + 1)) = strOf [UInt8.ofNat (48 + d)] := digit_str ⟨d, h⟩
theorem decimal_l0 : ∀ (k u : Nat) (s : ByteArray), u < 10 ^ (k + 1) → k < 18 → s.size + k < 100 → spinnakerref1_Decimal.l0 (k + 1) (u : Int) s = some (strOf (Lib.decDigits u ++ bsOf s)) := by
  intro k
  induction k with
  | zero =>
    intro u s hu hk hs
    rw [spinnakerref1_Decimal.l0]
    have hu10 : u < 10 := by simpa using hu
    have e1 : wrap64 ((u : Int) + 1) = ((u + 1 : Nat) : Int) := by unfold wrap64; omega
    rw [if_neg (by omega), e1, if_pos (by omega), if_pos (by omega), if_pos (by omega)]
    have e2 : ((u : Int)).toNat = u := rfl
    have e3 : ((u + 1 : Nat) : Int).toNat = u + 1 := rfl
    rw [e2, e3, digit_at u hu10, size_str, if_pos (by simp only [List.length_cons, List.length_nil]; omega)]
    rw [Lib.decDigits, dif_pos hu10]
    apply congrArg some
    apply bs_inj
    rw [bs_append, bs_str, bs_str]
  | succ k ih =>
    intro u s hu hk hs
    by_cases h10 : u < 10
    · rw [spinnakerref1_Decimal.l0]
      have e1 : wrap64 ((u : Int) + 1) = ((u + 1 : Nat) : Int) := by unfold wrap64; omega
      rw [if_neg (by omega), e1, if_pos (by omega), if_pos (by omega), if_pos (by omega)]
      have e2 : ((u : Int)).toNat = u := rfl
      have e3 : ((u + 1 : Nat) : Int).toNat = u + 1 := rfl
      rw [e2, e3, digit_at u h10, size_str, if_pos (by simp only [List.length_cons, List.length_nil]; omega)]
      rw [Lib.decDigits, dif_pos h10]
      apply congrArg some
      apply bs_inj
      rw [bs_append, bs_str, bs_str]
    · rw [spinnakerref1_Decimal.l0]
      have hbig : u < 10 ^ 19 := Nat.lt_of_lt_of_le hu (Nat.pow_le_pow_right (by decide) (by omega))
      have hm : Int.tmod (u : Int) 10 = ((u % 10 : Nat) : Int) := rfl
      have hd : Int.tdiv (u : Int) 10 = ((u / 10 : Nat) : Int) := rfl
      have hm10 : u % 10 < 10 := Nat.mod_lt _ (by decide)
      rw [if_pos (by omega), hm, hd]
      have e1 : wrap64 (((u % 10 : Nat) : Int) + 1) = ((u % 10 + 1 : Nat) : Int) := by unfold wrap64; omega
      have e0 : wrap64 ((u / 10 : Nat) : Int) = ((u / 10 : Nat) : Int) := by unfold wrap64; omega
      rw [e1, e0, if_pos (by omega), if_pos (by omega), if_pos (by omega)]
      have e2 : ((u % 10 : Nat) : Int).toNat = u % 10 := rfl
      have e3 : ((u % 10 + 1 : Nat) : Int).toNat = u % 10 + 1 := rfl
      rw [e2, e3, digit_at _ hm10]
      have hsz : (strOf [UInt8.ofNat (48 + u % 10)] ++ s).size = s.size + 1 := by rw [ByteArray.size_append, size_str]; simp only [List.length_cons, List.length_nil]; omega
      rw [size_str, if_pos (by simp only [List.length_cons, List.length_nil]; omega), ih (u / 10) _ (by rw [Nat.pow_succ] at hu; omega) (by omega) (by omega)]
      rw [bs_append, bs_str]
      conv => rhs; rw [Lib.decDigits, dif_neg h10]
      rw [List.append_assoc]
theorem decimal_law (u : Nat) (h : u < 10 ^ 18) : spinnakerref1_Decimal.f 18 (u : Int) = some (strOf (Lib.decDigits u)) := by
  unfold spinnakerref1_Decimal.f
  rw [decimal_l0 17 u _ (by exact h) (by decide) (by decide)]
  apply congrArg (fun x => some (strOf x))
  show _ ++ [] = _
  simp

/-- Three digits of the thousandths. -/
def three (p : Nat) : Bs := (four (1000 + p)).drop 1
theorem three_fin : ∀ p : Fin 1000, digitsP (three p.val) 3 = some p.val ∧ (three p.val).length = 3 ∧ digitsP (three p.val ++ [48]) 3 = none := by decide +kernel
def mark (neg : Bool) : Bs := if neg then [45] else []
theorem number_mark (neg : Bool) (l : Bs) (h : l.head? ≠ some 45) : numberP (mark neg ++ l) = (bodyP l).map (fun n : Nat => if neg then -(n : Int) else (n : Int)) := by
  cases neg
  · show numberP l = _
    unfold numberP
    rw [if_neg h]
    cases bodyP l <;> rfl
  · show numberP (45 :: l) = _
    unfold numberP
    rw [if_pos (by rfl)]
    show Option.map _ _ = _
    cases hb : bodyP l with
    | none => rw [List.tail_cons, hb]; rfl
    | some n => rw [List.tail_cons, hb]; rfl
theorem dec_head (u : Nat) (t : Bs) : (Lib.decDigits u ++ t).head? ≠ some 45 := by
  have h1 := dec_pos u
  have h2 := dec_all u
  cases hl : Lib.decDigits u with
  | nil => rw [hl] at h1; simp at h1
  | cons x l =>
    rw [hl] at h2
    simp only [List.all_cons, Bool.and_eq_true] at h2
    simp only [List.cons_append, List.head?_cons, ne_eq, Option.some.injEq]
    exact (dig_ne h2.1).2.1
theorem body_whole (u : Nat) (h : u < 1000000000) : bodyP (Lib.decDigits u) = some (u * 1000) := by
  have hd : ∀ b ∈ Lib.decDigits u, b ≠ 46 := fun b hb => (dig_ne (List.all_eq_true.1 (dec_all _) b hb)).1
  unfold bodyP
  rw [cutC_miss 46 _ hd]
  simp only [digitsP_dec u 9 (by decide) (by omega)]
  simp
theorem body_part (u p : Nat) (h : u < 1000000000) (hp : p < 1000) : bodyP (Lib.decDigits u ++ 46 :: three p) = some (u * 1000 + p) := by
  have hd : ∀ b ∈ Lib.decDigits u, b ≠ 46 := fun b hb => (dig_ne (List.all_eq_true.1 (dec_all _) b hb)).1
  unfold bodyP
  rw [cutC_hit 46 _ _ hd]
  obtain ⟨h1, h2, _⟩ := three_fin ⟨p, hp⟩
  simp only [] at h1 h2
  simp only [digitsP_dec u 9 (by decide) (by omega), h1, h2]
  simp
theorem body_long (u p : Nat) (h : u < 1000000000) (hp : p < 1000) : bodyP (Lib.decDigits u ++ 46 :: (three p ++ [48])) = none := by
  have hd : ∀ b ∈ Lib.decDigits u, b ≠ 46 := fun b hb => (dig_ne (List.all_eq_true.1 (dec_all _) b hb)).1
  unfold bodyP
  rw [cutC_hit 46 _ _ hd]
  obtain ⟨_, _, h3⟩ := three_fin ⟨p, hp⟩
  simp only [] at h3
  simp only [digitsP_dec u 9 (by decide) (by omega), h3]
  simp

theorem numbers_j0 (u p : Nat) (hu : u < 1000000000) (hp : p < 1000) (neg : Bool) : ∃ k, spinnakerlaw4_TextNumbers.j0 k (p : Int) (strOf (three p)) (strOf (mark neg ++ Lib.decDigits u)) (if neg then -((1000 * u + p : Nat) : Int) else ((1000 * u + p : Nat) : Int)) = some true := by
  have hl9 := dec_len u 9 (by decide) (by omega)
  obtain ⟨_, h3l, _⟩ := three_fin ⟨p, hp⟩
  simp only [] at h3l
  have hml : (mark neg).length ≤ 1 := by cases neg <;> decide
  have hs0 : (strOf (mark neg ++ Lib.decDigits u)).size ≤ 10 := by rw [size_str, List.length_append]; omega
  have hs3 : (strOf (three p)).size = 3 := by rw [size_str, h3l]
  have es1 : strOf (mark neg ++ Lib.decDigits u) ++ (⟨#[46]⟩ : ByteArray) ++ strOf (three p) = strOf (mark neg ++ (Lib.decDigits u ++ 46 :: three p)) := by
    apply bs_inj
    rw [bs_append, bs_append, bs_str, bs_str, bs_str]
    show (mark neg ++ Lib.decDigits u ++ [46]) ++ three p = _
    simp
  have es2 : strOf (mark neg ++ (Lib.decDigits u ++ 46 :: three p)) ++ (⟨#[48]⟩ : ByteArray) = strOf (mark neg ++ (Lib.decDigits u ++ 46 :: (three p ++ [48]))) := by
    apply bs_inj
    rw [bs_append, bs_str, bs_str]
    show _ ++ [48] = _
    simp
  have hn1 : numberP (mark neg ++ (Lib.decDigits u ++ 46 :: three p)) = some (if neg then -((1000 * u + p : Nat) : Int) else ((1000 * u + p : Nat) : Int)) := by
    rw [number_mark neg _ (dec_head _ _), body_part u p hu hp, Option.map_some, Nat.mul_comm u 1000]
  have hn2 : numberP (mark neg ++ (Lib.decDigits u ++ 46 :: (three p ++ [48]))) = none := by
    rw [number_mark neg _ (dec_head _ _), body_long u p hu hp]; rfl
  have hn3 : numberP (mark neg ++ Lib.decDigits u) = some (if neg then -((1000 * u : Nat) : Int) else ((1000 * u : Nat) : Int)) := by
    have := dec_head u []
    rw [List.append_nil] at this
    rw [number_mark neg _ this, body_whole u hu, Option.map_some, Nat.mul_comm u 1000]
  have sm : ∀ l : Bs, l.length ≤ 20 → small (strOf l) := fun l h => by unfold small; rw [size_str]; omega
  obtain ⟨k1, e1⟩ := num_law (strOf (mark neg ++ (Lib.decDigits u ++ 46 :: three p))) (sm _ (by simp only [List.length_append, List.length_cons]; omega))
  obtain ⟨k2, e2⟩ := num_law (strOf (mark neg ++ (Lib.decDigits u ++ 46 :: (three p ++ [48])))) (sm _ (by simp only [List.length_append, List.length_cons, List.length_nil]; omega))
  obtain ⟨k3, e3⟩ := num_law (strOf (mark neg ++ Lib.decDigits u)) (sm _ (by simp only [List.length_append]; omega))
  rw [bs_str, hn1] at e1
  rw [bs_str, hn2] at e2
  rw [bs_str, hn3] at e3
  obtain ⟨k4, e4⟩ := show_law (if neg then -((1000 * u + p : Nat) : Int) else ((1000 * u + p : Nat) : Int)) (by split <;> omega) (by split <;> omega)
  obtain ⟨k5, e5⟩ := show_law (if neg then -((1000 * u : Nat) : Int) else ((1000 * u : Nat) : Int)) (by split <;> omega) (by split <;> omega)
  let K := k1 + k2 + k3 + k4 + k5
  have f1 := up_k (PT.text_Number.mono _) e1 (show k1 ≤ K by omega)
  have f2 := up_k (PT.text_Number.mono _) e2 (show k2 ≤ K by omega)
  have f3 := up_k (PT.text_Number.mono _) e3 (show k3 ≤ K by omega)
  have f4 := up_k (PT.text_Show.mono _) e4 (show k4 ≤ K by omega)
  have f5 := up_k (PT.text_Show.mono _) e5 (show k5 ≤ K by omega)
  refine ⟨K + 1, ?_⟩
  have ht : spinnakerlaw4_told.f = some true := rfl
  rw [spinnakerlaw4_TextNumbers.j0]
  have hsz : (strOf (mark neg ++ (Lib.decDigits u ++ 46 :: three p))).size ≤ 20 := by rw [size_str]; simp only [List.length_append, List.length_cons]; omega
  have hsz2 : (strOf (mark neg ++ Lib.decDigits u) ++ (⟨#[46]⟩ : ByteArray)).size ≤ 20 := by rw [ByteArray.size_append]; have : (⟨#[46]⟩ : ByteArray).size = 1 := rfl; omega
  rw [if_pos (by omega), if_pos (by omega), es1, f1, Option.bind_some, if_pos (by omega), es2, f2, Option.bind_some, f3, Option.bind_some, ht, Option.bind_some]
  simp only [Option.getD_some, Option.isSome_some, Option.getD_none, Option.isSome_none, if_true, Bool.false_eq_true, if_false]
  by_cases hz : p = 0
  · subst hz
    simp
  · have hne : (if neg = true then -((1000 * u : Nat) : Int) else ((1000 * u : Nat) : Int)) ≠ (if neg = true then -((1000 * u + p : Nat) : Int) else ((1000 * u + p : Nat) : Int)) := by split <;> omega
    rw [if_neg hne, if_neg (by omega), f4, Option.bind_some, f5, Option.bind_some]
    simp only [Option.some.injEq, bne_iff_ne, ne_eq, toList_bs, bs_str]
    intro h
    have h1 := numberP_showP (if neg = true then -((1000 * u + p : Nat) : Int) else ((1000 * u + p : Nat) : Int)) (by split <;> omega) (by split <;> omega)
    rw [h, numberP_showP _ (by split <;> omega) (by split <;> omega)] at h1
    exact hne (Option.some.inj h1)
theorem numbers_law (a0 a1 : Int) (a2 : Bool) : ∃ k, spinnakerlaw4_TextNumbers.f k a0 a1 a2 = some true := by
  obtain ⟨u, hu, eu⟩ : ∃ u : Nat, u < 1000000000 ∧ wrap64 (Int.tmod (IntKind.u64.wrap a0) 1000000000) = (u : Int) := by
    refine ⟨(IntKind.u64.wrap a0 % 1000000000).toNat, ?_, ?_⟩
    · have := Int.emod_lt_of_pos (IntKind.u64.wrap a0) (show (0 : Int) < 1000000000 by decide)
      have := Int.emod_nonneg (IntKind.u64.wrap a0) (show (1000000000 : Int) ≠ 0 by decide)
      omega
    · have h0 : 0 ≤ IntKind.u64.wrap a0 := u64_nonneg a0
      rw [Int.tmod_eq_emod_of_nonneg h0]
      have := Int.emod_lt_of_pos (IntKind.u64.wrap a0) (show (0 : Int) < 1000000000 by decide)
      have := Int.emod_nonneg (IntKind.u64.wrap a0) (show (1000000000 : Int) ≠ 0 by decide)
      unfold wrap64; omega
  obtain ⟨p, hp, ep⟩ : ∃ p : Nat, p < 1000 ∧ wrap64 (Int.tmod (IntKind.u64.wrap a1) 1000) = (p : Int) := by
    refine ⟨(IntKind.u64.wrap a1 % 1000).toNat, ?_, ?_⟩
    · have := Int.emod_lt_of_pos (IntKind.u64.wrap a1) (show (0 : Int) < 1000 by decide)
      have := Int.emod_nonneg (IntKind.u64.wrap a1) (show (1000 : Int) ≠ 0 by decide)
      omega
    · have h0 : 0 ≤ IntKind.u64.wrap a1 := u64_nonneg a1
      rw [Int.tmod_eq_emod_of_nonneg h0]
      have := Int.emod_lt_of_pos (IntKind.u64.wrap a1) (show (0 : Int) < 1000 by decide)
      have := Int.emod_nonneg (IntKind.u64.wrap a1) (show (1000 : Int) ≠ 0 by decide)
      unfold wrap64; omega
  obtain ⟨k, hk⟩ := numbers_j0 u p hu hp a2
  have e1 : wrap64 (1000 + (p : Int)) = ((1000 + p : Nat) : Int) := by unfold wrap64; omega
  have e2 : wrap64 (wrap64 (1000 * (u : Int)) + (p : Int)) = ((1000 * u + p : Nat) : Int) := by unfold wrap64; omega
  have e3 : wrap64 (-((1000 * u + p : Nat) : Int)) = -((1000 * u + p : Nat) : Int) := by unfold wrap64; omega
  refine ⟨k + 18, ?_⟩
  have d1 := up_k (spinnakerref1_Decimal.mono _) (decimal_law (1000 + p) (by omega)) (show 18 ≤ k + 18 by omega)
  have d2 := up_k (spinnakerref1_Decimal.mono _) (decimal_law u (by omega)) (show 18 ≤ k + 18 by omega)
  have hk' := up_k (fun k => (spinnakerlaw4_TextNumbers.mono_l k _ _ _ _)) hk (show k ≤ k + 18 by omega)
  unfold spinnakerlaw4_TextNumbers.f
  rw [ep, eu, e1, e2, e3, d1, Option.bind_some, d2, Option.bind_some]
  have hx : (strOf (Lib.decDigits (1000 + p))).extract 1 (strOf (Lib.decDigits (1000 + p))).size = strOf (three p) := by
    apply bs_inj
    rw [bs_extract, bs_str, bs_str, dec_four p hp]
    rfl
  have h1 : 1 ≤ (strOf (Lib.decDigits (1000 + p))).size := by rw [size_str]; exact dec_pos _
  have h2 : (strOf (Lib.decDigits u)).size ≤ 9 := by rw [size_str]; exact dec_len u 9 (by decide) (by omega)
  rw [if_pos (by omega), hx]
  cases a2 with
  | true =>
    rw [if_pos rfl, if_pos (by omega)]
    have : (⟨#[45]⟩ : ByteArray) ++ strOf (Lib.decDigits u) = strOf (mark true ++ Lib.decDigits u) := by
      apply bs_inj
      rw [bs_append, bs_str, bs_str]; rfl
    rw [this]
    exact hk'
  | false =>
    rw [if_neg (by decide)]
    exact hk'
theorem numbers_any (a0 a1 : Int) (a2 : Bool) (w : World) (hE : Env w) :
    Calls Tryd.prog 7 #[.int .i64 a0, .int .i64 a1, .bool a2] w fun e w' => e = .returned (.bool true) ∧ Below w.heap.size w w' := by
  obtain ⟨k, hk⟩ := numbers_law a0 a1 a2
  exact spinnakerlaw4_TextNumbers.calls k a0 a1 a2 true w hE hk
end Go.Proofs.YtcppcobcdhnalaaDoor
