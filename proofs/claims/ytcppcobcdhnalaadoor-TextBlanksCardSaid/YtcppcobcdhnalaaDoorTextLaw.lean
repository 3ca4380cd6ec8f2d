/- What the program's numbers and texts of numbers say, in the words without a program. -/
import Derived.Test.YtcppcobcdhnalaaDoorPTx1
import Derived.Test.YtcppcobcdhnalaaDoorBackPure
namespace Go.Proofs.YtcppcobcdhnalaaDoor
open Go Go.RowKit Go.Proofs.YtcppcobcdhnalaaDoor.PT Go.Proofs.YtcppcobcdhnalaaDoorW.PrintWords Go.Proofs.YtcppcobcdhnalaaDoorW.PrintLast
theorem toList_bs (s : ByteArray) : s.toList = bsOf s := ByteArray.toList_eq s
theorem bs_str (l : Bs) : bsOf (strOf l) = l := by unfold bsOf strOf; simp
theorem str_bs (s : ByteArray) : strOf (bsOf s) = s := by unfold bsOf strOf; simp
theorem size_bs (s : ByteArray) : s.size = (bsOf s).length := by unfold bsOf; simp
theorem size_str (l : Bs) : (strOf l).size = l.length := by rw [size_bs, bs_str]
def ds : Bs := [48, 49, 50, 51, 52, 53, 54, 55, 56, 57]
theorem ds_fin : ∀ b : Fin 256, ds.contains (UInt8.ofNat b.val) = isDig (UInt8.ofNat b.val) := by decide +kernel
theorem ds_isDig (b : UInt8) : ds.contains b = isDig b := by
  have h := ds_fin ⟨b.toNat, b.toNat_lt⟩
  simpa using h
theorem dropWhile_nil {α : Type} (p : α → Bool) : ∀ l : List α, l.dropWhile p = [] ↔ l.all p = true
  | [] => by simp
  | x :: l => by
    rw [List.dropWhile_cons, List.all_cons]
    cases h : p x
    · simp
    · simpa using dropWhile_nil p l
theorem trimS_nil (l cs : Bs) : Lib.trimS l cs = [] ↔ l.all (cs.contains ·) = true := by
  unfold Lib.trimS Lib.trimLeftS Lib.trimRightS
  rw [dropWhile_nil]
  constructor
  · intro h
    have hl : (l.reverse.dropWhile (cs.contains ·)) = [] := by
      cases hd : l.reverse.dropWhile (cs.contains ·) with
      | nil => rfl
      | cons x t =>
        rw [hd, List.all_reverse, List.all_cons, Bool.and_eq_true] at h
        have := List.head?_dropWhile_not (cs.contains ·) l.reverse
        rw [hd] at this
        exact absurd (List.contains_iff_mem.1 h.1) (by simpa using this)
    rw [dropWhile_nil, List.all_reverse] at hl
    exact hl
  · intro h
    have hl : (l.reverse.dropWhile (cs.contains ·)) = [] := by rw [dropWhile_nil, List.all_reverse]; exact h
    rw [hl]
    rfl
def small (s : ByteArray) : Prop := s.size < 4294967281
theorem digits_law (s : ByteArray) (m : Nat) (hm : m ≤ 9) (hs : small s) : text_digits.f s m = some ((((digitsP (bsOf s) m).getD 0 : Nat) : Int), (digitsP (bsOf s) m).isSome) := by
  unfold small at hs
  unfold text_digits.f
  rw [size_bs]
  by_cases h1 : ((bsOf s).length : Int) < 1
  · rw [if_pos h1]
    have : digitsP (bsOf s) m = none := by unfold digitsP; rw [if_neg (by simp; omega)]
    rw [this]; rfl
  rw [if_neg h1]
  by_cases h2 : ((bsOf s).length : Int) > (m : Int)
  · rw [if_pos h2]
    have : digitsP (bsOf s) m = none := by unfold digitsP; rw [if_neg (by simp; omega)]
    rw [this]; rfl
  rw [if_neg h2]
  have ht : strings_Trim.f s (⟨#[48, 49, 50, 51, 52, 53, 54, 55, 56, 57]⟩ : ByteArray) = some (strOf (Lib.trimS (bsOf s) ds)) := by
    unfold strings_Trim.f
    rw [if_pos (by simp only [smallB, Bool.and_eq_true, decide_eq_true_eq]; exact ⟨⟨hs, by decide⟩, by decide⟩)]
    rfl
  rw [ht, Option.bind_some, toList_bs, bs_str]
  have hall : (bsOf s).all (ds.contains ·) = (bsOf s).all isDig := by congr 1; funext b; exact ds_isDig b
  by_cases h3 : (bsOf s).all isDig = true
  · rw [if_pos ((trimS_nil _ _).2 (by rw [hall]; exact h3))]
    have hd : digitsP (bsOf s) m = some (val (bsOf s)) := by
      unfold digitsP; rw [if_pos (by simp only [Bool.and_eq_true, decide_eq_true_eq]; exact ⟨⟨by omega, by omega⟩, h3⟩)]
    have hp : strconv_ParseInt.f s 10 64 = some ((val (bsOf s) : Int), none) := by
      unfold strconv_ParseInt.f
      rw [parseInt_digits (bsOf s) (by omega) (by omega) h3]
      simp [smallB, hs]
    rw [hp, hd]; rfl
  · rw [if_neg (by rw [trimS_nil, hall]; exact h3)]
    have hd : digitsP (bsOf s) m = none := by
      unfold digitsP; rw [if_neg (by simp only [Bool.and_eq_true, decide_eq_true_eq, not_and]; intro _; exact h3)]
    rw [hd]; rfl
theorem cut_law (s : ByteArray) (hs : small s) : strings_Cut.f s (⟨#[46]⟩ : ByteArray) = some (strOf (cutC 46 (bsOf s)).1, strOf (cutC 46 (bsOf s)).2.1, (cutC 46 (bsOf s)).2.2) := by
  unfold strings_Cut.f small at *
  rw [if_pos (by simpa [smallB] using hs)]
  have : bsOf (⟨#[46]⟩ : ByteArray) = [46] := rfl
  rw [this, cut_one]
theorem cutC_len (c : UInt8) : ∀ l : Bs, (cutC c l).1.length ≤ l.length ∧ (cutC c l).2.1.length ≤ l.length
  | [] => by simp [cutC]
  | b :: l => by
    have := cutC_len c l
    rw [cutC]
    split
    · simp
    · simp only [List.length_cons]; omega
theorem small_str {l : Bs} {s : ByteArray} (h : l.length ≤ (bsOf s).length) (hs : small s) : small (strOf l) := by
  unfold small at *
  rw [size_str]
  rw [size_bs] at hs
  omega
theorem l0_law (neg : Bool) (n : Int) (j : Int) : ∀ (d k : Nat) (i x y : Nat), d < k → (i : Int) + d = j → j ≤ 3 → x * 10 ^ d = y → y < 1000 →
    text_Number.l0 k neg n (x : Int) j (i : Int) = some (if neg then wrap64 (-(wrap64 (n + (y : Int)))) else wrap64 (n + (y : Int)), true)
  | 0, k, i, x, y, hk, hj, h3, hy, hb => by
    obtain ⟨k, rfl⟩ : ∃ m, k = m + 1 := ⟨k - 1, by omega⟩
    simp only [text_Number.l0]
    rw [Nat.pow_zero, Nat.mul_one] at hy
    subst hy
    rw [if_neg (by omega)]
    cases neg <;> rfl
  | d + 1, k, i, x, y, hk, hj, h3, hy, hb => by
    obtain ⟨k, rfl⟩ : ∃ m, k = m + 1 := ⟨k - 1, by omega⟩
    simp only [text_Number.l0]
    have e3 : x * 10 * 10 ^ d = y := by rw [← hy, Nat.pow_succ]; ac_rfl
    have hx10 : x * 10 < 1000 := by
      have h10 : 1 ≤ 10 ^ d := Nat.one_le_pow d 10 (by decide)
      have : x * 10 * 1 ≤ x * 10 * 10 ^ d := Nat.mul_le_mul_left _ h10
      omega
    rw [if_pos (by omega)]
    have e1 : wrap64 ((x : Int) * 10) = ((x * 10 : Nat) : Int) := by unfold wrap64; omega
    have e2 : wrap64 ((i : Int) + 1) = ((i + 1 : Nat) : Int) := by unfold wrap64; omega
    rw [e1, e2, l0_law neg n j d k (i + 1) (x * 10) y (by omega) (by omega) h3 e3 hb]
theorem num_law (s : ByteArray) (hs : small s) : ∃ k, text_Number.f k s = some ((numberP (bsOf s)).getD 0, (numberP (bsOf s)).isSome) := by
  refine ⟨5, ?_⟩
  -- the sign, and the rest
  obtain ⟨neg, u, hcp, hu, hnum⟩ : ∃ (neg : Bool) (u : Bs), strings_CutPrefix.f s (⟨#[45]⟩ : ByteArray) = some (strOf u, neg) ∧ u.length ≤ (bsOf s).length ∧ numberP (bsOf s) = (bodyP u).map fun n => if neg then -(n : Int) else (n : Int) := by
    have e45 : bsOf (⟨#[45]⟩ : ByteArray) = [45] := rfl
    by_cases h : (bsOf s).head? = some 45
    · refine ⟨true, (bsOf s).tail, ?_, by rw [List.length_tail]; omega, ?_⟩
      · unfold strings_CutPrefix.f
        rw [e45]
        cases hl : bsOf s with
        | nil => rw [hl] at h; cases h
        | cons x l =>
          rw [hl, List.head?_cons, Option.some.injEq] at h
          subst h
          simp [Lib.trimPrefix, Lib.hasPrefix, List.isPrefixOf]
      · unfold numberP
        rw [if_pos h]
        simp
    · refine ⟨false, bsOf s, ?_, Nat.le_refl _, ?_⟩
      · unfold strings_CutPrefix.f
        rw [e45]
        have hp : Lib.hasPrefix (bsOf s) [45] = false := by
          cases hl : bsOf s with
          | nil => rfl
          | cons x l =>
            rw [hl, List.head?_cons, Option.some.injEq] at h
            simp [Lib.hasPrefix, List.isPrefixOf]
            exact fun e => h e.symm
        simp [Lib.trimPrefix, hp]
      · unfold numberP
        rw [if_neg h]
        simp
  unfold text_Number.f
  rw [hcp, Option.bind_some, cut_law _ (small_str hu hs), Option.bind_some, bs_str, hnum]
  simp only
  obtain ⟨l1, l2⟩ := cutC_len 46 u
  have d9 := digits_law (strOf (cutC 46 u).1) 9 (by decide) (small_str (by omega) hs)
  have d3 := digits_law (strOf (cutC 46 u).2.1) 3 (by decide) (small_str (by omega) hs)
  rw [bs_str] at d9 d3
  have c9 : ((9 : Nat) : Int) = 9 := rfl
  have c3 : ((3 : Nat) : Int) = 3 := rfl
  rw [c9] at d9
  rw [c3] at d3
  rw [d9, Option.bind_some]
  unfold bodyP
  cases h1 : digitsP (cutC 46 u).1 9 with
  | none => simp
  | some n =>
    have hn : n < 1000000000 := by
      unfold digitsP at h1
      split at h1
      · rename_i hc
        simp only [Bool.and_eq_true, decide_eq_true_eq] at hc
        cases h1
        exact Nat.lt_of_lt_of_le (val_bound _ hc.2) (Nat.pow_le_pow_right (by decide) hc.1.2)
      · cases h1
    simp only [Option.getD_some, Option.isSome_some, if_true]
    have w1 : wrap64 ((n : Int) * 1000) = (n : Int) * 1000 := by unfold wrap64; omega
    rw [w1]
    by_cases h2 : (cutC 46 u).2.2 = true
    · rw [if_pos h2, if_pos h2, d3, Option.bind_some]
      cases h3 : digitsP (cutC 46 u).2.1 3 with
      | none => simp
      | some x =>
        have hx : x < 10 ^ (cutC 46 u).2.1.length ∧ (cutC 46 u).2.1.length ≤ 3 := by
          unfold digitsP at h3
          split at h3
          · rename_i hc
            simp only [Bool.and_eq_true, decide_eq_true_eq] at hc
            cases h3
            exact ⟨val_bound _ hc.2, hc.1.2⟩
          · cases h3
        simp only [Option.getD_some, Option.isSome_some, if_true]
        generalize hlen : (cutC 46 u).2.1.length = m at *
        have hsz : ((strOf (cutC 46 u).2.1).size : Int) = m := by rw [size_str, hlen]
        have w2 : wrap64 (3 - (m : Int)) = 3 - (m : Int) := by unfold wrap64; omega
        have hpow : (10 : Nat) ^ m * 10 ^ (3 - m) = 1000 := by
          rw [← Nat.pow_add, show m + (3 - m) = 3 by omega]
        have hlt : x * 10 ^ (3 - m) < 1000 := by
          rw [← hpow]
          exact Nat.mul_lt_mul_of_pos_right hx.1 (Nat.pow_pos (by decide))
        generalize hy : x * 10 ^ (3 - m) = y at *
        have hl := l0_law neg ((n : Int) * 1000) (3 - (m : Int)) (3 - m) 5 0 x y (by omega) (by omega) (by omega) hy hlt
        have z : ((0 : Nat) : Int) = 0 := rfl
        rw [z] at hl
        rw [hsz, w2, hl]
        clear hpow hy hl hsz w2 hx
        have w3 : wrap64 ((n : Int) * 1000 + (y : Int)) = (n : Int) * 1000 + y := by unfold wrap64; omega
        have w4 : wrap64 (-((n : Int) * 1000 + (y : Int))) = -((n : Int) * 1000 + y) := by unfold wrap64; omega
        rw [w3, w4]
        cases neg <;> simp
    · rw [if_neg h2, if_neg h2]
      have w4 : wrap64 (-((n : Int) * 1000)) = -((n : Int) * 1000) := by unfold wrap64; omega
      rw [w4]
      cases neg <;> simp
theorem bs_append (a b : ByteArray) : bsOf (a ++ b) = bsOf a ++ bsOf b := by unfold bsOf; simp
theorem bs_extract (s : ByteArray) : bsOf (s.extract 1 s.size) = (bsOf s).drop 1 := by
  unfold bsOf
  rw [Lib.extract_data]
  rw [size_bs]
  unfold bsOf
  rw [List.take_of_length_le (by rw [List.length_drop]; exact Nat.le_refl _)]
theorem bs_inj {a b : ByteArray} (h : bsOf a = bsOf b) : a = b := by rw [← str_bs a, ← str_bs b, h]
theorem trimRightS_one (l : Bs) (c : UInt8) : Lib.trimRightS l [c] = Lib.trimRightB l c := by
  unfold Lib.trimRightS Lib.trimRightB
  have e : (fun x : UInt8 => List.contains [c] x) = (fun x => x == c) := by funext x; by_cases h : x = c <;> simp [h]
  rw [e]
theorem fmt_given (n : Int) (h0 : 0 ≤ n) (h1 : n ≤ 9223372036854775807) : strconv_FormatInt.f n 10 = some (strOf (Lib.decDigits n.toNat)) := by
  unfold strconv_FormatInt.f
  rw [if_pos (by simp only [Bool.and_eq_true, decide_eq_true_eq, and_true]; exact ⟨by omega, h1⟩), itoa_bytes n h0]
theorem j0_law (m : Nat) (hm : m ≤ 9223372036854775807) (sg : ByteArray) (hsg : sg.size ≤ 1) (k : Nat) : text_Show.j0 (k + 1) (m : Int) sg = some (strOf (bsOf sg ++ (Lib.decDigits (m / 1000) ++ (if m % 1000 = 0 then [] else 46 :: Lib.trimRightB ((Lib.decDigits (1000 + m % 1000)).drop 1) 48)))) := by
  simp only [text_Show.j0]
  have e1 : wrap64 ((m : Int).tdiv 1000) = ((m / 1000 : Nat) : Int) := by
    have : (m : Int).tdiv 1000 = ((m / 1000 : Nat) : Int) := rfl
    rw [this]
    unfold wrap64; omega
  have e2 : (m : Int).tmod 1000 = ((m % 1000 : Nat) : Int) := rfl
  have e3 : wrap64 (1000 + ((m % 1000 : Nat) : Int)) = ((1000 + m % 1000 : Nat) : Int) := by unfold wrap64; omega
  have l1 : (Lib.decDigits (m / 1000)).length ≤ 19 := dec_len _ 19 (by decide) (by omega)
  have l2 : (Lib.decDigits (1000 + m % 1000)).length ≤ 4 := dec_len _ 4 (by decide) (by omega)
  have l3 := dec_pos (1000 + m % 1000)
  rw [e1, e2, e3, fmt_given _ (by omega) (by omega), Option.bind_some, Int.toNat_natCast, size_str, if_pos (by omega)]
  by_cases h0 : m % 1000 = 0
  · rw [if_pos (by omega), if_pos h0, List.append_nil]
    exact congrArg some (bs_inj (by rw [bs_append, bs_str, bs_str]))
  · rw [if_neg (by omega), if_neg h0, fmt_given _ (by omega) (by omega), Option.bind_some, Int.toNat_natCast]
    have s1 : (sg ++ strOf (Lib.decDigits (m / 1000))).size = sg.size + (Lib.decDigits (m / 1000)).length := by rw [ByteArray.size_append, size_str]
    have s2 : (sg ++ strOf (Lib.decDigits (m / 1000)) ++ (⟨#[46]⟩ : ByteArray)).size = sg.size + (Lib.decDigits (m / 1000)).length + 1 := by rw [ByteArray.size_append, s1]; rfl
    have ht : strings_TrimRight.f ((strOf (Lib.decDigits (1000 + m % 1000))).extract 1 (strOf (Lib.decDigits (1000 + m % 1000))).size) (⟨#[48]⟩ : ByteArray) = some (strOf (Lib.trimRightB ((Lib.decDigits (1000 + m % 1000)).drop 1) 48)) := by
      unfold strings_TrimRight.f
      have e : bsOf (⟨#[48]⟩ : ByteArray) = [48] := rfl
      rw [if_pos (by
        simp only [smallB, Bool.and_eq_true, decide_eq_true_eq]
        refine ⟨⟨?_, by decide⟩, by decide⟩
        rw [size_bs, bs_extract, bs_str, List.length_drop]
        omega), bs_extract, bs_str, e, trimRightS_one]
    have l4 : (Lib.trimRightB ((Lib.decDigits (1000 + m % 1000)).drop 1) 48).length ≤ 4 := by
      unfold Lib.trimRightB
      have h2 := (List.dropWhile_sublist (fun x => x == 48) (l := (List.drop 1 (Lib.decDigits (1000 + m % 1000))).reverse)).length_le
      simp only [List.length_reverse, List.length_drop] at h2 ⊢
      omega
    rw [s1, if_pos (by omega), size_str, if_pos (by omega), ← size_str, ht, Option.bind_some, s2, size_str, if_pos (by omega)]
    refine congrArg some (bs_inj ?_)
    have e46 : bsOf (⟨#[46]⟩ : ByteArray) = [46] := rfl
    rw [bs_append, bs_append, bs_append, bs_str, bs_str, bs_str, e46]
    simp
theorem show_law (n : Int) (h0 : -9223372036854775808 ≤ n) (h1 : n ≤ 9223372036854775807) : ∃ k, text_Show.f k n = some (strOf (showP n)) := by
  refine ⟨1, ?_⟩
  unfold text_Show.f showP
  by_cases hn : n < 0
  · rw [if_pos hn, if_pos hn]
    have e : wrap64 (-(mx n (-9223372036854775807))) = ((absP n : Nat) : Int) := by
      unfold absP wrap64 mx
      rw [if_pos hn]
      omega
    rw [e, j0_law (absP n) (by unfold absP; rw [if_pos hn]; omega) _ (by decide) 0]
    rfl
  · rw [if_neg hn, if_neg hn]
    have e : n = ((absP n : Nat) : Int) := by unfold absP; rw [if_neg hn]; omega
    have hm : absP n ≤ 9223372036854775807 := by unfold absP; rw [if_neg hn]; omega
    have := j0_law (absP n) hm (⟨#[]⟩ : ByteArray) (by decide) 0
    rw [← e] at this
    rw [this]
    rfl
end Go.Proofs.YtcppcobcdhnalaaDoor
