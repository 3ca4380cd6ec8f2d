/- What is shown of a number is read as it; what is printed of settings is read as these: without a program. -/
import Derived.Test.YtcppcobcdhnalaaDoorTextPure
namespace Go.Proofs.YtcppcobcdhnalaaDoor
open Go
theorem dig_fin : ∀ d : Fin 10, isDig (UInt8.ofNat (48 + d.val)) = true ∧ (UInt8.ofNat (48 + d.val)).toNat = 48 + d.val := by decide +kernel
theorem dig_of (d : Nat) (h : d < 10) : isDig (UInt8.ofNat (48 + d)) = true ∧ (UInt8.ofNat (48 + d)).toNat = 48 + d := dig_fin ⟨d, h⟩
theorem dec_all (u : Nat) : (Lib.decDigits u).all isDig = true := by
  induction u using Nat.strongRecOn with
  | ind u ih =>
    rw [Lib.decDigits]
    split
    · rename_i h
      rw [List.all_cons, (dig_of u h).1]
      rfl
    · rw [List.all_append, ih (u / 10) (by omega), List.all_cons, (dig_of (u % 10) (by omega)).1]
      rfl
theorem dec_val (u : Nat) : val (Lib.decDigits u) = u := by
  induction u using Nat.strongRecOn with
  | ind u ih =>
    rw [Lib.decDigits]
    split
    · rename_i h
      unfold val dval
      simp only [List.foldl_cons, List.foldl_nil, (dig_of u h).2]
      omega
    · rw [val_snoc, ih (u / 10) (by omega), (dig_of (u % 10) (by omega)).2]
      omega
theorem dec_len (u k : Nat) (hk : 1 ≤ k) (h : u < 10 ^ k) : (Lib.decDigits u).length ≤ k := by
  induction k generalizing u with
  | zero => omega
  | succ k ih =>
    rw [Lib.decDigits]
    split
    · simp
    · rename_i h10
      rw [List.length_append, List.length_singleton]
      have hk1 : 1 ≤ k := by
        cases k with
        | zero => exact absurd h (by simpa using h10)
        | succ k => omega
      have := ih (u / 10) hk1 (by rw [Nat.pow_succ] at h; omega)
      omega
theorem dec_pos (u : Nat) : 1 ≤ (Lib.decDigits u).length := by
  rw [Lib.decDigits]
  split <;> simp
theorem digitsP_dec (u k : Nat) (hk : 1 ≤ k) (h : u < 10 ^ k) : digitsP (Lib.decDigits u) k = some u := by
  unfold digitsP
  rw [if_pos (by simp only [Bool.and_eq_true, decide_eq_true_eq]; exact ⟨⟨dec_pos u, dec_len u k hk h⟩, dec_all u⟩), dec_val]
theorem dig_ne {b : UInt8} (h : isDig b = true) : b ≠ 46 ∧ b ≠ 45 ∧ b ≠ 10 ∧ b ≠ 32 ∧ b ≠ 58 := by
  simp only [isDig, Bool.and_eq_true, decide_eq_true_eq] at h
  refine ⟨?_, ?_, ?_, ?_, ?_⟩ <;> (rintro rfl; revert h; decide)
theorem cutC_hit (c : UInt8) : ∀ (a t : Bs), (∀ b ∈ a, b ≠ c) → cutC c (a ++ c :: t) = (a, t, true)
  | [], t, _ => by simp [cutC]
  | b :: a, t, h => by
    rw [List.cons_append, cutC, if_neg (h b (List.mem_cons_self ..)), cutC_hit c a t (fun x hx => h x (List.mem_cons_of_mem _ hx))]
theorem cutC_miss (c : UInt8) : ∀ (a : Bs), (∀ b ∈ a, b ≠ c) → cutC c a = (a, [], false)
  | [], _ => by simp [cutC]
  | b :: a, h => by
    rw [cutC, if_neg (h b (List.mem_cons_self ..)), cutC_miss c a (fun x hx => h x (List.mem_cons_of_mem _ hx))]
theorem cut2_hit (c d : UInt8) : ∀ (a t : Bs), (∀ b ∈ a, b ≠ c) → cut2 c d (a ++ c :: d :: t) = (a, t, true)
  | [], t, _ => by simp [cut2]
  | b :: a, t, h => by
    rw [List.cons_append, cut2, if_neg (fun e => h b (List.mem_cons_self ..) e.1), cut2_hit c d a t (fun x hx => h x (List.mem_cons_of_mem _ hx))]
theorem lines_hit : ∀ (a t : Bs), (∀ b ∈ a, b ≠ 10) → linesOf (a ++ 10 :: t) = a :: linesOf t := fun a t h => by
  rw [linesOf_cut, cutC_hit 10 a t h]
  rfl
theorem lines_last (a : Bs) (h : ∀ b ∈ a, b ≠ 10) : linesOf a = [a] := by
  rw [linesOf_cut, cutC_miss 10 a h]
  rfl
def four (u : Nat) : Bs := [UInt8.ofNat (48 + u / 100 / 10), UInt8.ofNat (48 + u / 100 % 10), UInt8.ofNat (48 + u % 100 / 10), UInt8.ofNat (48 + u % 10)]
theorem dec_four (r : Nat) (h : r < 1000) : Lib.decDigits (1000 + r) = four (1000 + r) := by
  rw [Lib.decDigits, dif_neg (by omega), Lib.decDigits, dif_neg (by omega), Lib.decDigits_two (by omega) (by omega)]
  unfold four
  have e1 : (1000 + r) / 10 / 10 / 10 = (1000 + r) / 100 / 10 := by omega
  have e2 : (1000 + r) / 10 / 10 % 10 = (1000 + r) / 100 % 10 := by omega
  have e3 : (1000 + r) / 10 % 10 = (1000 + r) % 100 / 10 := by omega
  rw [e1, e2, e3]
  rfl
def tailP (r : Nat) : Bs := Lib.trimRightB ((four (1000 + r)).drop 1) 48
def tailOk (r : Nat) : Bool := r == 0 || (match digitsP (tailP r) 3 with | some k => k * 10 ^ (3 - (tailP r).length) == r | none => false) && (tailP r).all isDig
theorem tail_fin : ∀ r : Fin 1000, tailOk r.val = true := by decide +kernel
theorem bodyP_show (m : Nat) (h : m < 1000000000000) : bodyP (Lib.decDigits (m / 1000) ++ (if m % 1000 = 0 then [] else 46 :: Lib.trimRightB ((Lib.decDigits (1000 + m % 1000)).drop 1) 48)) = some m := by
  have hd : ∀ b ∈ Lib.decDigits (m / 1000), b ≠ 46 := fun b hb => (dig_ne (List.all_eq_true.1 (dec_all _) b hb)).1
  have hq := digitsP_dec (m / 1000) 9 (by decide) (by omega)
  by_cases h0 : m % 1000 = 0
  · rw [if_pos h0, List.append_nil]
    unfold bodyP
    rw [cutC_miss 46 _ hd]
    simp only [hq]
    simp
    omega
  · have ht := tail_fin ⟨m % 1000, by omega⟩
    simp only [tailOk, Bool.or_eq_true, beq_iff_eq, h0, false_or, Bool.and_eq_true] at ht
    rw [if_neg h0, dec_four (m % 1000) (by omega)]
    change bodyP (_ ++ 46 :: tailP (m % 1000)) = _
    unfold bodyP
    rw [cutC_hit 46 _ _ hd]
    simp only [hq]
    cases hk : digitsP (tailP (m % 1000)) 3 with
    | none => rw [hk] at ht; simp at ht
    | some k =>
      rw [hk] at ht
      simp only [beq_iff_eq] at ht
      simp only [if_true, Option.some.injEq]
      have := ht.1
      omega
theorem show_bytes (n : Int) : ∀ b ∈ showP n, isDig b = true ∨ b = 45 ∨ b = 46 := by
  intro b hb
  unfold showP at hb
  rw [List.mem_append, List.mem_append] at hb
  rcases hb with hb | hb | hb
  · split at hb
    · exact .inr (.inl (List.mem_singleton.1 hb))
    · cases hb
  · exact .inl (List.all_eq_true.1 (dec_all _) b hb)
  · split at hb
    · cases hb
    · rename_i h0
      rcases List.mem_cons.1 hb with rfl | hb
      · exact .inr (.inr rfl)
      · have ht := tail_fin ⟨absP n % 1000, by omega⟩
        simp only [tailOk, Bool.or_eq_true, beq_iff_eq, h0, false_or, Bool.and_eq_true] at ht
        rw [dec_four _ (by omega)] at hb
        exact .inl (List.all_eq_true.1 ht.2 b hb)
theorem numberP_showP (n : Int) (h1 : -1000000000000 < n) (h2 : n < 1000000000000) : numberP (showP n) = some n := by
  have hm : absP n < 1000000000000 := by unfold absP; split <;> omega
  have hb := bodyP_show (absP n) hm
  unfold showP numberP
  by_cases hn : n < 0
  · rw [if_pos hn]
    simp only [List.cons_append, List.nil_append, List.head?_cons, if_true, List.tail_cons]
    rw [hb]
    refine congrArg some ?_
    show -((absP n : Nat) : Int) = n
    unfold absP
    rw [if_pos hn]
    omega
  · rw [if_neg hn, List.nil_append]
    have hh : ∀ t : Bs, (Lib.decDigits (absP n / 1000) ++ t).head? ≠ some 45 := by
      intro t e
      have hp := dec_pos (absP n / 1000)
      cases hl : Lib.decDigits (absP n / 1000) with
      | nil => rw [hl] at hp; simp at hp
      | cons x l =>
        rw [hl, List.cons_append, List.head?_cons] at e
        have hx := List.all_eq_true.1 (dec_all (absP n / 1000)) x (by rw [hl]; exact List.mem_cons_self ..)
        exact (dig_ne hx).2.1 (Option.some.inj e)
    rw [if_neg (hh _), hb]
    refine congrArg some ?_
    show ((absP n : Nat) : Int) = n
    unfold absP
    rw [if_neg hn]
    omega
/- Lines. -/
theorem name_fin : ∀ k : Fin 20, partOf (nameOf k.val) = some k.val ∧ (nameOf k.val).all (fun b => b != 10 && b != 58 && b != 32 && b != 35) = true ∧ (nameOf k.val).isEmpty = false := by decide +kernel
theorem thin_vals (c : Conf) (hc : c.may = true) (k : Nat) (hk : k < 20) : if thin k then -1000000000000 < c.at_ k ∧ c.at_ k < 1000000000000 else 0 ≤ c.at_ k ∧ c.at_ k < 1000000 := by
  unfold Conf.may Conf.oks at hc
  simp only [List.all_cons, List.all_nil, Bool.and_true, id, Bool.and_eq_true, Bool.or_eq_true, inB, decide_eq_true_eq, beq_iff_eq] at hc
  obtain ⟨h0, h1, h2, h3, h4, h5, h6, h7, h8, h9, h10, h11, h12, h13, h14, h15, h16, h17, h18, h19⟩ := hc
  have hmax : 0 ≤ c.max ∧ c.max ≤ 100 := by
    rcases h9 with h | ⟨h, h'⟩
    · omega
    · split at h <;> omega
  have hini : c.initial ≤ 100 := by obtain ⟨_, h⟩ := h10; split at h <;> omega
  match k, hk with
  | 0, _ => simp only [thin, Conf.at_, Conf.list]; simp; omega
  | 1, _ => simp only [thin, Conf.at_, Conf.list]; simp; omega
  | 2, _ => simp only [thin, Conf.at_, Conf.list]; simp; omega
  | 3, _ => simp only [thin, Conf.at_, Conf.list]; simp; omega
  | 4, _ => simp only [thin, Conf.at_, Conf.list]; simp; omega
  | 5, _ => simp only [thin, Conf.at_, Conf.list]; simp; omega
  | 6, _ => simp only [thin, Conf.at_, Conf.list]; simp; omega
  | 7, _ => simp only [thin, Conf.at_, Conf.list]; simp; omega
  | 8, _ => simp only [thin, Conf.at_, Conf.list]; simp; omega
  | 9, _ => simp only [thin, Conf.at_, Conf.list]; simp; omega
  | 10, _ => simp only [thin, Conf.at_, Conf.list]; simp; omega
  | 11, _ => simp only [thin, Conf.at_, Conf.list]; simp; omega
  | 12, _ => simp only [thin, Conf.at_, Conf.list]; simp; omega
  | 13, _ => simp only [thin, Conf.at_, Conf.list]; simp; omega
  | 14, _ => simp only [thin, Conf.at_, Conf.list]; simp; omega
  | 15, _ => simp only [thin, Conf.at_, Conf.list]; simp; omega
  | 16, _ => simp only [thin, Conf.at_, Conf.list]; simp; omega
  | 17, _ => simp only [thin, Conf.at_, Conf.list]; simp; omega
  | 18, _ => simp only [thin, Conf.at_, Conf.list]; simp; omega
  | 19, _ => simp only [thin, Conf.at_, Conf.list]; simp; omega
  | n + 20, h => omega
theorem itoa_bytes (n : Int) (h : 0 ≤ n) : Lib.itoa n = Lib.decDigits n.toNat := by
  unfold Lib.itoa
  rw [if_neg (by omega)]
theorem showV_bytes (k : Nat) (n : Int) (h : thin k = true ∨ 0 ≤ n) : ∀ b ∈ showV k n, b ≠ 10 ∧ b ≠ 32 := by
  intro b hb
  unfold showV at hb
  split at hb
  · rcases show_bytes n b hb with h | rfl | rfl
    · exact ⟨(dig_ne h).2.2.1, (dig_ne h).2.2.2.1⟩
    · decide
    · decide
  · rename_i ht
    rw [itoa_bytes n (by rcases h with h | h; exact absurd h ht; exact h)] at hb
    have := dig_ne (List.all_eq_true.1 (dec_all _) b hb)
    exact ⟨this.2.2.1, this.2.2.2.1⟩
theorem showV_ne (k : Nat) (n : Int) (h : thin k = true ∨ 0 ≤ n) : showV k n ≠ [] := by
  unfold showV
  split
  · unfold showP
    intro e
    have hp := dec_pos (absP n / 1000)
    rw [List.append_eq_nil_iff, List.append_eq_nil_iff] at e
    rw [e.2.1] at hp
    simp at hp
  · rename_i ht
    rw [itoa_bytes n (by rcases h with h | h; exact absurd h ht; exact h)]
    intro e
    have hp := dec_pos n.toNat
    rw [e] at hp
    simp at hp
theorem readP_showV (k : Nat) (n : Int) (h : if thin k then -1000000000000 < n ∧ n < 1000000000000 else 0 ≤ n ∧ n < 1000000) : readP k (showV k n) = some n := by
  unfold readP showV
  by_cases ht : thin k = true
  · rw [if_pos ht] at h ⊢
    rw [if_pos ht]
    exact numberP_showP n h.1 h.2
  · rw [if_neg ht] at h ⊢
    rw [if_neg ht, itoa_bytes n h.1, digitsP_dec n.toNat 6 (by decide) (by omega)]
    refine congrArg some ?_
    show ((n.toNat : Nat) : Int) = n
    omega
theorem trim_line (a v : Bs) (x : UInt8) (hx : x ≠ 32) (hv : v ≠ []) (hb : ∀ b ∈ v, b ≠ 32) : Lib.trimB (x :: a ++ v) 32 = x :: a ++ v := by
  have e : Lib.trimRightB (x :: a ++ v) 32 = x :: a ++ v := by
    unfold Lib.trimRightB
    rw [List.reverse_append]
    have hr : v.reverse ≠ [] := by simpa using hv
    cases hvr : v.reverse with
    | nil => exact absurd hvr hr
    | cons y ys =>
      have hy : y ≠ 32 := hb y (by rw [← List.mem_reverse, hvr]; exact List.mem_cons_self ..)
      rw [List.cons_append, List.dropWhile_cons_of_neg (by simpa using hy), ← List.cons_append, ← hvr, ← List.reverse_append, List.reverse_reverse]
  unfold Lib.trimB
  rw [e]
  unfold Lib.trimLeftB
  rw [List.cons_append, List.dropWhile_cons_of_neg (by simpa using hx)]
theorem step_line (c : Conf) (seen : List Nat) (k : Nat) (hk : k < 20) (n : Int) (h : if thin k then -1000000000000 < n ∧ n < 1000000000000 else 0 ≤ n ∧ n < 1000000) (hs : seen.contains k = false) : stepP (c, seen) (lineOf k n) = some (c.put k n, k :: seen) := by
  obtain ⟨hp, ha, hne⟩ := name_fin ⟨k, hk⟩
  simp only at hp ha hne
  have hor : thin k = true ∨ 0 ≤ n := by
    by_cases ht : thin k = true
    · exact .inl ht
    · rw [if_neg ht] at h; exact .inr h.1
  have hbytes : ∀ b ∈ nameOf k, b ≠ 10 ∧ b ≠ 58 ∧ b ≠ 32 ∧ b ≠ 35 := fun b hb => by
    have := List.all_eq_true.1 ha b hb
    simp only [Bool.and_eq_true, bne_iff_ne] at this
    exact ⟨this.1.1.1, this.1.1.2, this.1.2, this.2⟩
  have hcut : cut2 58 32 (lineOf k n) = (nameOf k, showV k n, true) := cut2_hit 58 32 _ _ fun b hb => (hbytes b hb).2.1
  have htrim : Lib.trimB (lineOf k n) 32 = lineOf k n ∧ idle (lineOf k n) = false := by
    unfold lineOf
    cases hn : nameOf k with
    | nil => rw [hn] at hne; cases hne
    | cons x a =>
      have hx := hbytes x (by rw [hn]; exact List.mem_cons_self ..)
      constructor
      · have := trim_line (a ++ [58, 32]) (showV k n) x hx.2.2.1 (showV_ne k n hor) (fun b hb => (showV_bytes k n hor b hb).2)
        simpa using this
      · simp [idle, hx.2.2.2]
  unfold stepP
  simp only [htrim.1, htrim.2, Bool.false_eq_true, if_false]
  unfold lineP
  simp only [hcut, hp, readP_showV k n h, Option.map_some, hs, Bool.false_eq_true, if_false]
theorem run_lines (c : Conf) (hc : c.may = true) : ∀ (m k : Nat) (d : Conf) (seen : List Nat) (i : Nat), k + m = 20 → (∀ j ∈ seen, j < k) →
    runP (d, seen) i (((List.range' k m).map fun k => lineOf k (c.at_ k)) ++ [[]]) = .inr ((List.range' k m).foldl (fun d k => d.put k (c.at_ k)) d)
  | 0, k, d, seen, i, _, _ => by
    have : stepP (d, seen) [] = some (d, seen) := by simp [stepP, idle, Lib.trimB, Lib.trimRightB, Lib.trimLeftB]
    simp [runP, this]
  | m + 1, k, d, seen, i, hk, hs => by
    have hlt : k < 20 := by omega
    have := step_line d seen k hlt (c.at_ k) (thin_vals c hc k hlt) (by
      rw [Bool.eq_false_iff]
      intro e
      have := hs k (List.contains_iff_mem.1 e)
      omega)
    rw [List.range'_succ, List.map_cons, List.cons_append, runP, this]
    simp only [List.foldl_cons]
    exact run_lines c hc m (k + 1) _ _ _ (by omega) (by
      intro j hj
      rcases List.mem_cons.1 hj with rfl | hj
      · omega
      · have := hs j hj; omega)
theorem lines_print (c : Conf) (hc : c.may = true) : ∀ (m k : Nat), k + m = 20 → linesOf ((List.range' k m).flatMap fun k => lineOf k (c.at_ k) ++ [10]) = ((List.range' k m).map fun k => lineOf k (c.at_ k)) ++ [[]]
  | 0, k, _ => rfl
  | m + 1, k, hk => by
    have hlt : k < 20 := by omega
    have hv := thin_vals c hc k hlt
    obtain ⟨_, ha, _⟩ := name_fin ⟨k, hlt⟩
    simp only at ha
    have hor : thin k = true ∨ 0 ≤ c.at_ k := by
      by_cases ht : thin k = true
      · exact .inl ht
      · rw [if_neg ht] at hv; exact .inr hv.1
    rw [List.range'_succ, List.flatMap_cons, List.append_assoc, List.map_cons, List.cons_append]
    rw [List.nil_append]
    rw [lines_hit _ _ (by
      intro b hb
      unfold lineOf at hb
      rw [List.mem_append] at hb
      rcases hb with hb | hb
      · have := List.all_eq_true.1 ha b hb
        simp only [Bool.and_eq_true, bne_iff_ne] at this
        exact this.1.1.1
      · rcases List.mem_cons.1 hb with rfl | hb
        · decide
        · rcases List.mem_cons.1 hb with rfl | hb
          · decide
          · exact (showV_bytes k _ hor b hb).1), lines_print c hc m (k + 1) (by omega)]
    rfl
theorem Conf.ext_at (c d : Conf) (h : ∀ j, j < 20 → d.at_ j = c.at_ j) : d = c := by
  cases d; cases c
  rw [Conf.mk.injEq]
  exact ⟨h 0 (by decide), h 1 (by decide), h 2 (by decide), h 3 (by decide), h 4 (by decide), h 5 (by decide), h 6 (by decide), h 7 (by decide), h 8 (by decide), h 9 (by decide), h 10 (by decide), h 11 (by decide), h 12 (by decide), h 13 (by decide), h 14 (by decide), h 15 (by decide), h 16 (by decide), h 17 (by decide), h 18 (by decide), h 19 (by decide)⟩
theorem fold_at (c : Conf) : ∀ (m k : Nat) (d : Conf), k + m = 20 → (∀ j, j < k → d.at_ j = c.at_ j) → ∀ j, j < 20 → ((List.range' k m).foldl (fun d k => d.put k (c.at_ k)) d).at_ j = c.at_ j
  | 0, k, d, hk, h, j, hj => h j (by omega)
  | m + 1, k, d, hk, h, j, hj => by
    rw [List.range'_succ, List.foldl_cons]
    refine fold_at c m (k + 1) _ (by omega) (fun i hi => ?_) j hj
    rw [Conf.at_put _ _ _ _ (by omega)]
    split
    · rename_i e; rw [e]
    · exact h i (by omega)
theorem fold_put (c d : Conf) : (List.range' 0 20).foldl (fun d k => d.put k (c.at_ k)) d = c :=
  Conf.ext_at c _ (fold_at c 20 0 d rfl (fun j hj => absurd hj (Nat.not_lt_zero j)))
theorem parse_print (c d : Conf) (hc : c.may = true) : parseP d (printP c) = (c, 0, 0) := by
  unfold parseP printP
  rw [List.range_eq_range', lines_print c hc 20 0 rfl, run_lines c hc 20 0 d [] 0 rfl (by simp), fold_put]
  simp [hc]
theorem parse_nil (c : Conf) (hc : c.may = true) : parseP c [] = (c, 0, 0) := by
  have : stepP (c, []) [] = some (c, []) := by simp [stepP, idle, Lib.trimB, Lib.trimRightB, Lib.trimLeftB]
  simp [parseP, linesOf, runP, this, hc]
end Go.Proofs.YtcppcobcdhnalaaDoor
