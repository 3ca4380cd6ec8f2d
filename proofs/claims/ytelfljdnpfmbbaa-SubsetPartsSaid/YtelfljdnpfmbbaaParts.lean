/- What the statement SubsetParts computes, walked: true, whatever the arguments. -/
import Derived.Test.YtelfljdnpfmbbaaStays
namespace Go.Proofs.Ytelfljdnpfmbbaa
open Go.RowKit Go.Sort
theorem mkL_rising (f : Int) (i : Nat) : (mkL f 1 i).Pairwise (· < ·) := by
  unfold mkL
  rw [List.pairwise_map]
  refine List.pairwise_lt_range.imp ?_
  intro a b h
  omega
theorem sub_rising (f : Int) (i m : Nat) : (Pure.sub (mkL f 1 i) m).Pairwise (· < ·) := (mkL_rising f i).sublist (Pure.sub_sub _ _)
theorem step_eq {p q : List Int} {a b : Nat} (ha : a < p.length) (hb : b < q.length) (h : (p.drop a).Sublist (q.drop b)) (he : p.getD a 0 = q.getD b 0) : (p.drop (a + 1)).Sublist (q.drop (b + 1)) := by
  rw [List.drop_eq_getElem_cons ha, List.drop_eq_getElem_cons hb] at h
  simp only [List.getD_eq_getElem?_getD, List.getElem?_eq_getElem ha, List.getElem?_eq_getElem hb, Option.getD_some] at he
  rw [he] at h
  exact List.Sublist.of_cons_cons h
theorem sub_ne {x y : Int} {l m : List Int} (h : (x :: l).Sublist (y :: m)) (hne : x ≠ y) : (x :: l).Sublist m := by
  cases h with
  | cons _ h => exact h
  | cons_cons _ h => exact absurd rfl hne
theorem step_ne {p q : List Int} {a b : Nat} (ha : a < p.length) (hb : b < q.length) (h : (p.drop a).Sublist (q.drop b)) (he : p.getD a 0 ≠ q.getD b 0) : (p.drop a).Sublist (q.drop (b + 1)) := by
  rw [List.drop_eq_getElem_cons ha, List.drop_eq_getElem_cons hb] at h
  rw [List.drop_eq_getElem_cons ha]
  simp only [List.getD_eq_getElem?_getD, List.getElem?_eq_getElem ha, List.getElem?_eq_getElem hb, Option.getD_some] at he
  exact sub_ne h he
theorem rising_get {l : List Int} (h : l.Pairwise (· < ·)) (k : Nat) (h1 : 1 ≤ k) (h2 : k < l.length) : l.getD (k - 1) 0 < l.getD k 0 := by
  have := List.pairwise_iff_getElem.1 h (k - 1) k (by omega) h2 (by omega)
  simpa only [List.getD_eq_getElem?_getD, List.getElem?_eq_getElem h2, List.getElem?_eq_getElem (show k - 1 < l.length by omega), Option.getD_some] using this
theorem own_shape0 {w : World} {base n : Nat} {v : Value} {L : List Value} (h : w.ownsRow base 3 1 v n L) : ∃ a cap, v = .slice a n cap ∧ (0 < n → ∃ g, a = some ⟨g, 0, none⟩) := by
  rcases h.2 with ⟨rfl, h0⟩ | ⟨g, cap, cur, rfl, _⟩
  · exact ⟨none, 0, by rw [h0], fun h => by omega⟩
  · exact ⟨_, cap, rfl, fun _ => ⟨g, rfl⟩⟩
theorem ofL_zero (l : List Int) : Pure.ofL l 0 = l := by unfold Pure.ofL; rw [if_pos (.inl (by decide))]
theorem ints_none (a a' : Option Addr) (c c' : Nat) (w : World) : Calls Try.prog 7 #[.slice a 0 c, .slice a' 0 c'] w fun e w' => e = .returned (.bool true) ∧ ∃ n, w' = w.drewN n := by
  go_enter Try.func7, Try.ntmps7
  go_wp2
  refine wp_loop_rounds 1 ?_
  rw [rounds_succ]
  go_wp2
  go_ret
  exact ⟨rfl, 0, rfl⟩
theorem ints_all (l : List Int) (va vb : Value) (ba bb : Nat) (w : World) (hlen : l.length ≤ 1000000) (ha : w.ownsRow ba 3 1 va l.length (ints l)) (hb : w.ownsRow bb 3 1 vb l.length (ints l)) :
    Calls Try.prog 7 #[va, vb] w fun e w' => e = .returned (.bool true) ∧ ∃ n, w' = w.drewN n := by
  by_cases h0 : 0 < l.length
  · exact ints_own l va vb ba bb w hlen h0 ha hb
  · obtain ⟨a, c, rfl, _⟩ := own_shape0 ha
    obtain ⟨a', c', rfl, _⟩ := own_shape0 hb
    have e : l.length = 0 := by omega
    rw [e]
    exact ints_none a a' c c' w
set_option maxHeartbeats 4000000 in
theorem parts_any (a0 a1 a2 a3 : Int) (w : World) :
    Calls Try.prog 4 #[.int .i64 a0, .int .i64 a1, .int .i64 a2, .int .i64 a3] w fun e w' => e = .returned (.bool true) ∧ Below w.heap.size w w' := by
  obtain ⟨i3, hi3, hz3, hs3, hb3⟩ := info_parts info3
  obtain ⟨K, hK, hK2⟩ : ∃ K : Nat, wrap64 ((IntKind.u64.wrap a0).tmod 41) = (K : Int) ∧ K ≤ 40 := by
    have h := rem_range a0 41 (by omega)
    refine ⟨((IntKind.u64.wrap a0).tmod 41).toNat, ?_, by omega⟩
    unfold wrap64; omega
  obtain ⟨F, hF, hF1, hF2⟩ : ∃ F : Int, wrap64 ((IntKind.u64.wrap a1).tmod 100000) = F ∧ 0 ≤ F ∧ F < 100000 := by
    have h := rem_range a1 100000 (by omega)
    exact ⟨_, rfl, by unfold wrap64; omega, by unfold wrap64; omega⟩
  obtain ⟨X, hX, hX1, hX2⟩ : ∃ X : Nat, wrap64 (1 + wrap64 ((IntKind.u64.wrap a2).tmod 41)) = (X : Int) ∧ 1 ≤ X ∧ X ≤ 41 := by
    have h := rem_range a2 41 (by omega)
    refine ⟨(1 + (IntKind.u64.wrap a2).tmod 41).toNat, ?_, by omega, by omega⟩
    unfold wrap64; omega
  obtain ⟨Y, hY, hY1, hY2⟩ : ∃ Y : Nat, wrap64 (1 + wrap64 ((IntKind.u64.wrap a3).tmod 41)) = (Y : Int) ∧ 1 ≤ Y ∧ Y ≤ 41 := by
    have h := rem_range a3 41 (by omega)
    refine ⟨(1 + (IntKind.u64.wrap a3).tmod 41).toNat, ?_, by omega, by omega⟩
    unfold wrap64; omega
  have HK := Lib.hid hK
  have HF := Lib.hid hF
  have HX := Lib.hid hX
  have HY := Lib.hid hY
  clear hK hF hX hY
  go_enter Try.func4, Try.ntmps4
  go_wp2
  rw [HK.out]
  go_loopw [10, 11] (fun v i wr => ∃ j : Nat, j ≤ K ∧ i = .int .i64 j ∧ wr.ownsRow w.heap.size 3 1 v j (ints (mkL F 1 j)) ∧ Below w.heap.size w wr) (fun _ i _ => K - (intOf i).toNat)
  case atStart => exact ⟨0, Nat.zero_le _, rfl, World.ownsRow_nil _ _ _ _, Below.refl _ _⟩
  case round =>
    obtain ⟨j, hj, rfl, hown, hbel⟩ := hrel
    by_cases hlt : j < K
    · have hF := HF.out
      go_wp2_with (at_builtin; refine wpList_append_own _ rfl _ _ 23 rfl w.heap.size 3 i3 (.int .i64 0) 1 8 Try.underlying23 hi3 hz3 hs3 hb3 rfl (by decide) _ _ _ rfl (hown.alloc _) ⟨wr.heap.size, 0, none⟩ 1 1 [.int .i64 (F + j)] rfl rfl ?c1 ?c2 ?c3 ?c4 ?c5 ?_)
      case c1 =>
        intro j u hj
        match j, hj with
        | 0, hj => simp only [List.getElem?_cons_zero, Option.some.injEq] at hj; subst hj; simp [Addr.add]
      case c2 => intro u hu; simp only [List.mem_cons, List.not_mem_nil, or_false] at hu; subst hu; rfl
      case c3 => unfold maxLen; omega
      case c4 => omega
      case c5 => have := hbel.size; simp; omega
      intro v' w1 hown' hgrow _
      have R1 : w1.ownsRow w.heap.size 3 1 v' (j + 1) (ints (mkL F 1 (j + 1))) := by rw [mkL_succ, ints_append, Int.mul_one]; exact hown'
      have R2 : Below w.heap.size w w1 := ((hbel.alloc hbel.size _).grown hgrow (by have := hbel.size; simp; omega) (fun j hj => (hown.lt j hj).1))
      clear hown' hgrow hown hbel hF
      go_wp2
      go_roundw
      case rel => exact ⟨j + 1, by omega, by simp, R1, R2⟩
      case measure => simp [intOf]; omega
    · obtain rfl : K = j := by omega
      have hlen := Lib.hid (mkL_length F 1 K)
      have hown0 : wr.ownsRow w.heap.size 3 1 u10 (mkL F 1 K).length (ints (mkL F 1 K)) := by rw [hlen.out]; exact hown
      have hd : (mkL F 1 K).Nodup := mkL_nodup F 1 K (by omega)
      clear hown
      by_cases hxy : Y < X
      · have hX := HX.out
        have hY := HY.out
        go_wp2_with fail
        simp only [HX.out, HY.out]
        clear hX hY HX HY
        obtain ⟨x, rfl⟩ : ∃ x, x = Y := ⟨_, rfl⟩
        obtain ⟨y, rfl⟩ : ∃ y, y = X := ⟨_, rfl⟩
        have hle : x ≤ y := by omega
        clear hxy
        refine (of_any (mkL F 1 K) x u10 _ wr hown0 (by rw [hlen.out]; omega)).mono ?_
        rintro e w1 ⟨vp, rfl, hbp, hop⟩
        have hown1 := own_next hown0 hbp
        go_wp2_with fail
        refine (of_any (mkL F 1 K) y u10 _ w1 hown1 (by rw [hlen.out]; omega)).mono ?_
        rintro e w2 ⟨vq, rfl, hbq, hoq⟩
        have hown2 := own_next hown1 hbq
        have hop2 := own_next hop hbq
        have hbig : Below w.heap.size w w2 := by
          have s1 := hbel.size; have s2 := hbp.size
          exact hbel.trans ((hbp.mono s1).trans (hbq.mono (by omega)))
        clear hown1 hown0 hop hbp hbq hbel
        rw [Pure.ofL_eq _ hd x (by omega)] at hop2
        rw [Pure.ofL_eq _ hd y (by omega)] at hoq
        have hsl := Pure.sub_sublist (mkL F 1 K) x y hle
        have hri := sub_rising F K y
        have hla := Pure.sub_length (mkL F 1 K) hd x (by omega)
        have hlb := Pure.sub_length (mkL F 1 K) hd y (by omega)
        rw [hlen.out] at hla hlb
        generalize Pure.sub (mkL F 1 K) x = P at *
        generalize Pure.sub (mkL F 1 K) y = Q at *
        obtain ⟨ap, cp, rfl, hap⟩ := own_shape0 hop2
        obtain ⟨aq, cq, rfl, haq⟩ := own_shape0 hoq
        have t1 : ((P.length : Int) != min (x : Int) (K : Int)) = false := by simp; omega
        have t2 : ((Q.length : Int) != min (y : Int) (K : Int)) = false := by simp; omega
        have t3 : P.length ≤ 41 := by omega
        have t4 : Q.length ≤ 41 := by omega
        clear hla hlb hd
        have HSL := Lib.hid hsl
        have HRI := Lib.hid hri
        clear hsl hri
        go_wp2_with fail
        go_loopw [16, 17] (fun b i wr => ∃ i1 a1 : Nat, i1 ≤ Q.length ∧ a1 ≤ P.length ∧ i = .int .i64 i1 ∧ b = .int .i64 a1 ∧ (P.drop a1).Sublist (Q.drop i1) ∧ ∃ n, wr = w2.drewN n) (fun _ i _ => Q.length - (intOf i).toNat)
        case atStart => exact ⟨0, 0, Nat.zero_le _, Nat.zero_le _, rfl, rfl, HSL.out, 0, rfl⟩
        case round =>
          obtain ⟨i1, a1, hi1, ha1, rfl, rfl, hs, n1, rfl⟩ := hrel
          have HS := Lib.hid hs
          clear hs
          by_cases hl1 : i1 < Q.length
          · by_cases hl2 : a1 < P.length
            · obtain ⟨gp, rfl⟩ := hap (by omega)
              obtain ⟨gq, rfl⟩ := haq (by omega)
              have hcp := own_cells hop2 a1 hl2
              have hcq := own_cells hoq i1 hl1
              obtain ⟨s, hs⟩ : ∃ s, s = P.getD a1 0 := ⟨_, rfl⟩
              obtain ⟨t, ht⟩ : ∃ t, t = Q.getD i1 0 := ⟨_, rfl⟩
              rw [← hs] at hcp
              rw [← ht] at hcq
              have HSS := Lib.hid hs
              have HTT := Lib.hid ht
              clear hs ht
              have x1 : (0 : Int) ≤ (a1 : Int) := by omega
              have x2 : (a1 : Int) < (P.length : Int) := by omega
              have x3 : (0 : Int) ≤ (i1 : Int) := by omega
              have x4 : (i1 : Int) < (Q.length : Int) := by omega
              have x5 : decide ((a1 : Int) < (P.length : Int)) = true := by simpa using hl2
              by_cases hst : s = t
              · have y1 : (s == t) = true := by simpa using hst
                have h1 := Lib.hid (step_eq hl2 hl1 HS.out (by rw [← HSS.out, ← HTT.out]; exact hst))
                clear hst
                go_wp2_with fail
                go_quiet (fail)
                go_wp2_with fail
                go_roundw
                case rel => exact ⟨i1 + 1, a1 + 1, by omega, by omega, by simp, by simp, h1.out, _, rfl⟩
                case measure => simp [intOf]; omega
              · have y1 : (s == t) = false := by simpa using hst
                have h1 := Lib.hid (step_ne hl2 hl1 HS.out (by rw [← HSS.out, ← HTT.out]; exact hst))
                clear hst
                go_wp2_with fail
                go_quiet (fail)
                go_wp2_with fail
                go_roundw
                case rel => exact ⟨i1 + 1, a1, by omega, by omega, by simp, by simp, h1.out, _, rfl⟩
                case measure => simp [intOf]; omega
            · obtain rfl : P.length = a1 := by omega
              have x5 : decide ((P.length : Int) < (P.length : Int)) = false := by simp
              have hend : True := trivial
              go_wp2_with fail
              go_loopw [18] (fun i wr => ∃ k : Nat, 1 ≤ k ∧ k ≤ Q.length + 1 ∧ i = .int .i64 k ∧ ∃ n, wr = w2.drewN n) (fun i _ => Q.length + 1 - (intOf i).toNat)
              case atStart => exact ⟨1, by omega, by omega, rfl, _, rfl⟩
              case round =>
                obtain ⟨k, hk1, hk2, rfl, n3, rfl⟩ := hrel
                by_cases hl3 : k < Q.length
                · obtain ⟨gq, rfl⟩ := haq (by omega)
                  have hcq := own_cells hoq k hl3
                  have hcr := own_cells hoq (k - 1) (by omega)
                  have hlt3 := rising_get HRI.out k hk1 hl3
                  generalize Q.getD k 0 = s at *
                  generalize Q.getD (k - 1) 0 = t at *
                  have z1 : decide (s ≤ t) = false := by simpa using hlt3
                  have z2 : IntKind.i64.wrap ((k : Int) - 1) = (k : Int) - 1 := IntWalk.i64_in _ (by omega)
                  have z3 : ((k : Int) - 1).toNat = k - 1 := by omega
                  have z4 : (0 : Int) ≤ (k : Int) - 1 := by omega
                  have z5 : (k : Int) - 1 < (Q.length : Int) := by omega
                  have z6 : (0 : Int) ≤ (k : Int) := by omega
                  have z7 : (k : Int) < (Q.length : Int) := by omega
                  have z8 : ¬ s ≤ t := by omega
                  go_wp2_with fail
                  go_quiet (fail)
                  go_wp2_with fail
                  go_roundw
                  case rel => exact ⟨k + 1, by omega, by omega, by simp, _, rfl⟩
                  case measure => simp [intOf]; omega
                · have hown5 : (w2.drewN n3).ownsRow w.heap.size 3 1 u10 (mkL F 1 K).length (ints (mkL F 1 K)) := hown2
                  have hb4 : Below w.heap.size w (w2.drewN n3) := below_drewN hbig n3
                  have hl5 : (mkL F 1 K).length ≤ 40 := by rw [hlen.out]; omega
                  go_wp2_with fail
                  refine (told_any _).mono ?_
                  rintro e w5 ⟨rfl, hb5⟩
                  have hown6 := own_next hown5 hb5
                  have hb6 : Below w.heap.size w w5 := hb4.trans (hb5.mono hb4.size)
                  go_wp2_with fail
                  refine (of_any (mkL F 1 K) 0 u10 _ w5 hown6 (by omega)).mono ?_
                  rintro e w6 ⟨vz, rfl, hb7, hoz⟩
                  rw [ofL_zero] at hoz
                  have hown7 := own_next hown6 hb7
                  go_wp2_with fail
                  refine (ints_all (mkL F 1 K) vz u10 _ _ w6 (by omega) hoz hown7).mono ?_
                  rintro e w7 ⟨rfl, n8, rfl⟩
                  go_wp2
                  go_ret
                  exact ⟨rfl, below_drewN (hb6.trans (hb7.mono hb6.size)) n8⟩
          · obtain rfl : P.length = a1 := by
              have h1 := HS.out
              rw [List.drop_eq_nil_of_le (show Q.length ≤ i1 by omega), List.sublist_nil, List.drop_eq_nil_iff] at h1
              omega
            obtain rfl : Q.length = i1 := by omega
            have x5 : decide ((Q.length : Int) < (Q.length : Int)) = false := by simp
            have hend : True := trivial
            go_wp2_with fail
            go_loopw [18] (fun i wr => ∃ k : Nat, 1 ≤ k ∧ k ≤ Q.length + 1 ∧ i = .int .i64 k ∧ ∃ n, wr = w2.drewN n) (fun i _ => Q.length + 1 - (intOf i).toNat)
            case atStart => exact ⟨1, by omega, by omega, rfl, _, rfl⟩
            case round =>
              obtain ⟨k, hk1, hk2, rfl, n3, rfl⟩ := hrel
              by_cases hl3 : k < Q.length
              · obtain ⟨gq, rfl⟩ := haq (by omega)
                have hcq := own_cells hoq k hl3
                have hcr := own_cells hoq (k - 1) (by omega)
                have hlt3 := rising_get HRI.out k hk1 hl3
                generalize Q.getD k 0 = s at *
                generalize Q.getD (k - 1) 0 = t at *
                have z1 : decide (s ≤ t) = false := by simpa using hlt3
                have z2 : IntKind.i64.wrap ((k : Int) - 1) = (k : Int) - 1 := IntWalk.i64_in _ (by omega)
                have z3 : ((k : Int) - 1).toNat = k - 1 := by omega
                have z4 : (0 : Int) ≤ (k : Int) - 1 := by omega
                have z5 : (k : Int) - 1 < (Q.length : Int) := by omega
                have z6 : (0 : Int) ≤ (k : Int) := by omega
                have z7 : (k : Int) < (Q.length : Int) := by omega
                have z8 : ¬ s ≤ t := by omega
                go_wp2_with fail
                go_quiet (fail)
                go_wp2_with fail
                go_roundw
                case rel => exact ⟨k + 1, by omega, by omega, by simp, _, rfl⟩
                case measure => simp [intOf]; omega
              · have hown5 : (w2.drewN n3).ownsRow w.heap.size 3 1 u10 (mkL F 1 K).length (ints (mkL F 1 K)) := hown2
                have hb4 : Below w.heap.size w (w2.drewN n3) := below_drewN hbig n3
                have hl5 : (mkL F 1 K).length ≤ 40 := by rw [hlen.out]; omega
                go_wp2_with fail
                refine (told_any _).mono ?_
                rintro e w5 ⟨rfl, hb5⟩
                have hown6 := own_next hown5 hb5
                have hb6 : Below w.heap.size w w5 := hb4.trans (hb5.mono hb4.size)
                go_wp2_with fail
                refine (of_any (mkL F 1 K) 0 u10 _ w5 hown6 (by omega)).mono ?_
                rintro e w6 ⟨vz, rfl, hb7, hoz⟩
                rw [ofL_zero] at hoz
                have hown7 := own_next hown6 hb7
                go_wp2_with fail
                refine (ints_all (mkL F 1 K) vz u10 _ _ w6 (by omega) hoz hown7).mono ?_
                rintro e w7 ⟨rfl, n8, rfl⟩
                go_wp2
                go_ret
                exact ⟨rfl, below_drewN (hb6.trans (hb7.mono hb6.size)) n8⟩
      · have hX := HX.out
        have hY := HY.out
        go_wp2_with fail
        simp only [HX.out, HY.out]
        clear hX hY HX HY
        obtain ⟨x, rfl⟩ : ∃ x, x = X := ⟨_, rfl⟩
        obtain ⟨y, rfl⟩ : ∃ y, y = Y := ⟨_, rfl⟩
        have hle : x ≤ y := by omega
        clear hxy
        refine (of_any (mkL F 1 K) x u10 _ wr hown0 (by rw [hlen.out]; omega)).mono ?_
        rintro e w1 ⟨vp, rfl, hbp, hop⟩
        have hown1 := own_next hown0 hbp
        go_wp2_with fail
        refine (of_any (mkL F 1 K) y u10 _ w1 hown1 (by rw [hlen.out]; omega)).mono ?_
        rintro e w2 ⟨vq, rfl, hbq, hoq⟩
        have hown2 := own_next hown1 hbq
        have hop2 := own_next hop hbq
        have hbig : Below w.heap.size w w2 := by
          have s1 := hbel.size; have s2 := hbp.size
          exact hbel.trans ((hbp.mono s1).trans (hbq.mono (by omega)))
        clear hown1 hown0 hop hbp hbq hbel
        rw [Pure.ofL_eq _ hd x (by omega)] at hop2
        rw [Pure.ofL_eq _ hd y (by omega)] at hoq
        have hsl := Pure.sub_sublist (mkL F 1 K) x y hle
        have hri := sub_rising F K y
        have hla := Pure.sub_length (mkL F 1 K) hd x (by omega)
        have hlb := Pure.sub_length (mkL F 1 K) hd y (by omega)
        rw [hlen.out] at hla hlb
        generalize Pure.sub (mkL F 1 K) x = P at *
        generalize Pure.sub (mkL F 1 K) y = Q at *
        obtain ⟨ap, cp, rfl, hap⟩ := own_shape0 hop2
        obtain ⟨aq, cq, rfl, haq⟩ := own_shape0 hoq
        have t1 : ((P.length : Int) != min (x : Int) (K : Int)) = false := by simp; omega
        have t2 : ((Q.length : Int) != min (y : Int) (K : Int)) = false := by simp; omega
        have t3 : P.length ≤ 41 := by omega
        have t4 : Q.length ≤ 41 := by omega
        clear hla hlb hd
        have HSL := Lib.hid hsl
        have HRI := Lib.hid hri
        clear hsl hri
        go_wp2_with fail
        go_loopw [16, 17] (fun b i wr => ∃ i1 a1 : Nat, i1 ≤ Q.length ∧ a1 ≤ P.length ∧ i = .int .i64 i1 ∧ b = .int .i64 a1 ∧ (P.drop a1).Sublist (Q.drop i1) ∧ ∃ n, wr = w2.drewN n) (fun _ i _ => Q.length - (intOf i).toNat)
        case atStart => exact ⟨0, 0, Nat.zero_le _, Nat.zero_le _, rfl, rfl, HSL.out, 0, rfl⟩
        case round =>
          obtain ⟨i1, a1, hi1, ha1, rfl, rfl, hs, n1, rfl⟩ := hrel
          have HS := Lib.hid hs
          clear hs
          by_cases hl1 : i1 < Q.length
          · by_cases hl2 : a1 < P.length
            · obtain ⟨gp, rfl⟩ := hap (by omega)
              obtain ⟨gq, rfl⟩ := haq (by omega)
              have hcp := own_cells hop2 a1 hl2
              have hcq := own_cells hoq i1 hl1
              obtain ⟨s, hs⟩ : ∃ s, s = P.getD a1 0 := ⟨_, rfl⟩
              obtain ⟨t, ht⟩ : ∃ t, t = Q.getD i1 0 := ⟨_, rfl⟩
              rw [← hs] at hcp
              rw [← ht] at hcq
              have HSS := Lib.hid hs
              have HTT := Lib.hid ht
              clear hs ht
              have x1 : (0 : Int) ≤ (a1 : Int) := by omega
              have x2 : (a1 : Int) < (P.length : Int) := by omega
              have x3 : (0 : Int) ≤ (i1 : Int) := by omega
              have x4 : (i1 : Int) < (Q.length : Int) := by omega
              have x5 : decide ((a1 : Int) < (P.length : Int)) = true := by simpa using hl2
              by_cases hst : s = t
              · have y1 : (s == t) = true := by simpa using hst
                have h1 := Lib.hid (step_eq hl2 hl1 HS.out (by rw [← HSS.out, ← HTT.out]; exact hst))
                clear hst
                go_wp2_with fail
                go_quiet (fail)
                go_wp2_with fail
                go_roundw
                case rel => exact ⟨i1 + 1, a1 + 1, by omega, by omega, by simp, by simp, h1.out, _, rfl⟩
                case measure => simp [intOf]; omega
              · have y1 : (s == t) = false := by simpa using hst
                have h1 := Lib.hid (step_ne hl2 hl1 HS.out (by rw [← HSS.out, ← HTT.out]; exact hst))
                clear hst
                go_wp2_with fail
                go_quiet (fail)
                go_wp2_with fail
                go_roundw
                case rel => exact ⟨i1 + 1, a1, by omega, by omega, by simp, by simp, h1.out, _, rfl⟩
                case measure => simp [intOf]; omega
            · obtain rfl : P.length = a1 := by omega
              have x5 : decide ((P.length : Int) < (P.length : Int)) = false := by simp
              have hend : True := trivial
              go_wp2_with fail
              go_loopw [18] (fun i wr => ∃ k : Nat, 1 ≤ k ∧ k ≤ Q.length + 1 ∧ i = .int .i64 k ∧ ∃ n, wr = w2.drewN n) (fun i _ => Q.length + 1 - (intOf i).toNat)
              case atStart => exact ⟨1, by omega, by omega, rfl, _, rfl⟩
              case round =>
                obtain ⟨k, hk1, hk2, rfl, n3, rfl⟩ := hrel
                by_cases hl3 : k < Q.length
                · obtain ⟨gq, rfl⟩ := haq (by omega)
                  have hcq := own_cells hoq k hl3
                  have hcr := own_cells hoq (k - 1) (by omega)
                  have hlt3 := rising_get HRI.out k hk1 hl3
                  generalize Q.getD k 0 = s at *
                  generalize Q.getD (k - 1) 0 = t at *
                  have z1 : decide (s ≤ t) = false := by simpa using hlt3
                  have z2 : IntKind.i64.wrap ((k : Int) - 1) = (k : Int) - 1 := IntWalk.i64_in _ (by omega)
                  have z3 : ((k : Int) - 1).toNat = k - 1 := by omega
                  have z4 : (0 : Int) ≤ (k : Int) - 1 := by omega
                  have z5 : (k : Int) - 1 < (Q.length : Int) := by omega
                  have z6 : (0 : Int) ≤ (k : Int) := by omega
                  have z7 : (k : Int) < (Q.length : Int) := by omega
                  have z8 : ¬ s ≤ t := by omega
                  go_wp2_with fail
                  go_quiet (fail)
                  go_wp2_with fail
                  go_roundw
                  case rel => exact ⟨k + 1, by omega, by omega, by simp, _, rfl⟩
                  case measure => simp [intOf]; omega
                · have hown5 : (w2.drewN n3).ownsRow w.heap.size 3 1 u10 (mkL F 1 K).length (ints (mkL F 1 K)) := hown2
                  have hb4 : Below w.heap.size w (w2.drewN n3) := below_drewN hbig n3
                  have hl5 : (mkL F 1 K).length ≤ 40 := by rw [hlen.out]; omega
                  go_wp2_with fail
                  refine (told_any _).mono ?_
                  rintro e w5 ⟨rfl, hb5⟩
                  have hown6 := own_next hown5 hb5
                  have hb6 : Below w.heap.size w w5 := hb4.trans (hb5.mono hb4.size)
                  go_wp2_with fail
                  refine (of_any (mkL F 1 K) 0 u10 _ w5 hown6 (by omega)).mono ?_
                  rintro e w6 ⟨vz, rfl, hb7, hoz⟩
                  rw [ofL_zero] at hoz
                  have hown7 := own_next hown6 hb7
                  go_wp2_with fail
                  refine (ints_all (mkL F 1 K) vz u10 _ _ w6 (by omega) hoz hown7).mono ?_
                  rintro e w7 ⟨rfl, n8, rfl⟩
                  go_wp2
                  go_ret
                  exact ⟨rfl, below_drewN (hb6.trans (hb7.mono hb6.size)) n8⟩
          · obtain rfl : P.length = a1 := by
              have h1 := HS.out
              rw [List.drop_eq_nil_of_le (show Q.length ≤ i1 by omega), List.sublist_nil, List.drop_eq_nil_iff] at h1
              omega
            obtain rfl : Q.length = i1 := by omega
            have x5 : decide ((Q.length : Int) < (Q.length : Int)) = false := by simp
            have hend : True := trivial
            go_wp2_with fail
            go_loopw [18] (fun i wr => ∃ k : Nat, 1 ≤ k ∧ k ≤ Q.length + 1 ∧ i = .int .i64 k ∧ ∃ n, wr = w2.drewN n) (fun i _ => Q.length + 1 - (intOf i).toNat)
            case atStart => exact ⟨1, by omega, by omega, rfl, _, rfl⟩
            case round =>
              obtain ⟨k, hk1, hk2, rfl, n3, rfl⟩ := hrel
              by_cases hl3 : k < Q.length
              · obtain ⟨gq, rfl⟩ := haq (by omega)
                have hcq := own_cells hoq k hl3
                have hcr := own_cells hoq (k - 1) (by omega)
                have hlt3 := rising_get HRI.out k hk1 hl3
                generalize Q.getD k 0 = s at *
                generalize Q.getD (k - 1) 0 = t at *
                have z1 : decide (s ≤ t) = false := by simpa using hlt3
                have z2 : IntKind.i64.wrap ((k : Int) - 1) = (k : Int) - 1 := IntWalk.i64_in _ (by omega)
                have z3 : ((k : Int) - 1).toNat = k - 1 := by omega
                have z4 : (0 : Int) ≤ (k : Int) - 1 := by omega
                have z5 : (k : Int) - 1 < (Q.length : Int) := by omega
                have z6 : (0 : Int) ≤ (k : Int) := by omega
                have z7 : (k : Int) < (Q.length : Int) := by omega
                have z8 : ¬ s ≤ t := by omega
                go_wp2_with fail
                go_quiet (fail)
                go_wp2_with fail
                go_roundw
                case rel => exact ⟨k + 1, by omega, by omega, by simp, _, rfl⟩
                case measure => simp [intOf]; omega
              · have hown5 : (w2.drewN n3).ownsRow w.heap.size 3 1 u10 (mkL F 1 K).length (ints (mkL F 1 K)) := hown2
                have hb4 : Below w.heap.size w (w2.drewN n3) := below_drewN hbig n3
                have hl5 : (mkL F 1 K).length ≤ 40 := by rw [hlen.out]; omega
                go_wp2_with fail
                refine (told_any _).mono ?_
                rintro e w5 ⟨rfl, hb5⟩
                have hown6 := own_next hown5 hb5
                have hb6 : Below w.heap.size w w5 := hb4.trans (hb5.mono hb4.size)
                go_wp2_with fail
                refine (of_any (mkL F 1 K) 0 u10 _ w5 hown6 (by omega)).mono ?_
                rintro e w6 ⟨vz, rfl, hb7, hoz⟩
                rw [ofL_zero] at hoz
                have hown7 := own_next hown6 hb7
                go_wp2_with fail
                refine (ints_all (mkL F 1 K) vz u10 _ _ w6 (by omega) hoz hown7).mono ?_
                rintro e w7 ⟨rfl, n8, rfl⟩
                go_wp2
                go_ret
                exact ⟨rfl, below_drewN (hb6.trans (hb7.mono hb6.size)) n8⟩
end Go.Proofs.Ytelfljdnpfmbbaa
