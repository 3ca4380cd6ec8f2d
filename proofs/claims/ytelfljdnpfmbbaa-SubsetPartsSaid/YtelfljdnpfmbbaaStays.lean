/- What the statement SubsetStays computes, walked: true, whatever the arguments. -/
import Derived.Test.YtelfljdnpfmbbaaOf
import Derived.Deep.RegionLaw
namespace Go.Proofs.Ytelfljdnpfmbbaa
open Go.RowKit Go.Sort
theorem u64_range (x : Int) : 0 ≤ IntKind.u64.wrap x ∧ IntKind.u64.wrap x < 18446744073709551616 := by
  rw [IntKind.wrap_u64]; omega
theorem rem_range (x : Int) (m : Int) (h0 : 0 < m) : 0 ≤ (IntKind.u64.wrap x).tmod m ∧ (IntKind.u64.wrap x).tmod m < m := by
  have h := u64_range x
  rw [Int.tmod_eq_emod_of_nonneg h.1]
  exact ⟨Int.emod_nonneg _ (by omega), Int.emod_lt_of_pos _ h0⟩
def mkL (f s : Int) (i : Nat) : List Int := (List.range i).map fun (j : Nat) => f + (j : Int) * s
theorem mkL_length (f s : Int) (i : Nat) : (mkL f s i).length = i := by unfold mkL; simp
theorem mkL_succ (f s : Int) (i : Nat) : mkL f s (i + 1) = mkL f s i ++ [f + (i : Int) * s] := by unfold mkL; rw [List.range_succ, List.map_append, List.map_singleton]
theorem ints_append (a b : List Int) : ints (a ++ b) = ints a ++ ints b := by unfold ints; rw [List.map_append]
def OwnL (B : Nat) (v : Value) (l : List Int) (w : World) : Prop := w.ownsRow B 3 1 v l.length (ints l)
theorem mkL_nodup (f s : Int) (i : Nat) (hs : 0 < s) : (mkL f s i).Nodup := by
  unfold mkL
  rw [List.Nodup, List.pairwise_map]
  refine List.pairwise_lt_range.imp ?_
  intro a b h e
  have h1 : (a : Int) * s = (b : Int) * s := by omega
  have h2 := Int.eq_of_mul_eq_mul_right (by omega) h1
  omega
theorem contains_take (l : List Int) (k : Nat) (z : Int) (h : k < l.length) : (l.take (k + 1)).contains z = ((l.take k).contains z || z == l.getD k 0) := by
  rw [List.take_succ_eq_append_getElem h, List.getD_eq_getElem?_getD, List.getElem?_eq_getElem h, Option.getD_some, Bool.eq_iff_iff]
  simp only [List.contains_iff_mem, List.mem_append, List.mem_singleton, Bool.or_eq_true, beq_iff_eq]
theorem count_take (l b : List Int) (k : Nat) (h : k < l.length) : (l.take (k + 1)).countP (Pure.goneB b) = (l.take k).countP (Pure.goneB b) + if b.contains (l.getD k 0) then 0 else 1 := by
  rw [List.take_succ_eq_append_getElem h, List.getD_eq_getElem?_getD, List.getElem?_eq_getElem h, Option.getD_some, List.countP_append]
  congr 1
  rw [List.countP_cons, List.countP_nil]
  unfold Pure.goneB
  cases b.contains l[k] <;> rfl
theorem own_shape {w : World} {base n : Nat} {v : Value} {L : List Value} (h : w.ownsRow base 3 1 v n L) (hn : 0 < n) : ∃ g cap, v = .slice (some ⟨g, 0, none⟩) n cap := by
  rcases h.2 with ⟨hnil, h0⟩ | ⟨g, cap, cur, hv, _⟩
  · omega
  · exact ⟨g, cap, hv⟩
theorem own_cells {w : World} {base n g cap : Nat} {l : List Int} (h : w.ownsRow base 3 1 (.slice (some ⟨g, 0, none⟩) n cap) n (ints l)) : ∀ k, k < l.length → w.cell? ⟨g, k, none⟩ = some (.int .i64 (l.getD k 0)) := by
  intro k hk
  have := h.1
  rw [ints_length] at this
  rw [h.cellAt k (by omega), ints_get l k hk]
theorem drop_cells {w : World} {base g cap K W o : Nat} {L : List Value} (h : w.ownsRow base 3 1 (.slice (some ⟨g, 0, none⟩) K cap) K L) (ho : cap ≠ W + 1 → o = W + 1) (hW : W + 1 ≤ K) (hl : (L.drop (W + 1)).length = (K - (W + 1)) * 1) :
    ∀ (j : Nat) (u : Value), (L.drop (W + 1))[j]? = some u → w.cell? (({ block := g, off := o } : Addr).add j) = some u := by
  intro j u hj
  have hj2 : j < (L.drop (W + 1)).length := (List.getElem?_eq_some_iff.1 hj).1
  have hc : K ≤ cap := by
    rcases h.2 with ⟨hnil, h0⟩ | ⟨g0, cap0, cur, hv, _, _, h1, _⟩
    · omega
    · injection hv with e1 e2 e3; omega
  have e := ho (by omega)
  subst e
  rw [show (({ block := g, off := W + 1 } : Addr).add j) = ⟨g, W + 1 + j, none⟩ from by unfold Addr.add; split <;> simp_all]
  rw [h.cellAt (W + 1 + j) (by omega), ← hj, List.getElem?_drop]
set_option maxHeartbeats 4000000 in
theorem stays_any (a0 a1 a2 a3 : Int) (w : World) :
    Calls Try.prog 3 #[.int .i64 a0, .int .i64 a1, .int .i64 a2, .int .i64 a3] w fun e w' => e = .returned (.bool true) ∧ Below w.heap.size w w' := by
  obtain ⟨i3, hi3, hz3, hs3, hb3⟩ := info_parts info3
  obtain ⟨K, hK, hK1, hK2⟩ : ∃ K : Nat, wrap64 (2 + wrap64 ((IntKind.u64.wrap a0).tmod 39)) = (K : Int) ∧ 2 ≤ K ∧ K ≤ 40 := by
    have h := rem_range a0 39 (by omega)
    refine ⟨(2 + (IntKind.u64.wrap a0).tmod 39).toNat, ?_, by omega, by omega⟩
    unfold wrap64; omega
  obtain ⟨F, hF, hF1, hF2⟩ : ∃ F : Int, wrap64 ((IntKind.u64.wrap a1).tmod 100000) = F ∧ 0 ≤ F ∧ F < 100000 := by
    have h := rem_range a1 100000 (by omega)
    exact ⟨_, rfl, by unfold wrap64; omega, by unfold wrap64; omega⟩
  have HK := Lib.hid hK
  have HF := Lib.hid hF
  clear hK hF
  go_enter Try.func3, Try.ntmps3
  go_wp2
  rw [HK.out]
  go_loopw [10, 11] (fun v i wr => ∃ j : Nat, j ≤ K ∧ i = .int .i64 j ∧ wr.ownsRow w.heap.size 3 1 v j (ints (mkL F 7 j)) ∧ Below w.heap.size w wr) (fun _ i _ => K - (intOf i).toNat)
  case atStart => exact ⟨0, Nat.zero_le _, rfl, World.ownsRow_nil _ _ _ _, Below.refl _ _⟩
  case round =>
    obtain ⟨j, hj, rfl, hown, hbel⟩ := hrel
    by_cases hlt : j < K
    · have hF := HF.out
      go_wp2_with (at_builtin; refine wpList_append_own _ rfl _ _ 23 rfl w.heap.size 3 i3 (.int .i64 0) 1 8 Try.underlying23 hi3 hz3 hs3 hb3 rfl (by decide) _ _ _ rfl (hown.alloc _) ⟨wr.heap.size, 0, none⟩ 1 1 [.int .i64 (F + j * 7)] rfl rfl ?c1 ?c2 ?c3 ?c4 ?c5 ?_)
      case c1 =>
        intro j u hj
        match j, hj with
        | 0, hj => simp only [List.getElem?_cons_zero, Option.some.injEq] at hj; subst hj; simp [Addr.add]
      case c2 => intro u hu; simp only [List.mem_cons, List.not_mem_nil, or_false] at hu; subst hu; rfl
      case c3 => unfold maxLen; omega
      case c4 => omega
      case c5 => have := hbel.size; simp; omega
      intro v' w1 hown' hgrow _
      have R1 : w1.ownsRow w.heap.size 3 1 v' (j + 1) (ints (mkL F 7 (j + 1))) := by rw [mkL_succ, ints_append]; exact hown'
      have R2 : Below w.heap.size w w1 := ((hbel.alloc hbel.size _).grown hgrow (by have := hbel.size; simp; omega) (fun j hj => (hown.lt j hj).1))
      clear hown' hgrow hown hbel hF
      go_wp2
      go_roundw
      case rel => exact ⟨j + 1, by omega, by simp, R1, R2⟩
      case measure => simp [intOf]; omega
    · obtain rfl : K = j := by omega
      obtain ⟨M, hM, hM1, hM2⟩ : ∃ M : Nat, wrap64 (1 + wrap64 ((IntKind.u64.wrap a2).tmod (K : Int))) = (M : Int) ∧ 1 ≤ M ∧ M ≤ K := by
        have h := rem_range a2 K (by omega)
        refine ⟨(1 + (IntKind.u64.wrap a2).tmod (K : Int)).toNat, ?_, by omega, by omega⟩
        unfold wrap64; omega
      obtain ⟨W, hW, hW2⟩ : ∃ W : Nat, wrap64 ((IntKind.u64.wrap a3).tmod (K : Int)) = (W : Int) ∧ W < K := by
        have h := rem_range a3 K (by omega)
        refine ⟨((IntKind.u64.wrap a3).tmod (K : Int)).toNat, ?_, by omega⟩
        unfold wrap64; omega
      have HM := Lib.hid hM
      have HW := Lib.hid hW
      clear hM hW
      go_wp2_with fail
      rw [HM.out, HW.out]
      have hlen := mkL_length F 7 K
      have hown0 : wr.ownsRow w.heap.size 3 1 u10 (mkL F 7 K).length (ints (mkL F 7 K)) := by rw [hlen]; exact hown
      have Hlen := Lib.hid hlen
      clear hlen
      refine (of_any (mkL F 7 K) M u10 _ wr hown0 (by rw [Hlen.out]; omega)).mono ?_
      rintro e w1 ⟨va, rfl, hba, hoa⟩
      have hown1 : w1.ownsRow w.heap.size 3 1 u10 K (ints (mkL F 7 K)) := own_next hown hba
      obtain ⟨g, cap, rfl⟩ : ∃ g cap, u10 = .slice (some ⟨g, 0, none⟩) K cap := by
        rcases hown.2 with ⟨hnil, h0⟩ | ⟨g0, cap0, cur, hv, _⟩
        · omega
        · exact ⟨g0, cap0, hv⟩
      have hcap : K ≤ cap := by
        rcases hown.2 with ⟨hnil, h0⟩ | ⟨g0, cap0, cur, hv, _, _, h1, _⟩
        · omega
        · injection hv with e1 e2 e3; omega
      clear hown hown0
      go_wp2_with fail
      have q1 : W ≤ cap := by omega
      have q2 : W + 1 ≤ K := by omega
      have q3 : W + 1 ≤ cap := by omega
      have q4 : IntKind.i64.wrap ((W : Int) + 1) = (W : Int) + 1 := IntWalk.i64_in _ (by omega)
      have q5 : ((W : Int) + 1).toNat = W + 1 := by omega
      have q6 : (0 : Int) ≤ (W : Int) + 1 := by omega
      have q7 : (W : Int) + 1 ≤ (K : Int) := by omega
      have hrowA := (ownsRow_take hown1 (m := W) (by omega)).alloc (.cells #[] 3)
      have hmade := World.ownsRow_made (base := w1.heap.size) (size := 1) (e := 3) w1 #[] 0 (Nat.le_refl _) (by unfold maxLen; omega) rfl
      have hgl : g < w1.heap.size := (hown1.lt g rfl).2
      have hne : (some g : Option Nat) ≠ some w1.heap.size := by intro e; injection e; omega
      have Hsz : w1.heap.size ≤ (w1.alloc (.cells #[] 3)).heap.size := by simp
      have hone : ∀ l : List Int, ∀ u ∈ ints l, u.oneCell' = true := fun l => ints_oneCell .i64 l
      have hLt : ((ints (mkL F 7 K)).take W).length = W * 1 := by rw [List.length_take, ints_length, Hlen.out]; omega
      have hLd : ((ints (mkL F 7 K)).drop (W + 1)).length = (K - (W + 1)) * 1 := by rw [List.length_drop, ints_length, Hlen.out]; omega
      have HLt := Lib.hid hLt
      have HLd := Lib.hid hLd
      clear hLt hLd
      obtain ⟨o, ho, hoc⟩ : ∃ o, (if cap = W + 1 then some (⟨g, 0, none⟩ : Addr) else some ⟨g, W + 1, none⟩) = some ⟨g, o, none⟩ ∧ (cap ≠ W + 1 → o = W + 1) := by
        by_cases hcw : cap = W + 1
        · exact ⟨0, by rw [if_pos hcw], fun h => absurd hcw h⟩
        · exact ⟨W + 1, by rw [if_neg hcw], fun _ => rfl⟩
      have HO := Lib.hid ho
      have HOC := Lib.hid hoc
      clear ho hoc
      go_region_law (first | (refine wp_append_own _ (.tmp 57) (.tmp 60) 23 rfl w1.heap.size 3 i3 (.int .i64 0) 1 8 Try.underlying23 hi3 hz3 hs3 hb3 rfl (by decide) _ _ _ rfl hmade.drew ⟨g, 0, none⟩ W cap ((ints (mkL F 7 K)).take W) rfl HLt.out (hrowA.drew.cells rfl) (fun u hu => hone _ u (List.mem_of_mem_take hu)) (by unfold maxLen; omega) (by omega) Hsz ?_; intro vA wA hownA hgrowA _; simp only [Nat.zero_add, List.nil_append] at hownA; have hownB := (hown1.alloc (.cells #[] 3)).drew.kept hgrowA (.inr hne)) | (refine wp_append_own _ (.tmp 61) (.tmp 65) 23 rfl w1.heap.size 3 i3 (.int .i64 0) 1 8 Try.underlying23 hi3 hz3 hs3 hb3 rfl (by decide) _ _ _ rfl hownA ⟨g, o, none⟩ (K - (W + 1)) (cap - (W + 1)) ((ints (mkL F 7 K)).drop (W + 1)) (congrArg (fun x => Value.slice x (K - (W + 1)) (cap - (W + 1))) HO.out) HLd.out (drop_cells hownB HOC.out (by omega) HLd.out) (fun u hu => hone _ u (List.mem_of_mem_drop hu)) (by unfold maxLen; omega) (by omega) (by have := hgrowA.size; simp at this; omega) ?_; intro vB wB hownC hgrowC _))
      rw [HO.out]
      have hB1 : Below w1.heap.size w1 wB := by
        refine ((((Below.refl _ _).alloc (Nat.le_refl _) _).drew).grown hgrowA (by simp) (fun k hk => ?_)).grown hgrowC ?_ (fun k hk => (hownA.lt k hk).1)
        · cases hk; exact Nat.le_refl _
        · have := hgrowA.size; simp at this; omega
      have hoa1 := own_next hoa hB1
      have hids1 := own_next hown1 hB1
      have hless : wB.ownsRow w1.heap.size 3 1 vB ((mkL F 7 K).eraseIdx W).length (ints ((mkL F 7 K).eraseIdx W)) := by
        have e1 : ((mkL F 7 K).eraseIdx W).length = W + (K - (W + 1)) := by rw [List.length_eraseIdx, if_pos (by rw [Hlen.out]; omega), Hlen.out]; omega
        have e2 : ints ((mkL F 7 K).eraseIdx W) = (ints (mkL F 7 K)).take W ++ (ints (mkL F 7 K)).drop (W + 1) := by
          rw [List.eraseIdx_eq_take_drop_succ]; unfold ints; rw [List.map_append, List.map_take, List.map_drop]
        rw [e1, e2]
        exact hownC
      clear hownA hownB hownC hgrowA hgrowC hmade hrowA hoa hown1 HO HOC HLt HLd
      have hcB := of_any ((mkL F 7 K).eraseIdx W) M vB _ wB hless (by rw [List.length_eraseIdx, Hlen.out]; split <;> omega)
      go_wp2_with fail
      refine hcB.mono ?_
      rintro e w2 ⟨vb, rfl, hbb, hob⟩
      clear hcB
      have hoa2 := own_next hoa1 hbb
      have hids2 := own_next hids1 hbb
      have hd : (mkL F 7 K).Nodup := mkL_nodup F 7 K (by omega)
      rw [Pure.ofL_eq _ hd M hM1] at hoa2
      rw [Pure.ofL_eq _ (hd.sublist (List.eraseIdx_sublist _ _)) M hM1] at hob
      have hcount := Pure.gone_count (mkL F 7 K) hd W M (by rw [Hlen.out]; omega)
      have hgone := fun x hx hn => Pure.gone (mkL F 7 K) W M (by rw [Hlen.out]; omega) x hx hn
      have hla := Pure.sub_length (mkL F 7 K) hd M hM1
      have hlb := Pure.sub_length ((mkL F 7 K).eraseIdx W) (hd.sublist (List.eraseIdx_sublist _ _)) M hM1
      rw [Hlen.out] at hla
      rw [List.length_eraseIdx, Hlen.out, if_pos hW2] at hlb
      generalize Pure.sub (mkL F 7 K) M = A at *
      generalize Pure.sub ((mkL F 7 K).eraseIdx W) M = Bl at *
      have hA0 : A.length = M := by omega
      have hB0 : Bl.length = min M (K - 1) := hlb
      obtain ⟨ga, ca, rfl⟩ := own_shape hoa2 (by omega)
      obtain ⟨gb, cb, rfl⟩ := own_shape hob (by omega)
      have HA := Lib.hid (own_cells hoa2)
      have HB := Lib.hid (own_cells hob)
      have HI : w2.cell? ⟨g, W, none⟩ = some (.int .i64 ((mkL F 7 K).getD W 0)) := by
        rw [hids2.cellAt W (by omega), ints_get _ _ (by rw [Hlen.out]; omega)]
      have hbig : Below w.heap.size w w2 := by
        have s1 := hbel.size; have s2 := hba.size; have s3 := hB1.size
        exact hbel.trans ((hba.mono s1).trans ((hB1.mono (by omega)).trans (hbb.mono (by omega))))
      clear hoa1 hids1 hless hbb hB1 hba hbel hoa2 hids2 hob hd hla hlb
      have t1 : ((A.length : Int) != (M : Int)) = false := by simp [hA0]
      have t2 : ((Bl.length : Int) != min (M : Int) ((K : Int) - 1)) = false := by simp; omega
      have t3 : A.length ≤ 40 := by omega
      have t4 : Bl.length ≤ 40 := by omega
      clear hA0 hB0
      go_wp2_with fail
      go_loopw [17, 18] (fun lo i wr => ∃ j : Nat, j ≤ A.length ∧ i = .int .i64 j ∧ lo = .int .i64 ((A.take j).countP (Pure.goneB Bl) : Nat) ∧ ∃ n, wr = w2.drewN n) (fun _ i _ => A.length - (intOf i).toNat)
      case atStart => exact ⟨0, Nat.zero_le _, rfl, rfl, 0, rfl⟩
      case round =>
        obtain ⟨j, hj1, rfl, rfl, n1, rfl⟩ := hrel
        have hcnt : (A.take j).countP (Pure.goneB Bl) ≤ A.countP (Pure.goneB Bl) := (List.take_sublist j A).countP_le
        by_cases hlt1 : j < A.length
        · have hca := HA.out j hlt1
          obtain ⟨z, hz⟩ : ∃ z, z = A.getD j 0 := ⟨_, rfl⟩
          rw [← hz] at hca
          have HZ := Lib.hid hz
          clear hz
          go_wp2_with fail
          go_loopw [19, 20] (fun b i wr => ∃ k : Nat, k ≤ Bl.length ∧ i = .int .i64 k ∧ b = .bool ((Bl.take k).contains z) ∧ ∃ n, wr = w2.drewN n) (fun _ i _ => Bl.length - (intOf i).toNat)
          case atStart => exact ⟨0, Nat.zero_le _, rfl, rfl, _, rfl⟩
          case round =>
            obtain ⟨k, hk1, rfl, rfl, n2, rfl⟩ := hrel
            by_cases hlt2 : k < Bl.length
            · have hcb := HB.out k hlt2
              obtain ⟨y, hy⟩ : ∃ y, y = Bl.getD k 0 := ⟨_, rfl⟩
              rw [← hy] at hcb
              have HY := Lib.hid hy
              clear hy
              have hnx := contains_take Bl k z hlt2
              rw [← HY.out] at hnx
              have HNX := Lib.hid hnx
              clear hnx
              have x1 : (0 : Int) ≤ (j : Int) := by omega
              have x2 : (j : Int) < (A.length : Int) := by omega
              have x3 : (0 : Int) ≤ (k : Int) := by omega
              have x4 : (k : Int) < (Bl.length : Int) := by omega
              cases hin : (Bl.take k).contains z
              · go_wp2_with fail
                go_quiet (fail)
                go_wp2_with fail
                go_roundw
                case rel => exact ⟨k + 1, by omega, by simp, by rw [HNX.out, hin]; simp, _, rfl⟩
                case measure => simp [intOf]; omega
              · go_wp2_with fail
                go_quiet (fail)
                go_wp2_with fail
                go_roundw
                case rel => exact ⟨k + 1, by omega, by simp, by rw [HNX.out, hin]; simp, _, rfl⟩
                case measure => simp [intOf]; omega
            · obtain rfl : Bl.length = k := by omega
              rw [List.take_length]
              have hstep := count_take A Bl j hlt1
              rw [← HZ.out] at hstep
              have HST := Lib.hid hstep
              clear hstep
              cases hin : Bl.contains z
              · have hz2 : z = (mkL F 7 K).getD W 0 := by
                  have h1 := hgone z (by rw [HZ.out, List.getD_eq_getElem?_getD, List.getElem?_eq_getElem hlt1, Option.getD_some]; exact List.getElem_mem hlt1) (by simpa using hin)
                  rw [h1, List.getD_eq_getElem?_getD, List.getElem?_eq_getElem (by rw [Hlen.out]; omega), Option.getD_some]
                rw [← hz2] at HI
                have hzz : (z != z) = false := by simp
                clear hz2 hgone
                have x1 : (0 : Int) ≤ (j : Int) := by omega
                have x2 : (j : Int) < (A.length : Int) := by omega
                have x3 : (0 : Int) ≤ (W : Int) := by omega
                have x4 : (W : Int) < (K : Int) := by omega
                go_wp2_with fail
                go_quiet (fail)
                go_wp2_with fail
                go_roundw
                case rel => exact ⟨j + 1, by omega, by simp, by rw [HST.out, hin]; simp, _, rfl⟩
                case measure => simp [intOf]; omega
              · go_wp2_with fail
                go_roundw
                case rel => exact ⟨j + 1, by omega, by simp, by rw [HST.out, hin]; simp, _, rfl⟩
                case measure => simp [intOf]; omega
        · obtain rfl : A.length = j := by omega
          rw [List.take_length] at hcnt ⊢
          have hle : (A.countP (Pure.goneB Bl) : Int) ≤ 1 := by omega
          generalize A.countP (Pure.goneB Bl) = q at *
          go_wp2_with (go_at_call 6; refine (told_any _).mono ?_; rintro e w5 ⟨rfl, hb5⟩)
          go_ret
          exact ⟨rfl, hbig.trans ((below_drewN (Below.refl _ _) n1).trans (hb5.mono (by simp; exact hbig.size)))⟩
end Go.Proofs.Ytelfljdnpfmbbaa
