/- TextBlanks walked: two loops that build a text, two readings. -/
import Derived.Test.YtcppcobcdhnalaaDoorToldWalk
namespace Go.Proofs.YtcppcobcdhnalaaDoor
open Go.RowKit
def repS (t : Bs) : Nat → Bs → Bs
  | 0, s => s
  | k + 1, s => repS t k s ++ t
theorem repS_len (t : Bs) (s : Bs) : ∀ k, (repS t k s).length = s.length + k * t.length
  | 0 => by simp [repS]
  | k + 1 => by simp only [repS, List.length_append, repS_len t s k, Nat.succ_mul]; omega
theorem rep_step (t s : Bs) (k : Nat) (u : ByteArray) (hu : bsOf u = t) : strOf (repS t k s) ++ u = strOf (repS t (k + 1) s) := by
  apply bs_inj
  rw [bs_append, bs_str, bs_str, hu]
  rfl
theorem wrap_next (k : Nat) (h : k < 1000) : wrap64 ((k : Int) + 1) = ((k + 1 : Nat) : Int) := by unfold wrap64; omega
theorem less_int {x k : Nat} (h : k < x) : x - (intOf (Value.int .i64 ((k + 1 : Nat) : Int))).toNat < x - (intOf (Value.int .i64 (k : Int))).toNat := by simp only [intOf]; omega
theorem wrap_sum (x y : Nat) (hx : x < 10) (hy : y < 10) : wrap64 (wrap64 ((x : Int) + (y : Int)) + 2) = (x : Int) + (y : Int) + 2 := by
  have e : wrap64 ((x : Int) + (y : Int)) = (x : Int) + (y : Int) := by unfold wrap64; omega
  rw [e]
  unfold wrap64; omega
def blankT : Bs := [32, 32, 32, 10]
theorem blankT_len : blankT.length = 4 := rfl
def noteT : Bs := [32, 35, 32, 109, 105, 110, 58, 32, 57, 10]
theorem noteT_len : noteT.length = 10 := rfl
def blanksS (x y : Nat) : Bs := repS noteT y (repS blankT x [])
def minC : Conf := (Conf.dflt).put 8 3
def sameP (p : Conf × Int × Int) (c : Conf) (e n : Int) : Bool := p.1.list == c.list && p.2.1 == e && p.2.2 == n
theorem blanks_fin : ∀ x y : Fin 10, sameP (parseP .dflt (blanksS x.val y.val ++ [32, 32, 109, 105, 110, 58, 32, 51, 32, 32, 32])) minC 0 0 = true ∧ sameP (parseP .dflt (blanksS x.val y.val ++ [109, 105, 110, 58, 32, 51, 10, 109, 105, 110, 32, 52])) .dflt 4 (x.val + y.val + 2) = true := by decide +kernel
theorem sameP_eq {p : Conf × Int × Int} {c : Conf} {e n : Int} (h : sameP p c e n = true) : p = (c, e, n) := by
  obtain ⟨a, b, d⟩ := p
  unfold sameP at h
  simp only [Bool.and_eq_true, beq_iff_eq] at h
  obtain ⟨⟨h1, h2⟩, h3⟩ := h
  have : a = c := by rw [← Conf.of_list a, h1, Conf.of_list]
  rw [this, h2, h3]
theorem u64_small (a : Int) (n : Int) (hn : 0 < n) (h : n < 9223372036854775807) : ∃ u : Nat, (u : Int) < n ∧ wrap64 (Int.tmod (IntKind.u64.wrap a) n) = (u : Int) := by
  have h0 : 0 ≤ IntKind.u64.wrap a := Int.emod_nonneg _ (by decide)
  have h1 := Int.emod_lt_of_pos (IntKind.u64.wrap a) hn
  have h2 := Int.emod_nonneg (IntKind.u64.wrap a) (show n ≠ 0 by omega)
  refine ⟨(IntKind.u64.wrap a % n).toNat, by omega, ?_⟩
  rw [Int.tmod_eq_emod_of_nonneg h0]
  unfold wrap64; omega
set_option maxRecDepth 100000 in
set_option maxHeartbeats 4000000 in
theorem blanks_any (a b : Int) (w : World) (hE : Env w) : Calls Tryd.prog 3 #[.int .i64 a, .int .i64 b] w fun e w' => e = .returned (.bool true) ∧ Below w.heap.size w w' := by
  obtain ⟨x, hx, ex⟩ := u64_small a 10 (by decide) (by decide)
  obtain ⟨y, hy, ey⟩ := u64_small b 10 (by decide) (by decide)
  have HX := Lib.hid ex
  have HY := Lib.hid ey
  have HXL := Lib.hid (show x < 10 by omega)
  have HYL := Lib.hid (show y < 10 by omega)
  clear ex ey hx hy
  have HZ := Lib.hid run_zeroConf
  have HI := Lib.hid infoConfA
  go_enter Tryd.func3, Tryd.ntmps3
  go_wp2_with fail
  rw [HX.out, HY.out]
  go_loopw [8, 7] (fun i s wr => ∃ k : Nat, k ≤ x ∧ i = .int .i64 k ∧ s = .string (strOf (repS blankT k [])) ∧ Below w.heap.size w wr) (fun i _ _ => x - (intOf i).toNat)
  case atStart => exact ⟨0, Nat.zero_le _, rfl, rfl, by first | exact Below.refl _ _ | (repeat (first | exact Below.refl _ _ | apply pw_below_drewN | apply below_drew1))⟩
  case round =>
    obtain ⟨k, hk, rfl, rfl, hbk⟩ := hrel
    have hl1 := repS_len blankT [] k
    have hx10 := HXL.out
    by_cases hlt : k < x
    · have q1 : (9223372036854775807 < (strOf (repS blankT k [])).size + 4) = False := eq_false (by rw [size_str, hl1, List.length_nil, blankT_len]; omega)
      generalize hsb : strOf (repS blankT k []) = sb at q1 ⊢
      have HSB := Lib.hid hsb
      have HL1 := Lib.hid hl1
      have HK := Lib.hid hk
      have HX10 := Lib.hid hx10
      clear hsb hl1 hk hx10
      go_wp2_with fail
      go_roundw
      case rel =>
        have h10 := HX10.out
        exact ⟨k + 1, by omega, congrArg (Value.int .i64) (wrap_next k (by omega)), by rw [← HSB.out]; exact congrArg Value.string (rep_step blankT [] k _ rfl), hbk⟩
      case measure =>
        have h10 := HX10.out
        rw [wrap_next k (by omega)]
        exact less_int hlt
    · obtain rfl : x = k := by omega
      generalize hsb : strOf (repS blankT x []) = sb
      have HSB := Lib.hid hsb
      have HL1 := Lib.hid hl1
      clear hsb hl1 hk hx10
      go_wp2_with fail
      obtain ⟨S1, hS1⟩ : ∃ S1, S1 = repS blankT x [] := ⟨_, rfl⟩
      have hB0 : Below w.heap.size w wr := hbk
      have HS1 := Lib.hid hS1
      rw [← hS1] at HSB HL1
      clear hS1
      go_loopw [9, 7] (fun i s wq => ∃ k : Nat, k ≤ y ∧ i = .int .i64 k ∧ s = .string (strOf (repS noteT k S1)) ∧ Below w.heap.size w wq) (fun i _ _ => y - (intOf i).toNat)
      case atStart => exact ⟨0, Nat.zero_le _, rfl, congrArg Value.string HSB.out.symm, hB0⟩
      case round =>
        obtain ⟨k, hk, rfl, rfl, hbk⟩ := hrel
        have hl2 := repS_len noteT S1 k
        have hy10 := HYL.out
        have hx10 := HXL.out
        have hl1 := HL1.out
        by_cases hlt : k < y
        · have q1 : (9223372036854775807 < (strOf (repS noteT k S1)).size + 10) = False := eq_false (by rw [size_str, hl2, hl1, List.length_nil, blankT_len, noteT_len]; omega)
          generalize hsc : strOf (repS noteT k S1) = sc at q1 ⊢
          have HSC := Lib.hid hsc
          have HK := Lib.hid hk
          have HX10 := Lib.hid hy10
          clear hsc hl1 hl2 hk hx10 hy10
          go_wp2_with fail
          go_roundw
          case rel =>
            have h10 := HX10.out
            exact ⟨k + 1, by omega, congrArg (Value.int .i64) (wrap_next k (by omega)), by rw [← HSC.out]; exact congrArg Value.string (rep_step noteT S1 k _ rfl), hbk⟩
          case measure =>
            have h10 := HX10.out
            rw [wrap_next k (by omega)]
            exact less_int hlt
        · obtain rfl : y = k := by omega
          have hsz : (strOf (repS noteT y S1)).size ≤ 200 := by rw [size_str, hl2, hl1, List.length_nil, blankT_len, noteT_len]; omega
          have q1 : (9223372036854775807 < (strOf (repS noteT y S1)).size + 11) = False := eq_false (by omega)
          have q2 : (9223372036854775807 < (strOf (repS noteT y S1)).size + 12) = False := eq_false (by omega)
          obtain ⟨hf1, hf2⟩ := blanks_fin ⟨x, hx10⟩ ⟨y, hy10⟩
          have hp1 := sameP_eq hf1
          have hp2 := sameP_eq hf2
          clear hf1 hf2
          simp only [] at hp1 hp2
          have eS : blanksS x y = repS noteT y S1 := by unfold blanksS; rw [HS1.out]
          rw [eS] at hp1 hp2
          obtain ⟨m, hm⟩ : ∃ m : Int, m = (x : Int) + (y : Int) + 2 := ⟨_, rfl⟩
          rw [← hm] at hp2
          have hm1 : wrap64 (wrap64 ((x : Int) + (y : Int)) + 2) = m := by rw [wrap_sum x y hx10 hy10]; exact hm.symm
          generalize hsc : strOf (repS noteT y S1) = sc at q1 q2 hsz ⊢
          have ebs : bsOf sc = repS noteT y S1 := by rw [← hsc, bs_str]
          have HP1 : Hid (parseP .dflt (bsOf (sc ++ (⟨#[32, 32, 109, 105, 110, 58, 32, 51, 32, 32, 32]⟩ : ByteArray))) = (minC, 0, 0)) := by
            show _ = _
            rw [bs_append, ebs]
            exact hp1
          have HP2 : Hid (parseP .dflt (bsOf (sc ++ (⟨#[109, 105, 110, 58, 32, 51, 10, 109, 105, 110, 32, 52]⟩ : ByteArray))) = (.dflt, 4, m)) := by
            show _ = _
            rw [bs_append, ebs]
            exact hp2
          have HSZ := Lib.hid hsz
          have HS1' : small (sc ++ (⟨#[32, 32, 109, 105, 110, 58, 32, 51, 32, 32, 32]⟩ : ByteArray)) := by unfold small; rw [ByteArray.size_append]; have : (⟨#[32, 32, 109, 105, 110, 58, 32, 51, 32, 32, 32]⟩ : ByteArray).size = 11 := rfl; omega
          have HS2' : small (sc ++ (⟨#[109, 105, 110, 58, 32, 51, 10, 109, 105, 110, 32, 52]⟩ : ByteArray)) := by unfold small; rw [ByteArray.size_append]; have : (⟨#[109, 105, 110, 58, 32, 51, 10, 109, 105, 110, 32, 52]⟩ : ByteArray).size = 12 := rfl; omega
          have HSM1 := Lib.hid HS1'
          have HSM2 := Lib.hid HS2'
          have hEk := hE.step hbk
          clear hsc hl1 hl2 hk hp1 hp2 hx10 hy10 eS hm ebs hsz HS1' HS2'
          go_wp2_with fail
          refine (default_any _).mono ?_
          rintro e w3 ⟨rfl, hb3⟩
          go_wp2_with (first
            | ((with_reducible refine at_dst (N := 10) rfl ?_); refine sl_alloc rfl 24 rfl (confA conf0) HZ.out ?_; intro g10 wa hga hba hbela hsza)
            | ((with_reducible refine at_store (T := 24) rfl ?_); refine sl_store (by rfl) 24 _ _ (by rfl) g10 (confA .dflt) (by rfl) (by rfl) 24 (confA conf0) hba.out (HI.out _) rfl (confA_one _) ?_; intro w5 hc5 hon; have hq5 := told_step hbk hEk hb3 hga.out hbela hon)
            | ((with_reducible refine at_dst (N := 41) rfl ?_); refine sl_load (by rfl) 24 _ (by rfl) g10 (by rfl) 24 (confA .dflt) (0, 0) _ hc5.out Tryd.underlying24 rfl (HI.out _) ?_))
          have hB5 := hq5.1
          have hE5 := hq5.2.1
          have hC5 : Hid (HasConf g10 .dflt w5) := hc5.out
          clear hq5 hga hba hbela hsza hon hc5 hb3 hEk hbk
          refine (parse_at .dflt _ minC 0 0 _ hE5 HSM1.out HP1.out).mono ?_
          rintro e w6 ⟨rfl, hb6⟩
          go_wp2_with (first
            | ((with_reducible refine at_dst (N := 11) rfl ?_); refine sl_alloc rfl 24 rfl (confA conf0) HZ.out ?_; intro g11 wa hga hba hbela hsza)
            | ((with_reducible refine at_store (T := 24) rfl ?_); refine sl_store (by rfl) 24 _ _ (by rfl) g11 (confA minC) (by rfl) (by rfl) 24 (confA conf0) hba.out (HI.out _) rfl (confA_one _) ?_; intro w7 hc7 hon; have hq7 := told_step hB5 hE5 hb6 hga.out hbela hon; have hC7 : Hid (HasConf g10 .dflt w7) := hC5.out.step hq7.2.2)
            | ((with_reducible refine at_dst (N := 49) rfl ?_); refine sl_load (by rfl) 24 _ (by rfl) g10 (by rfl) 24 (confA .dflt) (0, 0) _ hC7.out Tryd.underlying24 rfl (HI.out _) ?_))
          have hB7 := hq7.1
          have hE7 := hq7.2.1
          have hD7 : Hid (HasConf g11 minC w7) := hc7.out
          clear hq7 hga hba hbela hsza hon hc7 hb6 hB5 hE5 hC5
          refine (parse_at .dflt _ .dflt 4 m _ hE7 HSM2.out HP2.out).mono ?_
          rintro e w8 ⟨rfl, hb8⟩
          go_wp2_with (first
            | ((with_reducible refine at_dst (N := 14) rfl ?_); refine sl_alloc rfl 24 rfl (confA conf0) HZ.out ?_; intro g14 wa hga hba hbela hsza)
            | ((with_reducible refine at_store (T := 24) rfl ?_); refine sl_store (by rfl) 24 _ _ (by rfl) g14 (confA .dflt) (by rfl) (by rfl) 24 (confA conf0) hba.out (HI.out _) rfl (confA_one _) ?_; intro w9 hc9 hon; have hq9 := told_step hB7 hE7 hb8 hga.out hbela hon; have hD9 : Hid (HasConf g11 minC w9) := hD7.out.step hq9.2.2))
          have hB9 := hq9.1
          have hE9 := hq9.2.1
          clear hq9 hga hba hbela hsza hon hc9 hb8 hB7 hE7 hC7 hD7
          refine (told_any _ hE9).mono ?_
          rintro e w10 ⟨rfl, hb10⟩
          have hB10 := hB9.trans (hb10.mono hB9.size)
          have hD10 : HasConf g11 minC w10 := hD9.out.step hb10
          have hcell : w10.cell? ⟨g11, 8, none⟩ = some (.int .i64 3) := by rw [cell_of_row _ _ _ _ _ _ hD10]; rfl
          clear hD10 hD9 hb10 hE9 hB9
          go_wp2_with fail
          go_ret
          exact ⟨rfl, hB10⟩
end Go.Proofs.YtcppcobcdhnalaaDoor
