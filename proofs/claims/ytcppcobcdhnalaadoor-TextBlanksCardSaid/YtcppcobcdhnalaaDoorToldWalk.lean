/- What 'told' of layer 4 asks of the program: true. -/
import Derived.Test.YtcppcobcdhnalaaDoorPrintWalk
import Derived.Laws.StructEq
namespace Go.Proofs.YtcppcobcdhnalaaDoor
open Go.RowKit Go.Proofs.YtcppcobcdhnalaaDoor.PT Go.Proofs.YtcppcobcdhnalaaDoorW.PrintWords
def HasConf (g : Nat) (c : Conf) (W : World) : Prop := W.heap[g]? = some (.cells (confA c) 24 (0, 0))
theorem HasConf.step {g : Nat} {c : Conf} {W W' : World} (h : HasConf g c W) (hb : Below W.heap.size W W') : HasConf g c W' := (hb.block g (Array.getElem?_eq_some_iff.1 h).1).trans h
theorem told_step {w W W1 Wa Wb : World} {ga : Nat} (hB : Below w.heap.size w W) (hE : Env W) (hb : Below W.heap.size W W1) (hga : ga = W1.heap.size) (hbela : Below ga W1 Wa) (hon : OnlyAt ga Wa Wb) :
    Below w.heap.size w Wb ∧ Env Wb ∧ Below W.heap.size W Wb := by
  subst hga
  have h1 := hb.size
  have h2 : Below W.heap.size W Wb := hon.below (hb.trans (hbela.mono h1)) h1
  exact ⟨hB.trans (h2.mono hB.size), hE.step h2, h2⟩
theorem parse_at (c : Conf) (s : ByteArray) (p : Conf) (x y : Int) (w : World) (hE : Env w) (hs : small s) (h : parseP c (bsOf s) = (p, x, y)) : Calls Tryd.prog 10 #[.agg (confA c), .string s] w fun e w' => e = .returned (.tuple #[.agg (confA p), .int .i64 x, .int .i64 y]) ∧ Below w.heap.size w w' := by
  have := parse_any c s w hE hs
  rw [h] at this
  exact this
theorem results_cell_one {P : Program} {fn : Func} {p : Tmp} {ty : TypeId} (h : fn.results = #[.cell p ty]) (tmps : Array Value) (w : World) (g : Nat) (t : TypeId) (cs : Array Value) (d : TypeDesc)
    (hp : tmps.getD p undef = .pointer (some ⟨g, 0, none⟩)) (hg : w.heap[g]? = some (.cells cs t (0, 0)))
    (hu : P.underlying ty = some d) (hd : (match d with | .struct _ | .array _ _ => true | _ => false) = true) (hi : (P.info? ty).map (·.size) = some cs.size) :
    (results fn tmps).run P w = .ok (.agg cs) w := results_cell_row h tmps w g t cs (0, 0) d hp hg hu hd hi
set_option maxRecDepth 100000 in
set_option maxHeartbeats 4000000 in
theorem default_any (w : World) : Calls Tryd.prog 9 #[] w fun e w' => e = .returned (.agg (confA .dflt)) ∧ Below w.heap.size w w' := by
  have HZ := Lib.hid run_zeroConf
  have HI := Lib.hid (infoConfA .dflt)
  go_enter Tryd.func9, Tryd.ntmps9
  go_wp2_with (first
    | ((with_reducible refine at_dst (N := 0) rfl ?_); refine sl_alloc rfl 24 rfl (confA conf0) HZ.out ?_; intro g w1 hg hb1 hbel1 hsz1)
    | ((with_reducible refine at_dst (N := 1) rfl ?_); refine sl_build (by rfl) 24 _ (by rfl) (confA .dflt) (by kernel_rfl) ?_)
    | ((with_reducible refine at_store (T := 24) rfl ?_); refine sl_store (by rfl) 24 _ _ (by rfl) g (confA .dflt) (by rfl) (by rfl) 24 (confA conf0) hb1.out HI.out rfl (confA_one _) ?_; intro w2 hb2 hon2))
  refine bodyPost_ret (results_cell_one rfl _ _ g 24 (confA .dflt) _ rfl hb2.out Tryd.underlying24 rfl HI.out) rfl ⟨rfl, ?_⟩
  have h1 := hg.out
  subst h1
  exact hon2.below hbel1 (Nat.le_refl _)
def toldC : Conf := ⟨5500, 700, 60, 6, 1, 2000, 10000, 2000, 2, 0, 1, 30, 0, 20000, 10, 100, 60, 3, 0, 0⟩
set_option maxRecDepth 100000 in
set_option maxHeartbeats 8000000 in
theorem told_any (w : World) (hE : Env w) : Calls Tryd.prog 11 #[] w fun e w' => e = .returned (.bool true) ∧ Below w.heap.size w w' := by
  have HZ := Lib.hid run_zeroConf
  have HI := Lib.hid (infoConfA toldC)
  have heq : ∀ w, (binOp .eql 24 (.agg (confA toldC)) (.agg (confA toldC))).run Tryd.prog w = .ok (.bool true) w := fun _ => by kernel_rfl
  have HEQ := Lib.hid heq
  clear heq
  go_enter Tryd.func11, Tryd.ntmps11
  go_wp2_with fail
  refine (text_Number.calls 5 ⟨#[45, 49, 46, 48, 53]⟩ (-1050) true _ hE (by decide +kernel)).mono ?_
  rintro e w1 ⟨rfl, hb1⟩
  have hE1 := hE.step hb1
  go_wp2_with fail
  refine (text_Number.calls 5 ⟨#[49, 46]⟩ 0 false _ hE1 (by decide +kernel)).mono ?_
  rintro e w2 ⟨rfl, hb2⟩
  have hE2 := hE1.step hb2
  have hB2 := hb1.trans (hb2.mono hb1.size)
  clear hb1 hb2 hE1
  go_wp2_with fail
  refine (default_any _).mono ?_
  rintro e w3 ⟨rfl, hb3⟩
  have hE3 := hE2.step hb3
  have hB3 := hB2.trans (hb3.mono hB2.size)
  clear hb3 hE2 hB2
  go_wp2_with fail
  refine (parse_at .dflt ⟨#[35, 32, 120, 10, 32, 32, 116, 97, 114, 103, 101, 116, 58, 32, 53, 46, 53, 32, 10, 10, 109, 105, 110, 58, 32, 50]⟩ toldC 0 0 _ hE3 (by show _ < _; decide) (by decide +kernel)).mono ?_
  rintro e w4 ⟨rfl, hb4⟩
  go_wp2_with (first
    | ((with_reducible refine at_dst (N := 5) rfl ?_); refine sl_alloc rfl 24 rfl (confA conf0) HZ.out ?_; intro g5 wa hga hba hbela hsza)
    | ((with_reducible refine at_store (T := 24) rfl ?_); refine sl_store (by rfl) 24 _ _ (by rfl) g5 (confA toldC) (by rfl) (by rfl) 24 (confA conf0) hba.out HI.out rfl (confA_one _) ?_; intro w5 hc5 hon)
    | ((with_reducible refine at_dst (N := 42) rfl ?_); refine sl_load (by rfl) 24 _ (by rfl) g5 (by rfl) 24 (confA toldC) (0, 0) _ hc5.out Tryd.underlying24 rfl HI.out ?_))
  obtain ⟨hB5, hE5, _⟩ := told_step hB3 hE3 hb4 hga.out hbela hon
  have hC5 : Hid (HasConf g5 toldC w5) := hc5.out
  clear hB3 hE3 hb4 hga hba hbela hsza hon hc5
  refine (parse_at toldC ⟨#[109, 105, 110, 58, 32, 50, 10, 109, 105, 110, 58, 32, 51]⟩ toldC 4 2 _ hE5 (by show _ < _; decide) (by decide +kernel)).mono ?_
  rintro e v6 ⟨rfl, hb6⟩
  go_wp2_with (first
    | ((with_reducible refine at_dst (N := 8) rfl ?_); refine sl_alloc rfl 24 rfl (confA conf0) HZ.out ?_; intro g8 wa6 hga6 hba6 hbela6 hsza6)
    | ((with_reducible refine at_store (T := 24) rfl ?_); refine sl_store (by rfl) 24 _ _ (by rfl) g8 (confA toldC) (by rfl) (by rfl) 24 (confA conf0) hba6.out HI.out rfl (confA_one _) ?_; intro w6 hc6 hon6; have hq6 := told_step hB5 hE5 hb6 hga6.out hbela6 hon6; have hC6 : Hid (HasConf g5 toldC w6) := hC5.out.step hq6.2.2)
    | ((with_reducible refine at_dst (N := 48) rfl ?_); refine sl_load (by rfl) 24 _ (by rfl) g5 (by rfl) 24 (confA toldC) (0, 0) _ hC6.out Tryd.underlying24 rfl HI.out ?_))
  have hB6 := hq6.1
  have hE6 := hq6.2.1
  clear hq6 hb6 hga6 hba6 hbela6 hsza6 hon6 hc6 hB5 hE5 hC5
  refine (parse_at toldC ⟨#[117, 112, 58, 32, 48, 46, 53]⟩ toldC 5 0 _ hE6 (by show _ < _; decide) (by decide +kernel)).mono ?_
  rintro e v7 ⟨rfl, hb7⟩
  go_wp2_with (first
    | ((with_reducible refine at_dst (N := 11) rfl ?_); refine sl_alloc rfl 24 rfl (confA conf0) HZ.out ?_; intro g11 wa7 hga7 hba7 hbela7 hsza7)
    | ((with_reducible refine at_store (T := 24) rfl ?_); refine sl_store (by rfl) 24 _ _ (by rfl) g11 (confA toldC) (by rfl) (by rfl) 24 (confA conf0) hba7.out HI.out rfl (confA_one _) ?_; intro w7 hc7 hon7; have hq7 := told_step hB6 hE6 hb7 hga7.out hbela7 hon7; have hC7 : Hid (HasConf g5 toldC w7) := hC6.out.step hq7.2.2; have hD7 : Hid (HasConf g11 toldC w7) := hc7.out)
    | ((with_reducible refine at_dst (N := 54) rfl ?_); refine sl_load (by rfl) 24 _ (by rfl) g5 (by rfl) 24 (confA toldC) (0, 0) _ hC7.out Tryd.underlying24 rfl HI.out ?_))
  have hB7 := hq7.1
  have hE7 := hq7.2.1
  clear hq7 hb7 hga7 hba7 hbela7 hsza7 hon7 hc7 hB6 hE6 hC6
  have hpr := Lib.hid (print_yes toldC _ hE7 (by decide +kernel))
  refine (hpr.out).mono ?_
  rintro e w8 ⟨rfl, hb8⟩
  have hE8 := hE7.step hb8
  have hB8 := hB7.trans (hb8.mono hB7.size)
  have hC8 : Hid (HasConf g5 toldC w8) := hC7.out.step hb8
  have hD8 : Hid (HasConf g11 toldC w8) := hD7.out.step hb8
  have hS1 : Hid (13 < (strOf (printP toldC)).size) := by show 13 < (strOf (printP toldC)).size; decide +kernel
  have hS2 : Hid (bsOf (strOf (printP toldC)) = printP toldC) := bs_str _
  have hS3 : Hid ((printP toldC).take 12 = [116, 97, 114, 103, 101, 116, 58, 32, 53, 46, 53, 10]) := by show (printP toldC).take 12 = _; decide +kernel
  generalize hSS : strOf (printP toldC) = S at *
  have HSS := Lib.hid hSS
  clear hSS hb8 hE7 hB7 hC7 hD7 hpr
  go_wp2_with fail
  refine (text_Number.calls 5 ⟨#[49, 50, 51, 52, 53, 54, 55, 56, 57, 48]⟩ 0 false _ hE8 (by decide +kernel)).mono ?_
  rintro e w9 ⟨rfl, hb9⟩
  have hE9 := hE8.step hb9
  have hB9 := hB8.trans (hb9.mono hB8.size)
  have hC9 : Hid (HasConf g5 toldC w9) := hC8.out.step hb9
  have hD9 : Hid (HasConf g11 toldC w9) := hD8.out.step hb9
  clear hb9 hE8 hB8 hC8 hD8
  go_wp2_with ((with_reducible refine at_dst (N := 63) rfl ?_); refine sl_load (by rfl) 24 _ (by rfl) g5 (by rfl) 24 (confA toldC) (0, 0) _ hC9.out Tryd.underlying24 rfl HI.out ?_)
  refine (parse_at toldC ⟨#[103, 114, 97, 99, 101, 58, 32, 48, 48, 48, 48, 48, 48, 55]⟩ toldC 4 1 _ hE9 (by show _ < _; decide) (by decide +kernel)).mono ?_
  rintro e v10 ⟨rfl, hb10⟩
  go_wp2_with (first
    | ((with_reducible refine at_dst (N := 18) rfl ?_); refine sl_alloc rfl 24 rfl (confA conf0) HZ.out ?_; intro g18 wa10 hga10 hba10 hbela10 hsza10)
    | ((with_reducible refine at_store (T := 24) rfl ?_); refine sl_store (by rfl) 24 _ _ (by rfl) g18 (confA toldC) (by rfl) (by rfl) 24 (confA conf0) hba10.out HI.out rfl (confA_one _) ?_; intro w10 hc10 hon10; have hq10 := told_step hB9 hE9 hb10 hga10.out hbela10 hon10; have hC10 : Hid (HasConf g5 toldC w10) := hC9.out.step hq10.2.2; have hD10 : Hid (HasConf g11 toldC w10) := hD9.out.step hq10.2.2)
    | ((with_reducible refine at_dst (N := 69) rfl ?_); refine sl_load (by rfl) 24 _ (by rfl) g5 (by rfl) 24 (confA toldC) (0, 0) _ hC10.out Tryd.underlying24 rfl HI.out ?_))
  have hB10 := hq10.1
  have hE10 := hq10.2.1
  clear hq10 hb10 hga10 hba10 hbela10 hsza10 hon10 hc10 hB9 hE9 hC9 hD9
  refine (parse_at toldC ⟨#[9, 109, 105, 110, 58, 32, 50]⟩ toldC 4 1 _ hE10 (by show _ < _; decide) (by decide +kernel)).mono ?_
  rintro e v11 ⟨rfl, hb11⟩
  go_wp2_with (first
    | ((with_reducible refine at_dst (N := 21) rfl ?_); refine sl_alloc rfl 24 rfl (confA conf0) HZ.out ?_; intro g21 wa11 hga11 hba11 hbela11 hsza11)
    | ((with_reducible refine at_store (T := 24) rfl ?_); refine sl_store (by rfl) 24 _ _ (by rfl) g21 (confA toldC) (by rfl) (by rfl) 24 (confA conf0) hba11.out HI.out rfl (confA_one _) ?_; intro w11 hc11 hon11; have hq11 := told_step hB10 hE10 hb11 hga11.out hbela11 hon11; have hC11 : Hid (HasConf g5 toldC w11) := hC10.out.step hq11.2.2; have hD11 : Hid (HasConf g11 toldC w11) := hD10.out.step hq11.2.2)
    | ((with_reducible refine at_dst (N := 75) rfl ?_); refine sl_load (by rfl) 24 _ (by rfl) g5 (by rfl) 24 (confA toldC) (0, 0) _ hC11.out Tryd.underlying24 rfl HI.out ?_))
  have hB11 := hq11.1
  have hE11 := hq11.2.1
  clear hq11 hb11 hga11 hba11 hbela11 hsza11 hon11 hc11 hB10 hE10 hC10 hD10
  refine (parse_at toldC ⟨#[109, 105, 110, 58, 32, 50, 32, 35, 32, 120]⟩ toldC 4 1 _ hE11 (by show _ < _; decide) (by decide +kernel)).mono ?_
  rintro e v12 ⟨rfl, hb12⟩
  go_wp2_with (first
    | ((with_reducible refine at_dst (N := 24) rfl ?_); refine sl_alloc rfl 24 rfl (confA conf0) HZ.out ?_; intro g24 wa12 hga12 hba12 hbela12 hsza12)
    | ((with_reducible refine at_store (T := 24) rfl ?_); refine sl_store (by rfl) 24 _ _ (by rfl) g24 (confA toldC) (by rfl) (by rfl) 24 (confA conf0) hba12.out HI.out rfl (confA_one _) ?_; intro w12 hc12 hon12; have hq12 := told_step hB11 hE11 hb12 hga12.out hbela12 hon12; have hC12 : Hid (HasConf g5 toldC w12) := hC11.out.step hq12.2.2; have hD12 : Hid (HasConf g11 toldC w12) := hD11.out.step hq12.2.2))
  have hB12 := hq12.1
  have hE12 := hq12.2.1
  clear hq12 hb12 hga12 hba12 hbela12 hsza12 hon12 hc12 hB11 hE11 hC11 hD11
  refine (text_Show.calls 1 1500 ⟨#[49, 46, 53]⟩ _ hE12 (by decide +kernel)).mono ?_
  rintro e w13 ⟨rfl, hb13⟩
  have hE13 := hE12.step hb13
  have hB13 := hB12.trans (hb13.mono hB12.size)
  have hC13 : Hid (HasConf g5 toldC w13) := hC12.out.step hb13
  have hD13 : Hid (HasConf g11 toldC w13) := hD12.out.step hb13
  clear hb13 hE12 hB12 hC12 hD12
  go_wp2_with fail
  refine (text_Show.calls 1 (-50) ⟨#[45, 48, 46, 48, 53]⟩ _ hE13 (by decide +kernel)).mono ?_
  rintro e w14 ⟨rfl, hb14⟩
  have hE14 := hE13.step hb14
  have hB14 := hB13.trans (hb14.mono hB13.size)
  have hC14 : Hid (HasConf g5 toldC w14) := hC13.out.step hb14
  have hD14 : Hid (HasConf g11 toldC w14) := hD13.out.step hb14
  clear hb14 hE13 hB13 hC13 hD13
  go_wp2_with fail
  refine (text_Show.calls 1 0 ⟨#[48]⟩ _ hE14 (by decide +kernel)).mono ?_
  rintro e w15 ⟨rfl, hb15⟩
  have hE15 := hE14.step hb15
  have hB15 := hB14.trans (hb15.mono hB14.size)
  have hC15 : Hid (HasConf g5 toldC w15) := hC14.out.step hb15
  have hD15 : Hid (HasConf g11 toldC w15) := hD14.out.step hb15
  clear hb15 hE14 hB14 hC14 hD14
  have hcell0 : w15.cell? ⟨g5, 0, none⟩ = some (.int .i64 5500) := by rw [cell_of_row _ _ _ _ _ _ hC15.out]; rfl
  have hcell8 : w15.cell? ⟨g5, 8, none⟩ = some (.int .i64 2) := by rw [cell_of_row _ _ _ _ _ _ hC15.out]; rfl
  have hq1 : decide (13 < S.size) = true := decide_eq_true hS1.out
  have hq5 : ((13 : Int) < (S.size : Int)) = True := eq_true (by have := hS1.out; omega)
  have hq6 : decide ((13 : Int) < (S.size : Int)) = true := decide_eq_true (by have := hS1.out; omega)
  have hq2 : (12 ≤ S.size) = True := eq_true (by have := hS1.out; omega)
  have hq3 : ((12 : Int) ≤ (S.size : Int)) = True := eq_true (by have := hS1.out; omega)
  have hq4 : ((S.extract 0 12).toList == ([116, 97, 114, 103, 101, 116, 58, 32, 53, 46, 53, 10] : List UInt8)) = true := by
    rw [beq_iff_eq, toList_bs]
    have h1 := hS2.out
    have h2 := hS3.out
    unfold bsOf at h1 ⊢
    rw [Lib.extract_data, h1]
    simpa using h2
  have heq := HEQ.out
  go_wp2_with (first
    | ((with_reducible refine at_dst (N := 164) rfl ?_); refine sl_loadg (by kernel_rfl) 24 _ (by rfl) g11 (by rfl) 24 (confA toldC) (0, 0) _ hD15.out Tryd.underlying24 rfl HI.out ?_)
    | ((with_reducible refine at_dst (N := 165) rfl ?_); refine sl_loadg (by kernel_rfl) 24 _ (by rfl) g5 (by rfl) 24 (confA toldC) (0, 0) _ hC15.out Tryd.underlying24 rfl HI.out ?_))
  go_ret
  exact ⟨rfl, hB15⟩
end Go.Proofs.YtcppcobcdhnalaaDoor
