/- Settings as a text, walked: what 'text.Print' answers. -/
import Derived.Test.YtcppcobcdhnalaaDoorParseWalk
import Derived.Test.YtcppcobcdhnalaaDoorBuilder
namespace Go.Proofs.YtcppcobcdhnalaaDoor
open Go.RowKit Go.Proofs.YtcppcobcdhnalaaDoor.PT Go.Proofs.YtcppcobcdhnalaaDoorW.PrintWords
theorem grown_of {w w' : World} (h : Below w.heap.size w w') (row : Option Nat) : w.grownBy w' row := ⟨h.os, h.tape, h.output, h.size, fun k hk _ => h.block k hk⟩
theorem bldF_below {T e : TypeId} {B b : Nat} {bs : List Value} {w w' : World} (h : Lib.IsBuilderF T e B b bs w) (hb : Below w.heap.size w w') : Lib.IsBuilderF T e B b bs w' := by
  have key : ∀ p, Lib.BuilderAtF T e B b p bs w → Lib.BuilderAtF T e B b p bs w' := by
    intro p h
    have hlt := h.lt
    obtain ⟨hB, v, hk, hown, hne⟩ := h
    exact ⟨hB, v, (hb.block b hlt).trans hk, hown.kept (grown_of hb none) (by cases hv : v.ownBlock <;> simp), hne⟩
  exact h.elim (fun x => .inl (key _ x)) (fun x => .inr (key _ x))
/-- The text of the first parts. -/
def outP (c : Conf) (k : Nat) : Bs := (List.range k).flatMap fun j => lineOf j (c.at_ j) ++ [10]
theorem outP_succ (c : Conf) (k : Nat) : outP c (k + 1) = outP c k ++ (lineOf k (c.at_ k) ++ [10]) := by
  unfold outP
  rw [List.range_succ, List.flatMap_append]
  simp
theorem cells_append (a b : Bs) : Lib.byteCells (a ++ b) = Lib.byteCells a ++ Lib.byteCells b := by unfold Lib.byteCells; rw [List.map_append]
theorem strCells_eq (s : ByteArray) : Lib.strCells s = Lib.byteCells (bsOf s) := rfl
theorem cells_len (a : Bs) : (Lib.byteCells a).length = a.length := by unfold Lib.byteCells; rw [List.length_map]
theorem line_short (c : Conf) (hc : c.may = true) (k : Nat) (hk : k < 20) : (lineOf k (c.at_ k)).length ≤ 60 := by
  have hv := thin_vals c hc k hk
  have hn : ∀ k : Fin 20, (nameOf k.val).length ≤ 10 := by decide
  have h1 := hn ⟨k, hk⟩
  simp only at h1
  have h2 : (showV k (c.at_ k)).length ≤ 30 := by
    unfold showV
    by_cases ht : thin k = true
    · rw [if_pos ht] at hv ⊢
      generalize c.at_ k = n at *
      unfold showP
      have l1 : (Lib.decDigits (absP n / 1000)).length ≤ 19 := dec_len _ 19 (by decide) (by unfold absP; split <;> omega)
      have l2 : (Lib.decDigits (1000 + absP n % 1000)).length ≤ 4 := dec_len _ 4 (by decide) (by omega)
      have l4 : (Lib.trimRightB ((Lib.decDigits (1000 + absP n % 1000)).drop 1) 48).length ≤ 4 := by
        unfold Lib.trimRightB
        have h2 := (List.dropWhile_sublist (fun x => x == 48) (l := (List.drop 1 (Lib.decDigits (1000 + absP n % 1000))).reverse)).length_le
        simp only [List.length_reverse, List.length_drop] at h2 ⊢
        omega
      generalize Lib.trimRightB ((Lib.decDigits (1000 + absP n % 1000)).drop 1) 48 = tq at *
      simp only [List.length_append]
      split <;> split <;> simp <;> omega
    · rw [if_neg ht] at hv ⊢
      rw [itoa_bytes _ hv.1]
      have := dec_len (c.at_ k).toNat 6 (by decide) (by omega)
      omega
  unfold lineOf
  simp only [List.length_append, List.length_cons]
  omega
theorem outP_len (c : Conf) (hc : c.may = true) : ∀ k, k ≤ 20 → (outP c k).length ≤ 61 * k
  | 0, _ => by simp [outP]
  | k + 1, hk => by
    have := outP_len c hc k (by omega)
    have h2 := line_short c hc k (by omega)
    rw [outP_succ]
    simp only [List.length_append, List.length_singleton]
    omega
theorem zeroBuilder : (Tryd.prog.info? 66).map (fun i => (i.zero, i.size)) = some (some (.agg #[.pointer none, .slice none 0 0]), 2) := by kernel_rfl
theorem run_zeroBuilder : ∀ w, (zeroValue 66).run Tryd.prog w = .ok (.agg #[.pointer none, .slice none 0 0]) w := (zero_of_info zeroBuilder).1
set_option maxRecDepth 100000 in
set_option maxHeartbeats 4000000 in
theorem print_no (c : Conf) (w : World) (hmay : c.may = false) : Calls Tryd.prog 15 #[.agg (confA c)] w fun e w' => e = .returned (.tuple #[.string ⟨#[]⟩, .int .i64 1]) ∧ Below w.heap.size w w' := by
  have HM := Lib.hid (may_any c)
  have HI := Lib.hid (infoConfA c)
  go_enter Tryd.func15, Tryd.ntmps15
  go_wp2_with (first | (refine sl_box rfl 24 _ rfl (confA c) rfl ?_; intro g w1 hg hblk hb hsz) | (refine sl_load (by rfl) 24 _ (by rfl) g (by rfl) 24 (confA c) (0, 0) _ hblk.out Tryd.underlying24 rfl HI.out ?_))
  refine (HM.out _).mono ?_
  rintro e w2 ⟨rfl, hb2⟩
  go_wp2_with fail
  go_ret2
  refine ⟨rfl, ?_⟩
  have h1 := hg.out
  have h2 := hsz.out
  subst h1
  exact hb.trans (hb2.mono (by omega))
set_option maxRecDepth 100000 in
set_option maxHeartbeats 4000000 in
theorem print_yes (c : Conf) (w : World) (hE : Env w) (hmay : c.may = true) : Calls Tryd.prog 15 #[.agg (confA c)] w fun e w' => e = .returned (.tuple #[.string (strOf (printP c)), .int .i64 0]) ∧ Below w.heap.size w w' := by
  have HM := Lib.hid (may_any c)
  have HI := Lib.hid (infoConfA c)
  have HZ := Lib.hid run_zeroBuilder
  have ta1 : ∀ (a : Addr) (w : World), (Instr.typeAssert (.iface 71 (.pointer (some a))) 20 71 true).run Tryd.prog w = .ok (.tuple #[.pointer (some a), .bool true]) w := fun _ _ => by kernel_rfl
  have ta2 : ∀ (a : Addr) (w : World), (Instr.typeAssert (.iface 74 (.pointer (some a))) 20 71 true).run Tryd.prog w = .ok (.tuple #[.pointer none, .bool false]) w := fun _ _ => by kernel_rfl
  have ta3 : ∀ (a : Addr) (w : World), (Instr.typeAssert (.iface 74 (.pointer (some a))) 20 74 false).run Tryd.prog w = .ok (.pointer (some a)) w := fun _ _ => by kernel_rfl
  go_enter Tryd.func15, Tryd.ntmps15
  go_wp2_with (first | ((with_reducible refine at_dst (N := 1) rfl ?_); refine sl_box rfl 24 _ rfl (confA c) rfl ?_; intro g w1 hg hblk hb hsz) | ((with_reducible refine at_dst (N := 9) rfl ?_); refine sl_load (by rfl) 24 _ (by rfl) g (by rfl) 24 (confA c) (0, 0) _ hblk.out Tryd.underlying24 rfl HI.out ?_))
  refine (HM.out _).mono ?_
  rintro e w2 ⟨rfl, hb2⟩
  have hblk2 : Hid (w2.heap[g]? = some (.cells (confA c) 24 (0, 0))) := (hb2.block g (Array.getElem?_eq_some_iff.1 hblk.out).1).trans hblk.out
  have hn2 : Hid (g = w.heap.size ∧ Below w.heap.size w w2 ∧ g < w2.heap.size) := by
    have h1 := hg.out
    have h2 := hsz.out
    have h3 := hb2.size
    refine ⟨h1, ?_, by omega⟩
    subst h1
    exact hb.trans (hb2.mono (by omega))
  clear hg hblk hb hsz hb2
  go_wp2_with ((with_reducible refine at_dst (N := 4) rfl ?_); refine sl_alloc rfl 66 rfl #[.pointer none, .slice none 0 0] HZ.out ?_; intro gb w3 hgb hb3 hbel3 hsz3)
  refine (parts_any g w3).mono ?_
  rintro e w4 ⟨rfl, hp4, hbel4⟩
  obtain ⟨gp, hgp⟩ : ∃ gp, gp = w3.heap.size := ⟨_, rfl⟩
  rw [← hgp] at hp4 ⊢
  have hn4 : Hid (g = w.heap.size ∧ Below w.heap.size w w4 ∧ g < gb ∧ gb < gp ∧ gp < w4.heap.size) := by
    obtain ⟨a1, a2, a3⟩ := hn2.out
    have b1 := hgb.out
    have b2 := hsz3.out
    have b3 := (Array.getElem?_eq_some_iff.1 hp4).1
    refine ⟨a1, a2.trans ((hbel3.mono (by omega)).trans (hbel4.mono (by omega))), by omega, by omega, b3⟩
  have hc4 : Hid (w4.heap[g]? = some (.cells (confA c) 24 (0, 0))) := by
    obtain ⟨a1, a2, a3⟩ := hn2.out
    have b1 := hgb.out
    have b2 := hsz3.out
    exact (hbel4.block g (by omega)).trans ((hbel3.block g (by omega)).trans hblk2.out)
  have hB4 : Lib.IsBuilderF 66 5 gb gb [] w4 := by
    have b2 := hsz3.out
    refine bldF_below (w := w3) ?_ hbel4
    exact .inl ⟨Nat.le_refl _, .slice none 0 0, hb3.out, ⟨rfl, .inl ⟨rfl, rfl⟩⟩, by simp [Value.ownBlock]⟩
  have HP4 := Lib.hid hp4
  have hE4 : Env w4 := hE.step hn4.out.2.1
  clear hn2 hblk2 hgb hb3 hbel3 hsz3 hbel4 hgp hp4
  go_wp2_with fail
  go_loopw [14] (fun i wr => ∃ k : Nat, k ≤ 20 ∧ i = .int .i64 k ∧ Hid (Lib.IsBuilderF 66 5 gb gb (Lib.byteCells (outP c k)) wr) ∧ Hid (wr.heap[gp]? = some (.cells (ptrCells g) 51 (0, 0))) ∧ Below gb w4 wr ∧ Env wr) (fun i _ => 20 - (intOf i).toNat)
  case atStart => exact ⟨0, Nat.zero_le _, rfl, hB4, HP4.out, Below.refl _ _, hE4⟩
  case round =>
    obtain ⟨k, hk, rfl, hBk, hpk, hbk, hEk⟩ := hrel
    have hcg : Hid (wr.heap[g]? = some (.cells (confA c) 24 (0, 0))) := (hbk.block g hn4.out.2.2.1).trans hc4.out
    by_cases hlt : k < 20
    · obtain ⟨hn0, hn1'⟩ := cell_ptr g wr gp hpk.out k hlt
      have hn1 : wr.cell? ⟨gp, k * 2 + 1, none⟩ = some (.iface (ptrTy k) (.pointer (some ⟨g, k, none⟩))) := hn1'
      clear hn1'
      have hlens := outP_len c hmay k (by omega)
      have hshort := line_short c hmay k hlt
      have hvals := Lib.hid (thin_vals c hmay k hlt)
      obtain ⟨nm, hnm⟩ : ∃ nm, nm = strOf (nameOf k) := ⟨_, rfl⟩
      rw [← hnm] at hn0
      have hnsz : nm.size + 2 + (showV k (c.at_ k)).length ≤ 60 := by
        rw [hnm, size_str]
        unfold lineOf at hshort
        simp only [List.length_append, List.length_cons] at hshort
        omega
      have HNM := Lib.hid hnm
      clear hnm hshort
      have q1 : (9223372036854775807 < nm.size + 2) = False := eq_false (by omega)
      have hw4s := hbk.size
      have hgbw : gb ≤ wr.heap.size := by have := hn4.out; omega
      by_cases ht : thin k = true
      · have hty : ptrTy k = 71 := by unfold ptrTy; rw [if_pos ht]
        rw [hty] at hn1
        have hsv : showV k (c.at_ k) = showP (c.at_ k) := by unfold showV; rw [if_pos ht]
        rw [hsv] at hnsz
        have hrange : -1000000000000 < c.at_ k ∧ c.at_ k < 1000000000000 := by have := hvals.out; rw [if_pos ht] at this; exact this
        obtain ⟨kq, hshow⟩ := show_law (c.at_ k) (by omega) (by omega)
        have HSH := Lib.hid hshow
        have HSV := Lib.hid hsv
        clear hshow hsv hty ht
        go_wp2_with fail
        refine (writeString_any gb gb (Lib.byteCells (outP c k)) (nm ++ (⟨#[58, 32]⟩ : ByteArray)) _ (hBk.out.alloc _) (by rw [cells_len, ByteArray.size_append]; have : (⟨#[58, 32]⟩ : ByteArray).size = 2 := rfl; omega) (by simp; omega)).mono ?_
        rintro e w5 ⟨rfl, hB5, hb5, ho5⟩
        have hB5' := Lib.hid hB5
        have hp5 : Hid (w5.heap[gp]? = some (.cells (ptrCells g) 51 (0, 0))) := ho5 gp _ ((Below.heap_alloc _ _ _ (Array.getElem?_eq_some_iff.1 hpk.out).1).trans hpk.out) (fun e => by have := hn4.out; injection e with e; omega) (fun c fz e => by injection e with _ e2; exact absurd e2 (by decide))
        have hbg5 : Below gb w4 w5 := (hbk.alloc (by omega) _).trans hb5
        have hE5 : Env w5 := hEk.mono' ((((Below.refl _ _).alloc (by have := hEk.big; omega) _)).trans (hb5.mono (by have h1 := hE.big; have h2 := hn4.out; omega)))
        have hc5 : Hid (w5.heap[g]? = some (.cells (confA c) 24 (0, 0))) := (hbg5.block g hn4.out.2.2.1).trans hc4.out
        have hcell5 : w5.cell? ⟨g, k, none⟩ = some (.int .i64 (c.at_ k)) := by rw [cell_of_row _ _ _ _ _ _ hc5.out, confA_get c k hlt]
        have hm5 : w5.cell? ⟨wr.heap.size, 1, none⟩ = some (.iface 71 (.pointer (some ⟨g, k, none⟩))) := by
          have h1 := ho5 wr.heap.size _ (heap_alloc_new wr _) (fun e => by have h9 := hn4.out; injection e with e; omega) (fun c fz e => by injection e with _ e2; exact absurd e2 (by decide))
          rw [cell_of_row _ _ _ _ _ _ h1]
          rfl
        have hs5 : wr.heap.size < w5.heap.size := by have := hb5.size; simp at this; omega
        have HS5 : Hid (gb ≤ w5.heap.size) := by show gb ≤ w5.heap.size; omega
        clear hB5 hb5 ho5 hBk hpk hbk hEk hcg hn0 hn1
        go_wp2_with fail
        refine (text_Show.calls kq (c.at_ k) _ _ hE5 HSH.out).mono ?_
        rintro e w6 ⟨rfl, hb6⟩
        have hE6 := hE5.step hb6
        have q2 : (9223372036854775807 < (strOf (showP (c.at_ k))).size + 1) = False := eq_false (by rw [size_str]; omega)
        have hshsz : (strOf (showP (c.at_ k))).size = (showP (c.at_ k)).length := size_str _
        have HSZ := Lib.hid hshsz
        clear hshsz
        go_wp2_with fail
        refine (writeString_any gb gb _ ((strOf (showP (c.at_ k))) ++ (⟨#[10]⟩ : ByteArray)) _ (bldF_below (.inr hB5'.out) hb6) (by rw [List.length_append, cells_len, strCells_eq, cells_len, ← size_bs, ByteArray.size_append, ByteArray.size_append]; have e1 : (⟨#[58, 32]⟩ : ByteArray).size = 2 := rfl; have e2 : (⟨#[10]⟩ : ByteArray).size = 1 := rfl; have e3 := HSZ.out; omega) (by have := hb6.size; omega)).mono ?_
        rintro e w7 ⟨rfl, hB7, hb7, ho7⟩
        have HB7 := Lib.hid hB7
        have Hb7 := Lib.hid hb7
        have Ho7 := Lib.hid ho7
        clear hB7 hb7 ho7
        go_wp2_with fail
        go_roundw
        case rel =>
          refine ⟨k + 1, by omega, by simp, ?_, ?_, hbg5.trans ((hb6.mono HS5.out).trans Hb7.out), ?_⟩
          · have h1 := HB7.out
            have e0 : Lib.byteCells (outP c k) ++ Lib.strCells (nm ++ (⟨#[58, 32]⟩ : ByteArray)) ++ Lib.strCells ((strOf (showP (c.at_ k))) ++ (⟨#[10]⟩ : ByteArray)) = Lib.byteCells (outP c (k + 1)) := by
              rw [strCells_eq, strCells_eq, ← cells_append, ← cells_append, outP_succ]
              refine congrArg Lib.byteCells ?_
              rw [bs_append, bs_append, HNM.out, bs_str]
              unfold lineOf
              have e1 : bsOf (⟨#[58, 32]⟩ : ByteArray) = [58, 32] := rfl
              have e2 : bsOf (⟨#[10]⟩ : ByteArray) = [10] := rfl
              rw [e1, e2, HSV.out, bs_str]
              simp
            rw [e0] at h1
            exact .inr h1
          · exact Ho7.out gp _ ((hb6.block gp (Array.getElem?_eq_some_iff.1 hp5.out).1).trans hp5.out) (fun e => by have := hn4.out; injection e with e; omega) (fun c fz e => by injection e with _ e2; exact absurd e2 (by decide))
          · exact hE6.mono' (Hb7.out.mono (by have h1 := hE.big; have h2 := hn4.out; omega))
        case measure => simp [intOf]; omega
      · have hty : ptrTy k = 74 := by unfold ptrTy; rw [if_neg ht]
        rw [hty] at hn1
        have hrange : 0 ≤ c.at_ k ∧ c.at_ k < 1000000 := by have := hvals.out; rw [if_neg ht] at this; exact this
        have hsv : showV k (c.at_ k) = Lib.itoa (c.at_ k) := by unfold showV; rw [if_neg ht]
        rw [hsv] at hnsz
        have hshow : strconv_Itoa.f (c.at_ k) = some (strOf (Lib.itoa (c.at_ k))) := by
          unfold strconv_Itoa.f
          rw [if_pos (by simp only [Bool.and_eq_true, decide_eq_true_eq]; exact ⟨by omega, by omega⟩)]
        have HSH := Lib.hid hshow
        have HSV := Lib.hid hsv
        clear hshow hsv hty ht
        go_wp2_with fail
        refine (writeString_any gb gb (Lib.byteCells (outP c k)) (nm ++ (⟨#[58, 32]⟩ : ByteArray)) _ (hBk.out.alloc _) (by rw [cells_len, ByteArray.size_append]; have : (⟨#[58, 32]⟩ : ByteArray).size = 2 := rfl; omega) (by simp; omega)).mono ?_
        rintro e w5 ⟨rfl, hB5, hb5, ho5⟩
        have hB5' := Lib.hid hB5
        have hp5 : Hid (w5.heap[gp]? = some (.cells (ptrCells g) 51 (0, 0))) := ho5 gp _ ((Below.heap_alloc _ _ _ (Array.getElem?_eq_some_iff.1 hpk.out).1).trans hpk.out) (fun e => by have := hn4.out; injection e with e; omega) (fun c fz e => by injection e with _ e2; exact absurd e2 (by decide))
        have hbg5 : Below gb w4 w5 := (hbk.alloc (by omega) _).trans hb5
        have hE5 : Env w5 := hEk.mono' ((((Below.refl _ _).alloc (by have := hEk.big; omega) _)).trans (hb5.mono (by have h1 := hE.big; have h2 := hn4.out; omega)))
        have hc5 : Hid (w5.heap[g]? = some (.cells (confA c) 24 (0, 0))) := (hbg5.block g hn4.out.2.2.1).trans hc4.out
        have hcell5 : w5.cell? ⟨g, k, none⟩ = some (.int .i64 (c.at_ k)) := by rw [cell_of_row _ _ _ _ _ _ hc5.out, confA_get c k hlt]
        have hm5 : w5.cell? ⟨wr.heap.size, 1, none⟩ = some (.iface 74 (.pointer (some ⟨g, k, none⟩))) := by
          have h1 := ho5 wr.heap.size _ (heap_alloc_new wr _) (fun e => by have h9 := hn4.out; injection e with e; omega) (fun c fz e => by injection e with _ e2; exact absurd e2 (by decide))
          rw [cell_of_row _ _ _ _ _ _ h1]
          rfl
        have hs5 : wr.heap.size < w5.heap.size := by have := hb5.size; simp at this; omega
        have HS5 : Hid (gb ≤ w5.heap.size) := by show gb ≤ w5.heap.size; omega
        clear hB5 hb5 ho5 hBk hpk hbk hEk hcg hn0 hn1
        go_wp2_with fail
        refine (strconv_Itoa.calls (c.at_ k) _ _ hE5 HSH.out).mono ?_
        rintro e w6 ⟨rfl, hb6⟩
        have hE6 := hE5.step hb6
        have q2 : (9223372036854775807 < (strOf (Lib.itoa (c.at_ k))).size + 1) = False := eq_false (by rw [size_str]; omega)
        have hshsz : (strOf (Lib.itoa (c.at_ k))).size = (Lib.itoa (c.at_ k)).length := size_str _
        have HSZ := Lib.hid hshsz
        clear hshsz
        go_wp2_with fail
        refine (writeString_any gb gb _ ((strOf (Lib.itoa (c.at_ k))) ++ (⟨#[10]⟩ : ByteArray)) _ (bldF_below (.inr hB5'.out) hb6) (by rw [List.length_append, cells_len, strCells_eq, cells_len, ← size_bs, ByteArray.size_append, ByteArray.size_append]; have e1 : (⟨#[58, 32]⟩ : ByteArray).size = 2 := rfl; have e2 : (⟨#[10]⟩ : ByteArray).size = 1 := rfl; have e3 := HSZ.out; omega) (by have := hb6.size; omega)).mono ?_
        rintro e w7 ⟨rfl, hB7, hb7, ho7⟩
        have HB7 := Lib.hid hB7
        have Hb7 := Lib.hid hb7
        have Ho7 := Lib.hid ho7
        clear hB7 hb7 ho7
        go_wp2_with fail
        go_roundw
        case rel =>
          refine ⟨k + 1, by omega, by simp, ?_, ?_, hbg5.trans ((hb6.mono HS5.out).trans Hb7.out), ?_⟩
          · have h1 := HB7.out
            have e0 : Lib.byteCells (outP c k) ++ Lib.strCells (nm ++ (⟨#[58, 32]⟩ : ByteArray)) ++ Lib.strCells ((strOf (Lib.itoa (c.at_ k))) ++ (⟨#[10]⟩ : ByteArray)) = Lib.byteCells (outP c (k + 1)) := by
              rw [strCells_eq, strCells_eq, ← cells_append, ← cells_append, outP_succ]
              refine congrArg Lib.byteCells ?_
              rw [bs_append, bs_append, HNM.out, bs_str]
              unfold lineOf
              have e1 : bsOf (⟨#[58, 32]⟩ : ByteArray) = [58, 32] := rfl
              have e2 : bsOf (⟨#[10]⟩ : ByteArray) = [10] := rfl
              rw [e1, e2, HSV.out, bs_str]
              simp
            rw [e0] at h1
            exact .inr h1
          · exact Ho7.out gp _ ((hb6.block gp (Array.getElem?_eq_some_iff.1 hp5.out).1).trans hp5.out) (fun e => by have := hn4.out; injection e with e; omega) (fun c fz e => by injection e with _ e2; exact absurd e2 (by decide))
          · exact hE6.mono' (Hb7.out.mono (by have h1 := hE.big; have h2 := hn4.out; omega))
        case measure => simp [intOf]; omega
    · obtain rfl : k = 20 := by omega
      go_wp2_with fail
      refine (Tryd.Builder_String_any_f gb gb (outP c 20) _ hBk.out (by have := hbk.size; have := hn4.out; omega)).mono ?_
      rintro e w5 ⟨rfl, hB5, hb5⟩
      have Hb5 := Lib.hid hb5
      clear hB5 hb5
      go_wp2_with fail
      go_ret2
      refine ⟨rfl, ?_⟩
      obtain ⟨a1, a2, a3, a4, a5⟩ := hn4.out
      exact a2.trans ((hbk.mono (by omega)).trans (Hb5.out.mono (by omega)))
def printF (c : Conf) : ByteArray := if c.may then strOf (printP c) else ⟨#[]⟩
def printE (c : Conf) : Int := if c.may then 0 else 1
theorem print_any (c : Conf) (w : World) (hE : Env w) : Calls Tryd.prog 15 #[.agg (confA c)] w fun e w' => e = .returned (.tuple #[.string (printF c), .int .i64 (printE c)]) ∧ Below w.heap.size w w' := by
  unfold printF printE
  cases h : c.may
  · exact print_no c w h
  · exact print_yes c w hE h
end Go.Proofs.YtcppcobcdhnalaaDoor
