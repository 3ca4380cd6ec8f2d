/- Settings by lines, walked: what 'text.Parse' answers. -/
import Derived.Test.YtcppcobcdhnalaaDoorPartsWalk
import Derived.Test.YtcppcobcdhnalaaDoorConfWalk
import Derived.Test.YtcppcobcdhnalaaDoorSetLaw
import Derived.Test.YtcppcobcdhnalaaDoorStructLaw
import Derived.Test.YtcppcobcdhnalaaDoorParsePure
import Derived.Deep.WholeRow
import Derived.Outline
namespace Go.Proofs.YtcppcobcdhnalaaDoor
open Go.RowKit Go.Proofs.YtcppcobcdhnalaaDoor.PT Go.Proofs.YtcppcobcdhnalaaDoorW.PrintWords
theorem infoConf : (Tryd.prog.info? 24).map (·.size) = some 20 := by kernel_rfl
theorem confA_size (c : Conf) : (confA c).size = 20 := rfl
theorem confA_one (c : Conf) : (confA c).all (·.oneCell') = true := by simp [confA, Value.oneCell']
theorem infoConfA (c : Conf) : (Tryd.prog.info? 24).map (·.size) = some (confA c).size := infoConf
set_option maxRecDepth 100000 in
set_option maxHeartbeats 4000000 in
theorem may_any (c : Conf) (w : World) : Calls Tryd.prog 27 #[.agg (confA c)] w fun e w' => e = .returned (.bool c.may) ∧ Below w.heap.size w w' := by
  have HW := Lib.hid (wrong_any c)
  have HI := Lib.hid (infoConfA c)
  go_enter Tryd.func27, Tryd.ntmps27
  go_wp2_with (first | (refine sl_box rfl 24 _ rfl (confA c) rfl ?_; intro g w1 hg hblk hb hsz) | (refine sl_load (by rfl) 24 _ (by rfl) g (by rfl) 24 (confA c) (0, 0) _ hblk.out Tryd.underlying24 rfl HI.out ?_))
  refine (HW.out _).mono ?_
  rintro e w2 ⟨s, rfl, hs, hb2⟩
  have HS := Lib.hid hs
  clear hs
  go_wp2_with fail
  go_ret
  refine ⟨by rw [← HS.out]; rfl, ?_⟩
  have h1 := hg.out
  have h2 := hsz.out
  subst h1
  exact hb.trans (hb2.mono (by omega))
theorem zeroConf : (Tryd.prog.info? 24).map (fun i => (i.zero, i.size)) = some (some (.agg (confA ⟨0, 0, 0, 0, 0, 0, 0, 0, 0, 0, 0, 0, 0, 0, 0, 0, 0, 0, 0, 0⟩)), 20) := by kernel_rfl
def conf0 : Conf := ⟨0, 0, 0, 0, 0, 0, 0, 0, 0, 0, 0, 0, 0, 0, 0, 0, 0, 0, 0, 0⟩
theorem run_zeroConf : ∀ w, (zeroValue 24).run Tryd.prog w = .ok (.agg (confA conf0)) w := (zero_of_info zeroConf).1
def strV (l : List ByteArray) : Array Value := (l.map Value.string).toArray
theorem cell_ptr (b : Nat) (w : World) (g : Nat) (hb : w.heap[g]? = some (.cells (ptrCells b) 51 (0, 0))) (k : Nat) (hk : k < 20) :
    w.cell? ⟨g, k * 2, none⟩ = some (.string (strOf (nameOf k))) ∧ w.cell? ⟨g, k * 2 + 1, none⟩ = some (ptrAt b k) := by
  simp only [World.cell?, hb]
  match k, hk with
  | 0, _ => exact ⟨rfl, rfl⟩
  | 1, _ => exact ⟨rfl, rfl⟩
  | 2, _ => exact ⟨rfl, rfl⟩
  | 3, _ => exact ⟨rfl, rfl⟩
  | 4, _ => exact ⟨rfl, rfl⟩
  | 5, _ => exact ⟨rfl, rfl⟩
  | 6, _ => exact ⟨rfl, rfl⟩
  | 7, _ => exact ⟨rfl, rfl⟩
  | 8, _ => exact ⟨rfl, rfl⟩
  | 9, _ => exact ⟨rfl, rfl⟩
  | 10, _ => exact ⟨rfl, rfl⟩
  | 11, _ => exact ⟨rfl, rfl⟩
  | 12, _ => exact ⟨rfl, rfl⟩
  | 13, _ => exact ⟨rfl, rfl⟩
  | 14, _ => exact ⟨rfl, rfl⟩
  | 15, _ => exact ⟨rfl, rfl⟩
  | 16, _ => exact ⟨rfl, rfl⟩
  | 17, _ => exact ⟨rfl, rfl⟩
  | 18, _ => exact ⟨rfl, rfl⟩
  | 19, _ => exact ⟨rfl, rfl⟩
  | n + 20, h => omega
theorem confA_get (d : Conf) (k : Nat) (hk : k < 20) : (confA d)[k]? = some (.int .i64 (d.at_ k)) := by
  match k, hk with
  | 0, _ => rfl
  | 1, _ => rfl
  | 2, _ => rfl
  | 3, _ => rfl
  | 4, _ => rfl
  | 5, _ => rfl
  | 6, _ => rfl
  | 7, _ => rfl
  | 8, _ => rfl
  | 9, _ => rfl
  | 10, _ => rfl
  | 11, _ => rfl
  | 12, _ => rfl
  | 13, _ => rfl
  | 14, _ => rfl
  | 15, _ => rfl
  | 16, _ => rfl
  | 17, _ => rfl
  | 18, _ => rfl
  | 19, _ => rfl
  | n + 20, h => omega
theorem confA_put (d : Conf) (k : Nat) (hk : k < 20) (n : Int) : (confA d).setIfInBounds k (.int .i64 n) = confA (d.put k n) := by
  match k, hk with
  | 0, _ => rfl
  | 1, _ => rfl
  | 2, _ => rfl
  | 3, _ => rfl
  | 4, _ => rfl
  | 5, _ => rfl
  | 6, _ => rfl
  | 7, _ => rfl
  | 8, _ => rfl
  | 9, _ => rfl
  | 10, _ => rfl
  | 11, _ => rfl
  | 12, _ => rfl
  | 13, _ => rfl
  | 14, _ => rfl
  | 15, _ => rfl
  | 16, _ => rfl
  | 17, _ => rfl
  | 18, _ => rfl
  | 19, _ => rfl
  | m + 20, h => omega
theorem Env.mono' {w w' : World} (h : Env w) (hb2 : Below 8 w w') : Env w' := by
  obtain ⟨⟨m, h1⟩, h2, h3⟩ := h
  exact ⟨⟨m, (hb2.cell (p := ⟨0, 0, none⟩) (by show 0 < 8; omega)).trans h1⟩, var?_below (g := 1) hb2 (by kernel_rfl) (by omega) h2, by have := hb2.size; omega⟩
theorem Env.but {x y : Nat} {w w' : World} (h : Env w) (hb : But2 x y w w') (hx : 8 ≤ x) (hy : 8 ≤ y) : Env w' :=
  h.mono' ⟨hb.os, hb.tape, hb.output, hb.size, fun k hk => hb.block k (by have := h.2.2; omega) (by omega) (by omega)⟩
theorem Env.big {w : World} (h : Env w) : 8 ≤ w.heap.size := h.2.2
theorem strV_get (l : List ByteArray) (k : Nat) (h : k < l.length) : (strV l)[k]? = some (.string l[k]) := by
  unfold strV
  simp [h]
theorem split_any (s : ByteArray) (w : World) (hE : Env w) (hs : small s) : Calls Tryd.prog 22 #[.string s, .string ⟨#[10]⟩] w fun e w' =>
    ∃ g, Hid (g = w.heap.size) ∧ e = .returned (.slice (some ⟨g, 0, none⟩) (linesB s).length (linesB s).length) ∧ Hid (w'.heap[g]? = some (.cells (strV (linesB s)) 9 (0, 0))) ∧ Below g w w' ∧ Hid (w'.heap.size = g + 1) := by
  obtain ⟨⟨m, hm⟩, _, _⟩ := hE
  refine (Tryd.strings_Split s ⟨#[10]⟩ m w hs hm (by decide)).mono ?_
  rintro e w' ⟨rfl, rfl⟩
  rw [linesB_length]
  exact ⟨_, rfl, rfl, heap_alloc_new w _, (Below.refl _ _).alloc (Nat.le_refl _) _, by show (w.heap.push _).size = _; simp⟩
set_option maxRecDepth 100000 in
set_option maxHeartbeats 4000000 in
theorem parse_any (c : Conf) (s : ByteArray) (w : World) (hE : Env w) (hs : small s) : Calls Tryd.prog 10 #[.agg (confA c), .string s] w fun e w' =>
    e = .returned (.tuple #[.agg (confA (parseP c (bsOf s)).1), .int .i64 (parseP c (bsOf s)).2.1, .int .i64 (parseP c (bsOf s)).2.2]) ∧ Below w.heap.size w w' := by
  have HI := Lib.hid infoConfA
  have HZ := Lib.hid run_zeroConf
  have hmm := @run_makeMap Tryd.prog
  go_enter Tryd.func10, Tryd.ntmps10
  go_wp2_with (first
    | ((with_reducible refine at_dst (N := 2) rfl ?_); refine sl_box rfl 24 _ rfl (confA c) rfl ?_; intro g2 w2 hg2 hb2 hbel2 hsz2)
    | ((with_reducible refine at_dst (N := 4) rfl ?_); refine sl_alloc rfl 24 rfl (confA conf0) HZ.out ?_; intro g4 w4 hg4 hb4 hbel4 hsz4; have hc2 := Lib.hid ((hbel4.block g2 (by have := hsz2.out; have := hg4.out; omega)).trans hb2.out))
    | ((with_reducible refine at_dst (N := 17) rfl ?_); refine sl_load (by rfl) 24 _ (by rfl) g2 (by rfl) 24 (confA c) (0, 0) _ hc2.out Tryd.underlying24 rfl (HI.out c) ?_)
    | ((with_reducible refine at_dst (N := 18) rfl ?_); refine sl_makeMap rfl 42 rfl ?_; intro gm wm hgm hset hbelm hszm)
    | ((with_reducible refine at_dst (N := 7) rfl ?_); refine sl_alloc rfl 24 rfl (confA conf0) HZ.out ?_; intro g7 w7 hg7 hb7 hbel7 hsz7)
    | ((with_reducible refine at_store (T := 24) rfl ?_); refine sl_store (by rfl) 24 _ _ (by rfl) g7 (confA c) (by rfl) (by rfl) 24 (confA conf0) hb7.out (HI.out c) rfl (confA_one c) ?_; intro w8 hb8 hon8))
  have hE8 : Env w8 := by
    have e2 := hE.step (by have := hg2.out; rw [this] at hbel2; exact hbel2)
    have e4 := e2.step (by have := hg4.out; rw [this] at hbel4; exact hbel4)
    have em := e4.step (by have := hgm.out; rw [this] at hbelm; exact hbelm)
    have e7 := em.step (by have := hg7.out; rw [this] at hbel7; exact hbel7)
    have h7 := em.big
    have := hg7.out
    exact e7.mono' (hon8.below (Below.refl 8 _) (by omega))
  have hnum : Hid (g2 = w.heap.size ∧ g4 = g2 + 1 ∧ gm = g2 + 2 ∧ g7 = g2 + 3 ∧ w8.heap.size = g2 + 4) := by
    have a1 := hg2.out; have a2 := hsz2.out; have a3 := hg4.out; have a4 := hsz4.out; have a5 := hgm.out; have a6 := hszm.out; have a7 := hg7.out; have a8 := hsz7.out; have a9 := hon8.2.2.2.1
    exact ⟨a1, by omega, by omega, by omega, by omega⟩
  have hbel8 : Below g2 w w8 := by
    obtain ⟨a1, a2, a3, a4, a5⟩ := hnum.out
    exact hon8.below (hbel2.trans ((hbel4.mono (by omega)).trans ((hbelm.mono (by omega)).trans (hbel7.mono (by omega))))) (by omega)
  have hset8 : SetIs w8 gm [] := by
    obtain ⟨a1, a2, a3, a4, a5⟩ := hnum.out
    exact (hset.of_heap (hbel7.block gm (by omega))).of_heap (hon8.2.2.2.2 gm (by omega))
  have hc8 : Hid (w8.heap[g2]? = some (.cells (confA c) 24 (0, 0))) := by
    obtain ⟨a1, a2, a3, a4, a5⟩ := hnum.out
    exact (hon8.2.2.2.2 g2 (by omega)).trans ((hbel7.block g2 (by omega)).trans ((hbelm.block g2 (by omega)).trans hc2.out))
  have h48 : Hid (w8.heap[g4]? = some (.cells (confA conf0) 24 (0, 0))) := by
    obtain ⟨a1, a2, a3, a4, a5⟩ := hnum.out
    exact (hon8.2.2.2.2 g4 (by omega)).trans ((hbel7.block g4 (by omega)).trans ((hbelm.block g4 (by omega)).trans hb4.out))
  clear hg2 hb2 hbel2 hsz2 hg4 hb4 hbel4 hsz4 hc2 hgm hset hbelm hszm hg7 hb7 hbel7 hsz7 hon8
  refine (split_any s _ hE8 hs).mono ?_
  rintro e w9 ⟨gs, hgs, rfl, hblks, hbel9, hsz9⟩
  have hlen : (linesB s).length ≤ 4294967282 := by
    have h1 := congrArg List.length (linesB_data s)
    rw [List.length_map] at h1
    have h2 := linesOf_len (bsOf s)
    have h3 := hs
    unfold small at h3
    rw [size_bs] at h3
    omega
  have hatl := Lib.hid (line_at s)
  have hsml := Lib.hid (small_line s hs)
  have hnl := Lib.hid (congrArg List.length (linesB_data s))
  generalize linesB s = L at *
  have hE9 : Env w9 := hE8.step (by have := hgs.out; rw [this] at hbel9; exact hbel9)
  have hs9 : SetIs w9 gm [] := by
    obtain ⟨a1, a2, a3, a4, a5⟩ := hnum.out
    have := hgs.out
    exact hset8.of_heap (hbel9.block gm (by omega))
  have hx9 : Hid (w9.heap[g7]? = some (.cells (confA c) 24 (0, 0))) := by
    obtain ⟨a1, a2, a3, a4, a5⟩ := hnum.out
    have := hgs.out
    exact (hbel9.block g7 (by omega)).trans hb8.out
  have hc9 : Hid (w9.heap[g2]? = some (.cells (confA c) 24 (0, 0))) := by
    obtain ⟨a1, a2, a3, a4, a5⟩ := hnum.out
    have := hgs.out
    exact (hbel9.block g2 (by omega)).trans hc8.out
  have h49 : Hid (w9.heap[g4]? = some (.cells (confA conf0) 24 (0, 0))) := by
    obtain ⟨a1, a2, a3, a4, a5⟩ := hnum.out
    have := hgs.out
    exact (hbel9.block g4 (by omega)).trans h48.out
  have hn9 : Hid (gs = g2 + 4 ∧ w9.heap.size = g2 + 5 ∧ Below g2 w w9) := by
    obtain ⟨a1, a2, a3, a4, a5⟩ := hnum.out
    have h1 := hgs.out
    have h2 := hsz9.out
    exact ⟨by omega, by omega, hbel8.trans (hbel9.mono (by omega))⟩
  clear hE8 hset8 hb8 hc8 h48 hgs hsz9 hbel9 hbel8
  go_wp2_with fail
  go_loopw [22] (fun i wr => ∃ (k : Nat) (d : Conf) (seen : List Nat), k ≤ L.length ∧ i = .int .i64 k ∧ Hid (runP (c, []) 0 (linesOf (bsOf s)) = runP (d, seen) k ((linesOf (bsOf s)).drop k)) ∧ Hid (∀ j ∈ seen, j < 20) ∧ Hid (wr.heap[g7]? = some (.cells (confA d) 24 (0, 0))) ∧ SetIs wr gm (namesS seen) ∧ But2 g7 gm w9 wr ∧ Env wr) (fun i _ => L.length - (intOf i).toNat)
  case atStart => exact ⟨0, c, [], Nat.zero_le _, rfl, rfl, (by show ∀ j ∈ ([] : List Nat), j < 20; simp), hx9, hs9, But2.refl _ _ _, hE9⟩
  case round =>
    clear hE9 hs9 hx9
    obtain ⟨k, d, seen, hk, rfl, hrun, hseen, hx, hset2, hbut, hEr⟩ := hrel
    by_cases hlt : k < L.length
    · have hline : wr.cell? ⟨gs, k, none⟩ = some (.string L[k]) := by
        obtain ⟨a1, a2, a3, a4, a5⟩ := hnum.out
        obtain ⟨b1, b2, _⟩ := hn9.out
        have := (hbut.block gs (by omega) (by omega) (by omega)).trans hblks.out
        rw [cell_of_row wr gs k _ _ _ this, strV_get L k hlt]
      have hLN := Lib.hid (hatl.out k hlt)
      have hsl := hsml.out k hlt
      generalize L[k] = l at *
      obtain ⟨tb, htb⟩ : ∃ tb, tb = strOf (Lib.trimB (bsOf l) 32) := ⟨_, rfl⟩
      have hid1 := idle_of htb
      have hst : small tb := by
        have := trim_len (bsOf l) 32
        unfold small at *
        rw [htb, size_str]
        rw [size_bs] at hsl
        omega
      have HT := Lib.hid htb
      have htr := Lib.hid (trim_given l hsl)
      rw [← htb] at htr
      clear htb
      have HI1 := Lib.hid hid1
      clear hid1
      go_wp2_with fail
      refine (strings_Trim.calls l ⟨#[32]⟩ tb _ htr.out).mono ?_
      rintro e w10 ⟨rfl, hbel10⟩
      have hE10 := hEr.step hbel10
      have hx10 : Hid (w10.heap[g7]? = some (.cells (confA d) 24 (0, 0))) := (hbel10.block g7 (Array.getElem?_eq_some_iff.1 hx.out).1).trans hx.out
      have hset10 : SetIs w10 gm (namesS seen) := by
        obtain ⟨es, cl, h1, h2⟩ := hset2
        exact ⟨es, cl, (hbel10.block gm (Array.getElem?_eq_some_iff.1 h1).1).trans h1, h2⟩
      have hbut10 := hbut.trans (But2.of_below (x := g7) (y := gm) hbel10)
      clear hset2 hbut hEr hbel10 hx hline
      by_cases h1 : tb.toList.isEmpty = true
      · go_wp2_with fail
        go_roundw
        case rel =>
          have hi : idle (Lib.trimB (bsOf l) 32) = true := HI1.out.1 h1
          exact ⟨k + 1, d, seen, by omega, by simp, run_next hrun.out hLN.out (step_idle d seen _ _ rfl hi), hseen, hx10, hset10, hbut10, hE10⟩
        case measure => simp [intOf]; omega
      · replace h1 : tb.toList.isEmpty = false := by simpa using h1
        have hpos := HI1.out.2 h1
        have q5 : (0 < tb.size) = True := eq_true hpos
        have hx5 : ∀ h : 0 < tb.size, ((tb[0]'h).toNat : Int) = bt tb 0 := bt_at tb 0
        have qi5 : (0 < (tb.size : Int)) = True := eq_true (by omega)
        by_cases h2 : bt tb 0 = 35
        · have hi : Hid (idle (Lib.trimB (bsOf l) 32) = true) := idle_35 HT.out hpos h2
          have h2b : (bt tb 0 == 35) = true := by simpa using h2
          clear h2 hpos
          go_wp2_with fail
          go_roundw
          case rel => exact ⟨k + 1, d, seen, by omega, by simp, run_next hrun.out hLN.out (step_idle d seen _ _ rfl hi.out), hseen, hx10, hset10, hbut10, hE10⟩
          case measure => simp [intOf]; omega
        · have hi : Hid (idle (Lib.trimB (bsOf l) 32) = false) := not_idle HT.out hpos h2
          have h2b : (bt tb 0 == 35) = false := by simpa using h2
          clear h2 hpos
          have hstep := Lib.hid (step_parts d seen _ (bsOf l) rfl hi.out)
          have hbt : bsOf tb = Lib.trimB (bsOf l) 32 := by rw [HT.out, bs_str]
          rw [← hbt] at hstep
          clear hbt
          have hcg := Lib.hid (cut_given tb hst)
          obtain ⟨nm, hnm⟩ : ∃ nm, nm = (cut2 58 32 (bsOf tb)).1 := ⟨_, rfl⟩
          obtain ⟨v, hv⟩ : ∃ v, v = (cut2 58 32 (bsOf tb)).2.1 := ⟨_, rfl⟩
          have hsv : small (strOf v) := by
            have := cut2_len 58 32 (bsOf tb)
            unfold small at *
            rw [size_bs] at hst
            rw [hv, size_str]
            omega
          rw [← hnm, ← hv] at hstep hcg
          generalize (cut2 58 32 (bsOf tb)).2.2 = ff at hcg
          clear hnm hv
          go_wp2_with fail
          refine (strings_Cut.calls tb ⟨#[58, 32]⟩ _ _ _ _ hE10 hcg.out).mono ?_
          rintro e w11 ⟨rfl, hbel11⟩
          clear h2b qi5 hx5 q5 h1
          have hE11 := hE10.step hbel11
          have hx11 : Hid (w11.heap[g7]? = some (.cells (confA d) 24 (0, 0))) := (hbel11.block g7 (Array.getElem?_eq_some_iff.1 hx10.out).1).trans hx10.out
          have hset11 : SetIs w11 gm (namesS seen) := by
            obtain ⟨es, cl, h1, h2⟩ := hset10
            exact ⟨es, cl, (hbel11.block gm (Array.getElem?_eq_some_iff.1 h1).1).trans h1, h2⟩
          have hbut11 := hbut10.trans (But2.of_below (x := g7) (y := gm) hbel11)
          clear hset10 hbut10 hE10 hbel11 hx10
          go_wp2_with fail
          refine (parts_any g7 w11).mono ?_
          rintro e w12 ⟨rfl, hp12, hbel12⟩
          have hE12 := hE11.step hbel12
          have hx12 : Hid (w12.heap[g7]? = some (.cells (confA d) 24 (0, 0))) := (hbel12.block g7 (Array.getElem?_eq_some_iff.1 hx11.out).1).trans hx11.out
          have hset12 : SetIs w12 gm (namesS seen) := by
            obtain ⟨es, cl, h1, h2⟩ := hset11
            exact ⟨es, cl, (hbel12.block gm (Array.getElem?_eq_some_iff.1 h1).1).trans h1, h2⟩
          have hbut12 := hbut11.trans (But2.of_below (x := g7) (y := gm) hbel12)
          obtain ⟨gp, hgp⟩ : ∃ gp, gp = w11.heap.size := ⟨_, rfl⟩
          rw [← hgp] at hp12 ⊢
          have hgpn : Hid (gp ≠ g7 ∧ gp ≠ gm) := by
            obtain ⟨a1, a2, a3, a4, a5⟩ := hnum.out
            obtain ⟨b1, b2, _⟩ := hn9.out
            have := hbut11.size
            exact ⟨by omega, by omega⟩
          have HP12 := Lib.hid hp12
          clear hset11 hbut11 hE11 hbel12 hx11 hp12 hgp
          go_wp2_with fail
          go_loopw [44, 14] (fun i g wq => ∃ j : Nat, j ≤ 20 ∧ i = .int .i64 j ∧ g = .bool (goodP seen nm v j) ∧ Hid (wq.heap[g7]? = some (.cells (confA (confP d seen nm v j)) 24 (0, 0))) ∧ SetIs wq gm (namesS seen) ∧ But2 g7 gm w12 wq ∧ Env wq) (fun i _ _ => 20 - (intOf i).toNat)
          case atStart =>
            refine ⟨0, Nat.zero_le _, rfl, ?_, ?_, hset12, But2.refl _ _ _, hE12⟩
            · rw [goodP_zero]
            · rw [confP_zero]; exact hx12
          case round =>
            obtain ⟨j, hj, rfl, rfl, hxq, hsetq, hbutq, hEq⟩ := hrel
            by_cases hltj : j < 20
            · have hpj : wr.heap[gp]? = some (.cells (ptrCells g7) 51 (0, 0)) := (hbutq.block gp (Array.getElem?_eq_some_iff.1 HP12.out).1 hgpn.out.1 hgpn.out.2).trans HP12.out
              obtain ⟨hn0, hn1'⟩ := cell_ptr g7 wr gp hpj j hltj
              have hn1 : wr.cell? ⟨gp, j * 2 + 1, none⟩ = some (.iface (ptrTy j) (.pointer (some ⟨g7, j, none⟩))) := hn1'
              clear hn1'
              have hlk : ∀ (b : Bool), (b = true ↔ strOf nm ∈ namesS seen) → ∀ o, (Instr.lookup 42 (.map (some gm)) (.string (strOf nm)) false).run Tryd.prog (wr.alloc o) = .ok (.bool b) (wr.alloc o) := fun b hb o =>
                run_lookup_set (kt := 9) (et := 4) Tryd.underlying42 Tryd.underlying9 (Tryd.zeroValue4 _) (hsetq.of_heap (Below.heap_alloc _ _ _ (by obtain ⟨es, cl, h1, _⟩ := hsetq; exact (Array.getElem?_eq_some_iff.1 h1).1))) (strOf nm) b hb
              have hlkH := Lib.hid hlk
              clear hlk hpj
              have hg7 := (Array.getElem?_eq_some_iff.1 hxq.out).1
              by_cases hname : nameOf j = nm
              · by_cases hsn : seen.contains j = true
                · have hmiss : Hid (hitP seen nm ≠ some j) := by
                    show hitP seen nm ≠ some j
                    intro e
                    rw [(hitP_at hltj e).2] at hsn
                    cases hsn
                  have hcmp : ((strOf (nameOf j)).toList == (strOf nm).toList) = true := by rw [hname]; simp
                  have hl1 := hlkH.out true (by rw [← hname]; exact ⟨fun _ => (mem_namesS hseen.out hltj).1 hsn, fun _ => rfl⟩)
                  have Hname := Lib.hid hname
                  clear hname hsn
                  go_wp2_with fail
                  go_roundw
                  case rel =>
                    refine ⟨j + 1, by omega, by simp, by rw [goodP_miss hmiss.out], ?_, ?_, ?_, ?_⟩
                    · rw [confP_miss hmiss.out]
                      exact (Below.heap_alloc _ _ _ hg7).trans hxq.out
                    · exact hsetq.of_heap (Below.heap_alloc _ _ _ (by obtain ⟨es, cl, h1, _⟩ := hsetq; exact (Array.getElem?_eq_some_iff.1 h1).1))
                    · exact hbutq.trans (But2.of_below ((Below.refl _ _).alloc (Nat.le_refl _) _))
                    · exact hEq.step ((Below.refl _ _).alloc (Nat.le_refl _) _)
                  case measure => simp [intOf]; omega
                · have hsn' : seen.contains j = false := by simpa using hsn
                  have hhit := Lib.hid (hitP_of hltj hname hsn')
                  have hcmp : ((strOf (nameOf j)).toList == (strOf nm).toList) = true := by rw [hname]; simp
                  have hl1 := hlkH.out false (by rw [← hname]; exact ⟨fun h => Bool.noConfusion h, fun h => by rw [(mem_namesS hseen.out hltj).2 h] at hsn'; exact Bool.noConfusion hsn'⟩)
                  have Hname := Lib.hid hname
                  clear hname hsn hsn'
                  go_wp2_with fail
                  have hd := confP_hit (d := d) (v := v) hhit.out
                  have hxa : (wr.alloc (.cells #[.string (strOf (nameOf j)), .iface (ptrTy j) (.pointer (some ⟨g7, j, none⟩))] 51)).heap[g7]? = some (.cells (confA d) 24 (0, 0)) := by
                    rw [Below.heap_alloc _ _ _ hg7, hxq.out, hd.1]
                  refine (set_any (strOf (nameOf j)) (strOf v) g7 j (d.at_ j) _ (hEq.step ((Below.refl _ _).alloc (Nat.le_refl _) _)) hsv (by rw [cell_of_row _ _ _ _ _ _ hxa, confA_get d j hltj]) (frozen_of_row _ _ _ _ _ hxa) (Array.getElem?_eq_some_iff.1 hxa).1).mono ?_
                  rintro e wz ⟨rfl, hput⟩
                  rw [bs_str] at hput
                  rw [bs_str]
                  have hgood := Lib.hid (goodP_hit (v := v) hhit.out)
                  have hrest : Hid (Hid (wz.heap[g7]? = some (.cells (confA (confP d seen nm v (j + 1))) 24 (0, 0))) ∧ SetIs wz gm (namesS seen) ∧ But2 g7 gm w12 wz ∧ Env wz) := by
                    obtain ⟨wy, hby, hwz⟩ := hput
                    have hb0 : Below wr.heap.size wr wy := ((Below.refl _ _).alloc (Nat.le_refl _) _).trans (hby.mono (by simp))
                    have hxy : wy.heap[g7]? = some (.cells (confA d) 24 (0, 0)) := (hb0.block g7 hg7).trans (by rw [hxq.out, hd.1])
                    have hsy : SetIs wy gm (namesS seen) := hsetq.of_heap (hb0.block gm (by obtain ⟨es, cl, h1, _⟩ := hsetq; exact (Array.getElem?_eq_some_iff.1 h1).1))
                    have hbuty := hbutq.trans (But2.of_below (x := g7) (y := gm) hb0)
                    have hEy := hEq.step hb0
                    show Hid (wz.heap[g7]? = _) ∧ _
                    rw [hd.2]
                    cases hr : readP j v with
                    | none =>
                      rw [hr] at hwz
                      simp only at hwz
                      subst hwz
                      exact ⟨hxy, hsy, hbuty, hEy⟩
                    | some n =>
                      rw [hr] at hwz
                      simp only at hwz
                      subst hwz
                      obtain ⟨a1, a2, a3, a4, a5⟩ := hnum.out
                      have hbig := hE.big
                      have hs2 : But2 g7 gm wy (wy.setCell ⟨g7, j, none⟩ (.int .i64 n)) := (But2.refl g7 gm wy).setCell ⟨g7, j, none⟩ (.inl rfl) _
                      refine ⟨?_, hsy.of_heap (heap_setCell_other _ _ _ _ (by show gm ≠ g7; omega)), hbuty.trans hs2, hEy.but hs2 (by omega) (by omega)⟩
                      show (wy.setCell ⟨g7, j, none⟩ (.int .i64 n)).heap[g7]? = _
                      rw [heap_setCell_same _ _ _ _ _ _ hxy, confA_put d j hltj n]
                  clear hput hxa hd
                  go_wp2_with fail
                  go_roundw
                  case rel => exact ⟨j + 1, by omega, by simp, by rw [hgood.out], hrest.out⟩
                  case measure => simp [intOf]; omega
              · have hmiss : Hid (hitP seen nm ≠ some j) := by
                  show hitP seen nm ≠ some j
                  exact fun e => hname (hitP_at hltj e).1
                have hcmp : ((strOf (nameOf j)).toList == (strOf nm).toList) = false := by
                  rw [beq_eq_false_iff_ne, toList_bs, toList_bs, bs_str, bs_str]
                  exact hname
                clear hname
                go_wp2_with fail
                go_roundw
                case rel =>
                  refine ⟨j + 1, by omega, by simp, by rw [goodP_miss hmiss.out], ?_, ?_, ?_, ?_⟩
                  · rw [confP_miss hmiss.out]
                    exact (Below.heap_alloc _ _ _ hg7).trans hxq.out
                  · exact hsetq.of_heap (Below.heap_alloc _ _ _ (by obtain ⟨es, cl, h1, _⟩ := hsetq; exact (Array.getElem?_eq_some_iff.1 h1).1))
                  · exact hbutq.trans (But2.of_below ((Below.refl _ _).alloc (Nat.le_refl _) _))
                  · exact hEq.step ((Below.refl _ _).alloc (Nat.le_refl _) _)
                case measure => simp [intOf]; omega
            · obtain rfl : j = 20 := by omega
              obtain ⟨om, hmu, hsetn⟩ := run_mapUpdate_set (mty := 42) (kt := 9) (et := 4) Tryd.underlying42 Tryd.underlying9 hsetq (strOf nm)
              obtain ⟨wm, hwm⟩ : ∃ wm, wm = { wr with heap := wr.heap.setIfInBounds gm om } := ⟨_, rfl⟩
              rw [← hwm] at hmu hsetn
              have hmm2 : Hid (Hid (wm.heap[g7]? = some (.cells (confA (confP d seen nm v 20)) 24 (0, 0))) ∧ But2 g7 gm w12 wm ∧ Env wm) := by
                obtain ⟨a1, a2, a3, a4, a5⟩ := hnum.out
                have hbig := hE.big
                have hs2 : But2 g7 gm wr wm := by
                  subst hwm
                  exact ⟨rfl, rfl, rfl, by simp, fun q hq h1 h2 => by simp only [Array.getElem?_setIfInBounds]; rw [if_neg (fun e => h2 e.symm)]⟩
                refine ⟨?_, hbutq.trans hs2, hEq.but hs2 (by omega) (by omega)⟩
                show wm.heap[g7]? = _
                rw [← hxq.out, hwm]
                simp only [Array.getElem?_setIfInBounds]
                rw [if_neg (by omega)]
              clear hwm
              by_cases hg : goodP seen nm v 20 = true
              · have HG := Lib.hid hg
                rw [hg]
                clear hg
                go_wp2_with fail
                go_roundw
                case rel =>
                  have h1 := hstep.out
                  rw [if_pos HG.out] at h1
                  obtain ⟨p1, p2, p3⟩ := hmm2.out
                  have hpart : ∃ q, partOf nm = some q ∧ q < 20 := by
                    have h2 := HG.out
                    unfold goodP hitP at h2
                    cases hq : partOf nm with
                    | none => rw [hq] at h2; simp at h2
                    | some q => exact ⟨q, rfl, (partOf_lt hq).1⟩
                  obtain ⟨q, hq, hq20⟩ := hpart
                  rw [hq] at h1
                  refine ⟨k + 1, confP d seen nm v 20, q :: seen, by omega, by simp, run_next hrun.out hLN.out h1, ?_, p1, ?_, hbut12.trans p2, p3⟩
                  · show ∀ j ∈ q :: seen, j < 20
                    intro j hj
                    rcases List.mem_cons.1 hj with rfl | hj
                    · exact hq20
                    · exact hseen.out j hj
                  · have : namesS (q :: seen) = strOf nm :: namesS seen := by
                      unfold namesS
                      rw [List.map_cons, (partOf_lt hq).2]
                    rw [this]
                    exact hsetn
                case measure => simp [intOf]; omega
              · replace hg : goodP seen nm v 20 = false := by simpa using hg
                have HG := Lib.hid hg
                rw [hg]
                clear hg
                have hcm : Hid (wm.heap[g2]? = some (.cells (confA c) 24 (0, 0)) ∧ wm.heap[g4]? = some (.cells (confA conf0) 24 (0, 0)) ∧ Below w.heap.size w wm ∧ w.heap.size ≤ g4) := by
                  obtain ⟨p1, p2, p3⟩ := hmm2.out
                  obtain ⟨a1, a2, a3, a4, a5⟩ := hnum.out
                  obtain ⟨b1, b2, b3⟩ := hn9.out
                  have hb := hbut12.trans p2
                  refine ⟨(hb.block g2 (by omega) (by omega) (by omega)).trans hc9.out, (hb.block g4 (by omega) (by omega) (by omega)).trans h49.out, hb.below (b3.mono (by omega)) (by omega) (by omega) (by omega), by omega⟩
                go_wp2_with (first
                  | ((with_reducible refine at_dst (N := 66) rfl ?_); refine sl_load (by rfl) 24 _ (by rfl) g2 (by rfl) 24 (confA c) (0, 0) _ hcm.out.1 Tryd.underlying24 rfl (HI.out c) ?_)
                  | ((with_reducible refine at_store (T := 24) rfl ?_); refine sl_store (by rfl) 24 _ _ (by rfl) g4 (confA c) (by rfl) (by rfl) 24 (confA conf0) hcm.out.2.1 (HI.out c) rfl (confA_one c) ?_; intro wz hz hon))
                have hfin := run_stop hrun.out hLN.out (by rw [hstep.out, if_neg (by rw [HG.out]; exact Bool.false_ne_true)])
                have hfin2 : parseP c (bsOf s) = (c, 4, ((k + 1 : Nat) : Int)) := by
                  unfold parseP
                  rw [hfin]
                rw [hfin2]
                refine bodyPost_ret (v := .tuple #[.agg (confA c), .int .i64 4, .int .i64 ((k : Int) + 1)]) ?_ rfl ⟨rfl, ?_⟩
                · exact results_cell_two (p := 4) (q := 5) (r := 6) (ty := 24) rfl _ wz g4 24 (confA c) (0, 0) _ _ _ rfl rfl rfl hz.out Tryd.underlying24 rfl (HI.out c)
                · exact hon.below hcm.out.2.2.1 hcm.out.2.2.2
    · obtain rfl : k = L.length := by omega
      have hdone : Hid (runP (c, []) 0 (linesOf (bsOf s)) = .inr d) := by
        have h1 := hrun.out
        have h2 := hnl.out
        rw [List.length_map] at h2
        rw [List.drop_of_length_le (by omega), runP] at h1
        exact h1
      have hcm : Hid (wr.heap[g2]? = some (.cells (confA c) 24 (0, 0)) ∧ wr.heap[g4]? = some (.cells (confA conf0) 24 (0, 0)) ∧ Below w.heap.size w wr ∧ w.heap.size ≤ g4 ∧ g4 < wr.heap.size ∧ g2 < wr.heap.size ∧ g7 < wr.heap.size) := by
        obtain ⟨a1, a2, a3, a4, a5⟩ := hnum.out
        obtain ⟨b1, b2, b3⟩ := hn9.out
        have := hbut.size
        refine ⟨(hbut.block g2 (by omega) (by omega) (by omega)).trans hc9.out, (hbut.block g4 (by omega) (by omega) (by omega)).trans h49.out, hbut.below (b3.mono (by omega)) (by omega) (by omega) (by omega), by omega, by omega, by omega, by omega⟩
      have HM := Lib.hid (may_any d)
      by_cases hmay : d.may = true
      · have hfin2 : Hid (parseP c (bsOf s) = (d, 0, 0)) := by
          show parseP c (bsOf s) = (d, 0, 0)
          unfold parseP
          rw [hdone.out]
          simp [hmay]
        go_wp2_with (first
          | ((with_reducible refine at_dst (N := 70) rfl ?_); refine sl_load (by rfl) 24 _ (by rfl) g7 (by rfl) 24 (confA d) (0, 0) _ hx.out Tryd.underlying24 rfl (HI.out d) ?_))
        refine (HM.out _).mono ?_
        rintro e wa ⟨rfl, hba⟩
        have hxa : Hid (wa.heap[g7]? = some (.cells (confA d) 24 (0, 0))) := (hba.block g7 hcm.out.2.2.2.2.2.2).trans hx.out
        have h4a : Hid (wa.heap[g4]? = some (.cells (confA conf0) 24 (0, 0))) := (hba.block g4 hcm.out.2.2.2.2.1).trans hcm.out.2.1
        go_wp2_with (first
          | ((with_reducible refine at_dst (N := 74) rfl ?_); refine sl_load (by rfl) 24 _ (by rfl) g7 (by rfl) 24 (confA d) (0, 0) _ hxa.out Tryd.underlying24 rfl (HI.out d) ?_)
          | ((with_reducible refine at_store (T := 24) rfl ?_); refine sl_store (by rfl) 24 _ _ (by rfl) g4 (confA d) (by rfl) (by rfl) 24 (confA conf0) h4a.out (HI.out d) rfl (confA_one d) ?_; intro wz hz hon))
        rw [hfin2.out]
        refine bodyPost_ret (v := .tuple #[.agg (confA d), .int .i64 0, .int .i64 0]) ?_ rfl ⟨rfl, ?_⟩
        · exact results_cell_two (p := 4) (q := 5) (r := 6) (ty := 24) rfl _ wz g4 24 (confA d) (0, 0) _ _ _ rfl rfl rfl hz.out Tryd.underlying24 rfl (HI.out d)
        · exact hon.below (hcm.out.2.2.1.trans (hba.mono hcm.out.2.2.1.size)) hcm.out.2.2.2.1
      · replace hmay : d.may = false := by simpa using hmay
        have hfin2 : Hid (parseP c (bsOf s) = (c, 5, 0)) := by
          show parseP c (bsOf s) = (c, 5, 0)
          unfold parseP
          rw [hdone.out]
          simp [hmay]
        go_wp2_with (first
          | ((with_reducible refine at_dst (N := 70) rfl ?_); refine sl_load (by rfl) 24 _ (by rfl) g7 (by rfl) 24 (confA d) (0, 0) _ hx.out Tryd.underlying24 rfl (HI.out d) ?_))
        refine (HM.out _).mono ?_
        rintro e wa ⟨rfl, hba⟩
        have hca : Hid (wa.heap[g2]? = some (.cells (confA c) 24 (0, 0))) := (hba.block g2 hcm.out.2.2.2.2.2.1).trans hcm.out.1
        have h4a : Hid (wa.heap[g4]? = some (.cells (confA conf0) 24 (0, 0))) := (hba.block g4 hcm.out.2.2.2.2.1).trans hcm.out.2.1
        go_wp2_with (first
          | ((with_reducible refine at_dst (N := 73) rfl ?_); refine sl_load (by rfl) 24 _ (by rfl) g2 (by rfl) 24 (confA c) (0, 0) _ hca.out Tryd.underlying24 rfl (HI.out c) ?_)
          | ((with_reducible refine at_store (T := 24) rfl ?_); refine sl_store (by rfl) 24 _ _ (by rfl) g4 (confA c) (by rfl) (by rfl) 24 (confA conf0) h4a.out (HI.out c) rfl (confA_one c) ?_; intro wz hz hon))
        rw [hfin2.out]
        refine bodyPost_ret (v := .tuple #[.agg (confA c), .int .i64 5, .int .i64 0]) ?_ rfl ⟨rfl, ?_⟩
        · exact results_cell_two (p := 4) (q := 5) (r := 6) (ty := 24) rfl _ wz g4 24 (confA c) (0, 0) _ _ _ rfl rfl rfl hz.out Tryd.underlying24 rfl (HI.out c)
        · exact hon.below (hcm.out.2.2.1.trans (hba.mono hcm.out.2.2.1.size)) hcm.out.2.2.2.1
end Go.Proofs.YtcppcobcdhnalaaDoor
