/- The subset, walked: what 'subset.Of' answers, and that the few of 'told' are as they are told, at every memory. -/
import Derived.Test.YtelfljdnpfmbbaaCmp
import Derived.Test.YtelfljdnpfmbbaaPure
import Derived.Test.YtelfljdnpfmbbaaShelf
import Derived.Sort.OwnSorted
import Derived.Outline
import Derived.Deep.QuietTactic
import Derived.BigQuiet
import Derived.Shelf.SlSortCmp.Insertion
import Derived.Sort.Statements
namespace Go.Proofs.Ytelfljdnpfmbbaa
open Go.RowKit Go.Sort Go.Shelf

section
variable {α : Type} [Inhabited α] (enc : α → Value)
theorem holds_block {w : World} {g : Nat} {cur : Array Value} {e : TypeId} {ss : List α} (hb : w.heap[g]? = some (.cells cur e (0, 0))) (ht : cur.toList.take ss.length = ss.map enc) : Holds enc w g 0 ss.toArray := by
  intro j hj
  have hj' : j < ss.length := by simpa using hj
  refine ⟨?_, by simp [World.frozen?, hb]⟩
  have h1 : (cur.toList.take ss.length)[j]? = (ss.map enc)[j]? := by rw [ht]
  rw [List.getElem?_take_of_lt hj'] at h1
  simp only [World.cell?, hb, Nat.zero_add]
  simp only [Option.isSome_none, Bool.false_eq_true, if_false]
  rw [← Array.getElem?_toList, h1]
  simp [hj']
theorem heap_sorted2 {w : World} {g n : Nat} {os : Array Obj} {cur : Array Value} {e : TypeId} {fr : Nat × Nat} (d : Array α) (hb : w.heap[g]? = some (.cells cur e fr)) :
    (grow (putRow enc (Sort.ahead w n) g 0 d) os).heap[g]? = some (.cells (putCells enc 0 d cur) e fr) := by
  have hg : g < w.heap.size := (Array.getElem?_eq_some_iff.1 hb).1
  rw [heap_grow_old _ _ (by simpa using hg)]
  simp [putRow, mapBlock, Sort.ahead, Array.getElem?_modify, hb, onCells]
theorem grownBy_sorted2 {w : World} {g n : Nat} {os : Array Obj} (d : Array α) : w.grownBy (grow (putRow enc (Sort.ahead w n) g 0 d) os) (some g) := by
  refine ⟨rfl, rfl, rfl, by simp, fun k hk hne => ?_⟩
  rw [heap_grow_old _ _ (by simpa using hk)]
  have : g ≠ k := fun e => hne (by rw [e])
  simp [putRow, mapBlock, Sort.ahead, Array.getElem?_modify, this]
theorem take_putCells2 (cur : Array Value) (ts : List α) (h : ts.length ≤ cur.size) : (putCells enc 0 ts.toArray cur).toList.take ts.length = ts.map enc := by
  apply List.ext_getElem?
  intro j
  by_cases hj : j < ts.length
  · rw [List.getElem?_take_of_lt hj, Array.getElem?_toList]
    simp [putCells, hj, show j < cur.size by omega]
  · rw [List.getElem?_take_eq_none (by omega), List.getElem?_eq_none (by simp; omega)]
theorem ownsRow_sorted2 {w : World} {base g cap n : Nat} {e : TypeId} {os : Array Obj} {cur : Array Value} {ss ts : List α} (hl : ts.length = ss.length) (hbase : base ≤ g) (hb : w.heap[g]? = some (.cells cur e (0, 0)))
    (h1 : ss.length ≤ cap) (h2 : cap ≤ maxLen) (h3 : cur.size = cap * 1) :
    (grow (putRow enc (Sort.ahead w n) g 0 ts.toArray) os).ownsRow base e 1 (.slice (some ⟨g, 0, none⟩) ss.length cap) ss.length (ts.map enc) :=
  ⟨by simp [hl], .inr ⟨g, cap, _, rfl, hbase, heap_sorted2 enc _ hb, h1, h2, by simp [putCells, h3], by rw [Nat.mul_one, ← hl]; exact take_putCells2 enc cur ts (by omega)⟩⟩
end

theorem sort_any (enc : Nat → Value) (h1 : OneCell enc) (cf : Nat → Nat → Int) (hO : SWO (ltOf cf)) (hT : ∀ x y, (ltOf cf) x y = false → (ltOf cf) y x = false → x = y) (g : Nat) (eg : ∀ args w, (callFunc g args).run Try.prog w = .ok (.enter g args) w)
    (hc : ∀ (x y : Nat) (W : World), Calls Try.prog g #[enc x, enc y] W fun e w' => e = .returned (.int .i64 (cf x y)) ∧ ∃ q os', w' = grow (W.drewN q) os') (blk cap : Nat) (d : List Nat) (w : World)
    (hH : Holds enc w blk 0 d.toArray) (hblk : blk < w.heap.size) (hsz : d.length < 4611686018427387904) :
    Calls Try.prog 9 #[.slice (some ⟨blk, 0, none⟩) d.length cap, .func (.func g) #[] #[]] w fun e w' =>
      e = .returned (.tuple #[]) ∧ ∃ n os, w' = grow (putRow enc (Sort.ahead w n) blk 0 (d.mergeSort fun x y => !(ltOf cf) y x).toArray) os :=
  Any.slices_SortFunc_total Try.sortL enc h1 cf hO g #[] blk 0 cap d.toArray w eg (fun _ _ _ _ x y => hc x y _) hH hblk hsz hT

theorem sort_own (enc : Nat → Value) (cf : Nat → Nat → Int) (hO : SWO (ltOf cf)) (hT : ∀ x y, (ltOf cf) x y = false → (ltOf cf) y x = false → x = y) (g : Nat) (h1' : OneCell enc) (eg : ∀ args w, (callFunc g args).run Try.prog w = .ok (.enter g args) w)
    (hc : ∀ (x y : Nat) (W : World), Calls Try.prog g #[enc x, enc y] W fun e w' => e = .returned (.int .i64 (cf x y)) ∧ ∃ q os', w' = grow (W.drewN q) os') (base b cap n : Nat) (ss : List Nat) (w : World)
    (hn : ss.length = n) (hown : w.ownsRow base 20 1 (.slice (some ⟨b, 0, none⟩) n cap) n (ss.map enc)) (hsz : n < 4611686018427387904) :
    Calls Try.prog 9 #[.slice (some ⟨b, 0, none⟩) n cap, .func (.func g) #[] #[]] w fun e w' =>
      e = .returned (.tuple #[]) ∧ w'.ownsRow base 20 1 (.slice (some ⟨b, 0, none⟩) n cap) n ((ss.mergeSort fun x y => !(ltOf cf) y x).map enc) ∧ w.grownBy w' (some b) := by
  subst hn
  rcases hown.2 with ⟨hnil, _⟩ | ⟨g0, cap0, cur, hv, hbase, hb, h1, h2, h3, h4⟩
  · cases hnil
  · injection hv with e1 e2 e3
    injection e1 with e1
    injection e1 with e1
    subst e1 e3
    refine (sort_any enc h1' cf hO hT g eg hc b cap ss w (holds_block enc hb (by simpa using h4)) (Array.getElem?_eq_some_iff.1 hb).1 hsz).mono ?_
    rintro e w' ⟨rfl, k, os, rfl⟩
    exact ⟨rfl, ownsRow_sorted2 enc (by simp) hbase hb h1 h2 h3, grownBy_sorted2 enc _⟩
theorem ownsRow_take {w : World} {base g n cap m : Nat} {e : TypeId} {xs : List Value} (h : w.ownsRow base e 1 (.slice (some ⟨g, 0, none⟩) n cap) n xs) (hm : m ≤ n) : w.ownsRow base e 1 (.slice (some ⟨g, 0, none⟩) m cap) m (xs.take m) := by
  have hl := h.1
  rcases h.2 with ⟨hnil, _⟩ | ⟨g0, cap0, cur, hv, hbase, hb, h1, h2, h3, h4⟩
  · cases hnil
  · injection hv with e1 e2 e3
    injection e1 with e1
    injection e1 with e1
    subst e1 e3
    refine ⟨by simp; omega, .inr ⟨g, cap, cur, rfl, hbase, hb, by omega, h2, h3, ?_⟩⟩
    rw [← h4, List.take_take]
    congr 1
    omega
/-- A place, as it stands in the list that is sorted: its number and itself. -/
def encOf (ids : List Int) (k : Nat) : Value := .iface 31 (.agg #[.int .i64 (ids.getD k 0), .int .i64 k])

theorem info20 : (Try.prog.info? 20).map (fun i => (i.zero, i.size, i.bytes)) = some (some .nilIface, 1, 16) := by kernel_rfl
theorem info3 : (Try.prog.info? 3).map (fun i => (i.zero, i.size, i.bytes)) = some (some (.int .i64 0), 1, 8) := by kernel_rfl

theorem score_eq (x : Int) : scoreOf x = Pure.scoreOf x := by
  unfold scoreOf Pure.scoreOf Pure.u64
  rw [IntKind.wrap_u64, IntKind.wrap_u64]
theorem before_eq (i a j b : Int) : before i a j b = Pure.before i a j b := by
  unfold before Pure.before
  rw [score_eq, score_eq]
  rfl
theorem lt1_eq (ids : List Int) (x y : Nat) : (ltOf fun k l : Nat => before (ids.getD k 0) k (ids.getD l 0) l) x y = Pure.ltAt ids x y := by
  unfold ltOf Pure.ltAt
  show decide (before _ _ _ _ < 0) = _
  rw [before_eq]
theorem swo1 (ids : List Int) : SWO (ltOf fun k l : Nat => before (ids.getD k 0) k (ids.getD l 0) l) := by
  refine ⟨fun x => ?_, fun x y z h1 h2 => ?_, fun x y z h1 h2 => ?_⟩
  · rw [lt1_eq]; exact Pure.ltAt_irrefl ids x
  · rw [lt1_eq] at *; exact Pure.ltAt_trans ids x y z h1 h2
  · rw [lt1_eq] at *
    cases h : Pure.ltAt ids x z
    · rfl
    · by_cases e : x = y
      · subst e; rw [h] at h2; cases h2
      · rcases Pure.ltAt_total ids x y e with h3 | h3
        · rw [h3] at h1; cases h1
        · rw [Pure.ltAt_trans ids _ _ _ h3 h] at h2; cases h2
theorem tot1 (ids : List Int) (x y : Nat) (h1 : (ltOf fun k l : Nat => before (ids.getD k 0) k (ids.getD l 0) l) x y = false) (h2 : (ltOf fun k l : Nat => before (ids.getD k 0) k (ids.getD l 0) l) y x = false) : x = y := by
  rw [lt1_eq] at *
  rcases Nat.decEq x y with e | e
  · rcases Pure.ltAt_total ids x y e with h3 | h3
    · rw [h3] at h1; cases h1
    · rw [h3] at h2; cases h2
  · exact e
theorem ltcmp (x y : Nat) : (ltOf fun k l : Nat => cmpI k l) x y = decide (x < y) := by
  unfold ltOf cmpI
  rw [decide_eq_decide]
  dsimp only
  split <;> (try split) <;> omega
theorem swo2 : SWO (ltOf fun k l : Nat => cmpI k l) := by
  refine ⟨fun x => ?_, fun x y z h1 h2 => ?_, fun x y z h1 h2 => ?_⟩
  · rw [ltcmp]; simp
  · rw [ltcmp] at *; simp at *; omega
  · rw [ltcmp] at *; simp at *; omega
theorem tot2 (x y : Nat) (h1 : (ltOf fun k l : Nat => cmpI k l) x y = false) (h2 : (ltOf fun k l : Nat => cmpI k l) y x = false) : x = y := by
  rw [ltcmp] at *; simp at *; omega
def outL (ids : List Int) (l : List Nat) (j : Nat) : List Value := (l.take j).map fun k => Value.int .i64 (ids.getD k 0)
theorem outL_succ (ids : List Int) (l : List Nat) (j : Nat) (h : j < l.length) : outL ids l (j + 1) = outL ids l j ++ [Value.int .i64 (ids.getD (l.getD j 0) 0)] := by
  unfold outL
  rw [List.take_succ_eq_append_getElem h, List.map_append, List.map_singleton, show l.getD j 0 = l[j] from by rw [List.getD_eq_getElem?_getD, List.getElem?_eq_getElem h, Option.getD_some]]
theorem outL_all (ids : List Int) (l : List Nat) (j : Nat) (h : l.length ≤ j) : outL ids l j = l.map fun k => Value.int .i64 (ids.getD k 0) := by
  unfold outL
  rw [List.take_of_length_le h]
theorem ownsRow_base {w : World} {base base' : Nat} {e : TypeId} {size n : Nat} {v : Value} {xs : List Value} (h : w.ownsRow base e size v n xs) (hb : base' ≤ base) : w.ownsRow base' e size v n xs :=
  ⟨h.1, h.2.imp id fun ⟨g, cap, cur, h1, h2, h3⟩ => ⟨g, cap, cur, h1, Nat.le_trans hb h2, h3⟩⟩
set_option maxHeartbeats 2000000 in
theorem of_some (ids : List Int) (most : Nat) (b o c : Nat) (w : World) (hm1 : 1 ≤ most) (hm2 : most < ids.length) (hlen : ids.length ≤ 1000000)
    (hc : ∀ k, k < ids.length → w.cell? ⟨b, o + k, none⟩ = some (.int .i64 (ids.getD k 0))) (hb : b < w.heap.size) :
    Calls Try.prog 5 #[.slice (some ⟨b, o, none⟩) ids.length c, .int .i64 most] w fun e w' =>
      ∃ v, e = .returned v ∧ Below w.heap.size w w' ∧ w'.ownsRow w.heap.size 3 1 v (Pure.chosen ids most).length ((Pure.chosen ids most).map fun k => Value.int .i64 (ids.getD k 0)) := by
  obtain ⟨i20, hi20, hz20, hs20, hb20⟩ := info_parts info20
  obtain ⟨i3, hi3, hz3, hs3, hb3⟩ := info_parts info3
  have hA : ¬ (most : Int) < 1 := by omega
  have hB : ¬ (most : Int) ≥ ids.length := by omega
  have hd1 : decide ((most : Int) < 1) = false := by simp; omega
  go_enter Try.func5, Try.ntmps5
  go_wp2
  go_loopw [5, 23] (fun v i wr => ∃ k : Nat, k ≤ ids.length ∧ i = .int .i64 k ∧ wr.ownsRow w.heap.size 20 1 v k ((List.range k).map (encOf ids)) ∧ Below w.heap.size w wr) (fun _ i _ => ids.length - (intOf i).toNat)
  case atStart => exact ⟨0, Nat.zero_le _, rfl, World.ownsRow_nil _ _ _ _, Below.refl _ _⟩
  case round =>
    obtain ⟨k, hk, rfl, hown, hbel⟩ := hrel
    by_cases hlt : k < ids.length
    · have hcx : wr.cell? ⟨b, o + k, none⟩ = some (.int .i64 (ids.getD k 0)) := (hbel.cell (by exact hb)).trans (hc k hlt)
      go_wp2_with (at_builtin; refine wpList_append_own _ rfl _ _ 29 rfl w.heap.size 20 i20 .nilIface 1 16 Try.underlying29 hi20 hz20 hs20 hb20 rfl (by decide) _ _ _ rfl (hown.alloc _) ⟨wr.heap.size, 0, none⟩ 1 1 [encOf ids k] rfl rfl ?c1 ?c2 ?c3 ?c4 ?c5 ?_)
      case c1 =>
        intro j u hj
        match j, hj with
        | 0, hj => simp only [List.getElem?_cons_zero, Option.some.injEq] at hj; subst hj; simp [Addr.add, encOf, List.getElem?_eq_getElem hlt]
      case c2 => intro u hu; simp only [List.mem_cons, List.not_mem_nil, or_false] at hu; subst hu; rfl
      case c3 => unfold maxLen; omega
      case c4 => omega
      case c5 => have := hbel.size; simp; omega
      intro v' w1 hown' hgrow _
      have R1 : w1.ownsRow w.heap.size 20 1 v' (k + 1) ((List.range (k + 1)).map (encOf ids)) := by rw [List.range_succ, List.map_append]; exact hown'
      have R2 : Below w.heap.size w w1 := ((hbel.alloc hbel.size _).grown hgrow (by have := hbel.size; simp; omega) (fun j hj => (hown.lt j hj).1))
      clear hown' hgrow hown hbel hcx hc
      go_wp2
      go_roundw
      case rel => exact ⟨k + 1, by omega, by simp, R1, R2⟩
      case measure => simp [intOf]; omega
    · obtain rfl : k = ids.length := by omega
      obtain ⟨g, cap, rfl⟩ : ∃ g cap, u5 = .slice (some ⟨g, 0, none⟩) ids.length cap := by
        rcases hown.2 with ⟨hnil, h0⟩ | ⟨g0, cap0, cur, hv, _⟩
        · omega
        · exact ⟨g0, cap0, hv⟩
      have hgb := (hown.lt g rfl)
      have hs1 := sort_own (encOf ids) (fun k l => before (ids.getD k 0) k (ids.getD l 0) l) (swo1 ids) (tot1 ids) 10 (fun _ => rfl) (enters_of Try.func10 (by kernel_rfl) rfl) (fun x y W => before_any _ _ _ _ W) _ _ _ _ _ _ (by simp) hown (by omega)
      go_wp2_with fail
      refine hs1.mono ?_
      rintro e w2 ⟨rfl, hown2, hg2⟩
      have hbel2 := hbel.grown hg2 hbel.size (fun j hj => by cases hj; exact hgb.1)
      have hgb : w.heap.size ≤ g ∧ g < w2.heap.size := ⟨hgb.1, by have := hg2.size; omega⟩
      clear hs1 hown hg2 hbel hc
      have hp : (List.range ids.length).mergeSort (fun x y => !(ltOf fun k l : Nat => before (ids.getD k 0) k (ids.getD l 0) l) y x) = Pure.places ids := by unfold Pure.places; congr 1
      rw [hp] at hown2
      have hown3 := ownsRow_take hown2 (m := most) (by omega)
      clear hown2
      rw [← List.map_take] at hown3
      have hmc : most ≤ cap := by
        rcases hown3.2 with ⟨hnil, h0⟩ | ⟨g0, cap0, cur, hv, _, _, h1, _⟩
        · omega
        · injection hv with e1 e2 e3
          omega
      have hs2 := sort_own (encOf ids) (fun k l => cmpI k l) swo2 tot2 11 (fun _ => rfl) (enters_of Try.func11 (by kernel_rfl) rfl) (fun x y W => (of1_any _ _ _ _ W).mono fun _ _ ⟨he, n, hw⟩ => ⟨he, n, #[], by rw [hw, grow_empty]⟩) _ _ _ _ ((Pure.places ids).take most) _ (by rw [List.length_take, Pure.places_length]; omega) hown3 (by omega)
      go_wp2_with fail
      refine hs2.mono ?_
      rintro e w3 ⟨rfl, hown4, hg4⟩
      have hbel4 := hbel2.grown hg4 hbel2.size (fun j hj => by cases hj; exact hgb.1)
      have hq : ((Pure.places ids).take most).mergeSort (fun x y => !(ltOf fun k l : Nat => cmpI k l) y x) = Pure.chosen ids most := by
        unfold Pure.chosen
        congr 1
        funext x y
        rw [ltcmp]
      rw [hq] at hown4
      have hgw : g < w3.heap.size := by have := hgb.2; have := hg4.size; omega
      clear hs2 hown3 hg4 hbel2
      have hlc : (Pure.chosen ids most).length = most := by rw [Pure.chosen_length]; omega
      have hlc := Lib.hid hlc
      have Hcell : ∀ k, k < most → w3.cell? ⟨g, k, none⟩ = some (encOf ids ((Pure.chosen ids most).getD k 0)) := by
        intro k hk
        rw [hown4.cellAt k (by omega)]
        have := hlc.out
        rw [List.getElem?_map, List.getElem?_eq_getElem (by omega), Option.map_some, List.getD_eq_getElem?_getD, List.getElem?_eq_getElem (by omega), Option.getD_some]
      clear hown4
      have ta : ∀ (v : Value) (w : World), (Instr.typeAssert (.iface 31 v) 20 31 false).run Try.prog w = .ok v w := fun _ _ => by kernel_rfl
      have fa : ∀ (x y : Int) (w : World), (Instr.field 31 (.agg #[.int .i64 x, .int .i64 y]) 0).run Try.prog w = .ok (.int .i64 x) w := fun _ _ _ => by kernel_rfl
      go_wp2_with fail
      go_loopw [8, 45] (fun v i wr => ∃ j : Nat, j ≤ most ∧ i = .int .i64 j ∧ wr.ownsRow w3.heap.size 3 1 v j (outL ids (Pure.chosen ids most) j) ∧ Below w3.heap.size w3 wr) (fun _ i _ => most - (intOf i).toNat)
      case atStart => exact ⟨0, Nat.zero_le _, rfl, World.ownsRow_nil _ _ _ _, Below.refl _ _⟩
      case round =>
        obtain ⟨j, hj, rfl, hown5, hbelr⟩ := hrel
        by_cases hlt2 : j < most
        · obtain ⟨q, hq⟩ : ∃ q, q = (Pure.chosen ids most).getD j 0 := ⟨_, rfl⟩
          obtain ⟨z, hz⟩ : ∃ z, z = ids.getD q 0 := ⟨_, rfl⟩
          have hcx : wr.cell? ⟨g, j, none⟩ = some (.iface 31 (.agg #[.int .i64 z, .int .i64 q])) := (hbelr.cell (by exact hgw)).trans (by rw [Hcell j hlt2, ← hq]; unfold encOf; rw [hz])
          have Hq := Lib.hid hq
          have Hz := Lib.hid hz
          clear hq hz
          go_wp2_with (at_builtin; refine wpList_append_own _ rfl _ _ 23 rfl w3.heap.size 3 i3 (.int .i64 0) 1 8 Try.underlying23 hi3 hz3 hs3 hb3 rfl (by decide) _ _ _ rfl (hown5.alloc _) ⟨wr.heap.size, 0, none⟩ 1 1 [.int .i64 z] rfl rfl ?d1 ?d2 ?d3 ?d4 ?d5 ?_)
          case d1 =>
            intro j u hj
            match j, hj with
            | 0, hj => simp only [List.getElem?_cons_zero, Option.some.injEq] at hj; subst hj; simp [Addr.add]
          case d2 => intro u hu; simp only [List.mem_cons, List.not_mem_nil, or_false] at hu; subst hu; rfl
          case d3 => unfold maxLen; omega
          case d4 => omega
          case d5 => have := hbelr.size; simp; omega
          intro v' w1 hown' hgrow _
          have R1 : w1.ownsRow w3.heap.size 3 1 v' (j + 1) (outL ids (Pure.chosen ids most) (j + 1)) := by
            rw [outL_succ ids (Pure.chosen ids most) j (by rw [hlc.out]; omega), ← Hq.out, ← Hz.out]; exact hown'
          have R2 : Below w3.heap.size w3 w1 := ((hbelr.alloc hbelr.size _).grown hgrow (by have := hbelr.size; simp; omega) (fun j hj => (hown5.lt j hj).1))
          clear hown' hgrow hown5 hbelr hcx
          go_wp2
          go_roundw
          case rel => exact ⟨j + 1, by omega, by simp, R1, R2⟩
          case measure => simp [intOf]; omega
        · obtain rfl : j = most := by omega
          go_wp2
          go_ret
          exact ⟨_, rfl, hbel4.trans (hbelr.mono hbel4.size), by rw [hlc.out, ← outL_all ids (Pure.chosen ids j) j (by rw [hlc.out]; omega)]; exact ownsRow_base hown5 hbel4.size⟩

def ints (l : List Int) : List Value := l.map (Value.int .i64)
theorem ints_length (l : List Int) : (ints l).length = l.length := by unfold ints; simp
theorem ints_get (l : List Int) (k : Nat) (h : k < l.length) : (ints l)[k]? = some (.int .i64 (l.getD k 0)) := by
  unfold ints
  rw [List.getElem?_map, List.getElem?_eq_getElem h, Option.map_some, List.getD_eq_getElem?_getD, List.getElem?_eq_getElem h, Option.getD_some]
theorem below_drewN {B : Nat} {a w : World} (h : Below B a w) (n : Nat) : Below B a (w.drewN n) := ⟨h.os, h.tape, h.output, h.size, h.block⟩
set_option maxHeartbeats 2000000 in
theorem ints_same (l : List Int) (a b : Nat) (oa ob ca cb : Nat) (w : World) (hlen : l.length ≤ 1000000)
    (ha : ∀ k, k < l.length → w.cell? ⟨a, oa + k, none⟩ = some (.int .i64 (l.getD k 0))) (hb : ∀ k, k < l.length → w.cell? ⟨b, ob + k, none⟩ = some (.int .i64 (l.getD k 0))) :
    Calls Try.prog 7 #[.slice (some ⟨a, oa, none⟩) l.length ca, .slice (some ⟨b, ob, none⟩) l.length cb] w fun e w' => e = .returned (.bool true) ∧ ∃ n, w' = w.drewN n := by
  have hne : ((l.length : Int) != (l.length : Int)) = false := by simp
  go_enter Try.func7, Try.ntmps7
  go_wp2
  go_loopw [5] (fun i wr => ∃ k : Nat, k ≤ l.length ∧ i = .int .i64 k ∧ ∃ n, wr = w.drewN n) (fun i _ => l.length - (intOf i).toNat)
  case atStart => exact ⟨0, Nat.zero_le _, rfl, 0, rfl⟩
  case round =>
    obtain ⟨k, hk, rfl, n, rfl⟩ := hrel
    by_cases hlt : k < l.length
    · have hca := ha k hlt
      have hcb := hb k hlt
      clear ha hb
      obtain ⟨z, hz⟩ : ∃ z, z = l.getD k 0 := ⟨_, rfl⟩
      rw [← hz] at hca hcb
      clear hz
      have hzz : (z != z) = false := by simp
      have hi0 : (0 : Int) ≤ (k : Int) := by omega
      have hi1 : (k : Int) < (l.length : Int) := by omega
      go_wp2
      go_quiet (fail)
      go_wp2
      go_roundw
      case rel => exact ⟨k + 1, by omega, by simp, _, rfl⟩
      case measure => simp [intOf]; omega
    · clear ha hb
      go_wp2
      go_ret
      exact ⟨rfl, _, rfl⟩
theorem clone_own (l : List Int) (v : Value) (base : Nat) (w : World) (hin : w.ownsRow base 3 1 v l.length (ints l)) (hlen : l.length ≤ 1000000) :
    Calls Try.prog 8 #[v] w fun e w' => ∃ v', e = .returned v' ∧ Below w.heap.size w w' ∧ w'.ownsRow w.heap.size 3 1 v' l.length (ints l) := by
  rcases hin.2 with ⟨rfl, h⟩ | ⟨g, cap, cur, rfl, _⟩
  · refine (Any.slices_Clone_int_nil Try.laysNm215 0 0 w).mono ?_
    rintro e w' ⟨rfl, rfl⟩
    refine ⟨_, rfl, Below.refl _ _, ?_⟩
    have e : l = [] := List.eq_nil_of_length_eq_zero h
    subst e
    exact World.ownsRow_nil _ _ _ _
  · refine (Any.slices_Clone_int Try.laysNm215 g 0 l.length cap l w (Nat.le_refl _) (by omega) (fun k hk => by rw [Nat.zero_add, hin.cellAt k (by omega), ints_get l k hk])).mono ?_
    rintro e w' ⟨v', rfl, ho, _, hb⟩
    refine ⟨v', rfl, hb, ?_⟩
    rw [List.take_length] at ho
    exact ho
set_option maxHeartbeats 2000000 in
theorem of_any (ids : List Int) (most : Int) (v : Value) (base : Nat) (w : World) (hin : w.ownsRow base 3 1 v ids.length (ints ids)) (hlen : ids.length ≤ 1000000) :
    Calls Try.prog 5 #[v, .int .i64 most] w fun e w' => ∃ v', e = .returned v' ∧ Below w.heap.size w w' ∧ w'.ownsRow w.heap.size 3 1 v' (Pure.ofL ids most).length (ints (Pure.ofL ids most)) := by
  have hcl := clone_own ids v base w hin hlen
  by_cases h1 : most < 1
  · have e : Pure.ofL ids most = ids := by unfold Pure.ofL; rw [if_pos (.inl h1)]
    rw [e]
    have hd1 : decide (most < 1) = true := by simpa using h1
    obtain ⟨a, c, rfl⟩ : ∃ a c, v = .slice a ids.length c := by
      rcases hin.2 with ⟨rfl, h⟩ | ⟨g, cap, _, rfl, _⟩
      · rw [h]; exact ⟨_, _, rfl⟩
      · exact ⟨_, _, rfl⟩
    clear e
    go_enter Try.func5, Try.ntmps5
    go_wp2_with (go_at_call 8; refine hcl.mono ?_; rintro e w1 ⟨v', rfl, hb, ho⟩)
    go_ret
    exact ⟨_, rfl, hb, ho⟩
  · by_cases h2 : most ≥ ids.length
    · have e : Pure.ofL ids most = ids := by unfold Pure.ofL; rw [if_pos (.inr h2)]
      rw [e]
      have hd1 : decide (most < 1) = false := by simpa using h1
      have hd2 : decide ((ids.length : Int) ≤ most) = true := by simpa using h2
      obtain ⟨a, c, rfl⟩ : ∃ a c, v = .slice a ids.length c := by
        rcases hin.2 with ⟨rfl, h⟩ | ⟨g, cap, _, rfl, _⟩
        · rw [h]; exact ⟨_, _, rfl⟩
        · exact ⟨_, _, rfl⟩
      clear e h1 h2
      go_enter Try.func5, Try.ntmps5
      go_wp2_with (go_at_call 8; refine hcl.mono ?_; rintro e w1 ⟨v', rfl, hb, ho⟩)
      go_ret
      exact ⟨_, rfl, hb, ho⟩
    · obtain ⟨m, rfl⟩ := Int.eq_ofNat_of_zero_le (show 0 ≤ most by omega)
      have e : Pure.ofL ids (m : Int) = (Pure.chosen ids m).map (fun k => ids.getD k 0) := by unfold Pure.ofL; rw [if_neg (by omega), Int.toNat_natCast]
      rw [e]
      rcases hin.2 with ⟨rfl, h⟩ | ⟨g, cap, cur, rfl, _⟩
      · omega
      · refine (of_some ids m g 0 cap w (by omega) (by omega) hlen (fun k hk => ?_) (hin.lt g rfl).2).mono ?_
        · rw [Nat.zero_add, hin.cellAt k (by omega)]
          unfold ints
          rw [List.getElem?_map, List.getElem?_eq_getElem hk, Option.map_some, List.getD_eq_getElem?_getD, List.getElem?_eq_getElem hk, Option.getD_some]
        · rintro e w' ⟨v', rfl, hb, ho⟩
          exact ⟨v', rfl, hb, by unfold ints; rw [List.length_map, List.map_map]; exact ho⟩

theorem ints_own (l : List Int) (va vb : Value) (ba bb : Nat) (w : World) (hlen : l.length ≤ 1000000) (h0 : 0 < l.length) (ha : w.ownsRow ba 3 1 va l.length (ints l)) (hb : w.ownsRow bb 3 1 vb l.length (ints l)) :
    Calls Try.prog 7 #[va, vb] w fun e w' => e = .returned (.bool true) ∧ ∃ n, w' = w.drewN n := by
  rcases ha.2 with ⟨rfl, h⟩ | ⟨g, cap, cur, rfl, _⟩
  · omega
  rcases hb.2 with ⟨rfl, h⟩ | ⟨g', cap', cur', rfl, _⟩
  · omega
  exact ints_same l g g' 0 0 cap cap' w hlen (fun k hk => by rw [Nat.zero_add, ha.cellAt k (by omega), ints_get l k hk]) (fun k hk => by rw [Nat.zero_add, hb.cellAt k (by omega), ints_get l k hk])
theorem ownsRow_lit2 (w : World) (l : List Int) (hl : l.length ≤ maxLen) : (w.alloc (.cells (ints l).toArray 3)).ownsRow w.heap.size 3 1 (.slice (some ⟨w.heap.size, 0, none⟩) l.length l.length) l.length (ints l) :=
  ⟨by rw [ints_length]; omega, .inr ⟨w.heap.size, l.length, (ints l).toArray, rfl, Nat.le_refl _, by show (w.heap.push _)[_]? = _; simp, Nat.le_refl _, hl, by simp [ints], by simp [ints, List.take_of_length_le]⟩⟩
theorem own_below {B base : Nat} {w w' : World} {v : Value} {n : Nat} {xs : List Value} (h : w.ownsRow base 3 1 v n xs) (hb : Below B w w') (hl : ∀ k, v.ownBlock = some k → k < B) : w'.ownsRow base 3 1 v n xs := by
  refine ⟨h.1, h.2.imp id ?_⟩
  rintro ⟨g, cap, cur, rfl, h1, h2, h3⟩
  exact ⟨g, cap, cur, rfl, h1, (hb.block g (hl g rfl)).trans h2, h3⟩
theorem own_next {base : Nat} {w w' : World} {v : Value} {n : Nat} {xs : List Value} (h : w.ownsRow base 3 1 v n xs) (hb : Below w.heap.size w w') : w'.ownsRow base 3 1 v n xs :=
  own_below h hb (fun k hk => (h.lt k hk).2)
theorem e0 : Pure.ofL [1, 2] 0 = [1, 2] := by unfold Pure.ofL; rw [if_pos (by decide)]
theorem e1 : Pure.ofL [1, 2] 1 = [2] := by
  have h := Pure.ofL_eq [1, 2] (by decide) 1 (by decide)
  have e : ((1 : Nat) : Int) = 1 := rfl
  rw [e] at h
  rw [h]
  decide
theorem e2 : Pure.ofL [] 3 = [] := by unfold Pure.ofL; rw [if_pos (by decide)]
def Own (l : List Int) (w : World) (e : Ending) (w' : World) : Prop := ∃ a c, e = .returned (.slice a l.length c) ∧ Below w.heap.size w w' ∧ w'.ownsRow w.heap.size 3 1 (.slice a l.length c) l.length (ints l)
theorem of_lit (ids l : List Int) (most : Int) (w : World) (h : Pure.ofL ids most = l) (hl : ids.length ≤ 1000000) :
    Calls Try.prog 5 #[.slice (some ⟨w.heap.size, 0, none⟩) ids.length ids.length, .int .i64 most] (w.alloc (.cells (ints ids).toArray 3)) (Own l w) := by
  refine (of_any ids most _ _ _ (ownsRow_lit2 w ids (by unfold maxLen; omega)) hl).mono ?_
  rintro e w1 ⟨v, rfl, hb, ho⟩
  rw [h] at ho
  have hs : w.heap.size ≤ (w.alloc (.cells (ints ids).toArray 3)).heap.size := by simp
  have ho' := ownsRow_base ho hs
  have hb' : Below w.heap.size w w1 := ((Below.refl _ _).alloc (Nat.le_refl _) _).trans (hb.mono hs)
  rcases ho.2 with ⟨rfl, h0⟩ | ⟨g, cap, _, rfl, _⟩
  · refine ⟨none, 0, by rw [h0], hb', by rw [h0] at ho' ⊢; exact ho'⟩
  · exact ⟨_, _, rfl, hb', ho'⟩
theorem of_nil (w : World) : Calls Try.prog 5 #[.slice none 0 0, .int .i64 3] w (Own [] w) := by
  refine (of_any [] 3 _ 0 w (World.ownsRow_nil _ _ _ _) (by decide)).mono ?_
  rintro e w1 ⟨v, rfl, hb, ho⟩
  rw [e2] at ho
  rcases ho.2 with ⟨rfl, h0⟩ | ⟨g, cap, _, rfl, _⟩
  · exact ⟨none, 0, rfl, hb, ho⟩
  · exact ⟨_, _, rfl, hb, ho⟩
theorem ints_lit (l : List Int) (a : Option Addr) (c : Nat) (w0 w : World) (hlen : l.length ≤ 1000000) (h0 : 0 < l.length) (ho : w.ownsRow w0.heap.size 3 1 (.slice a l.length c) l.length (ints l)) :
    Calls Try.prog 7 #[.slice a l.length c, .slice (some ⟨w.heap.size, 0, none⟩) l.length l.length] (w.alloc (.cells (ints l).toArray 3)) fun e w' => e = .returned (.bool true) ∧ Below w.heap.size w w' :=
  (ints_own l _ _ _ _ _ hlen h0 (ho.alloc _) (ownsRow_lit2 w l (by unfold maxLen; omega))).mono fun _ _ ⟨he, n, hw⟩ => ⟨he, by rw [hw]; exact below_drewN ((Below.refl _ _).alloc (Nat.le_refl _) _) n⟩
set_option maxHeartbeats 400000 in
theorem told_any (w : World) : Calls Try.prog 6 #[] w fun e w' => e = .returned (.bool true) ∧ Below w.heap.size w w' := by
  have s0 : (scoreOf 0 == 0) = true := by decide
  have s1 : (scoreOf 1 == 2654435761) = true := by decide
  have s2 : (scoreOf 2 == 1013904226) = true := by decide
  go_enter Try.func6, Try.ntmps6
  go_wp2_with (first | (go_at_call 13; refine (score_any _ _).mono ?_; rintro e w1 ⟨rfl, rfl⟩))
  refine (of_lit [1, 2] [1, 2] 0 w e0 (by decide)).mono ?_
  rintro e w1 ⟨a1, c1, rfl, hb1, ho1⟩
  go_wp2_with fail
  refine (ints_lit [1, 2] a1 c1 w w1 (by decide) (by decide) ho1).mono ?_
  rintro e w2 ⟨rfl, hb2⟩
  clear ho1
  go_wp2_with fail
  refine (of_lit [1, 2] [2] 1 w2 e1 (by decide)).mono ?_
  rintro e w3 ⟨a3, c3, rfl, hb3, ho3⟩
  go_wp2_with fail
  refine (ints_lit [2] a3 c3 w2 w3 (by decide) (by decide) ho3).mono ?_
  rintro e w4 ⟨rfl, hb4⟩
  clear ho3
  go_wp2_with fail
  refine (of_nil w4).mono ?_
  rintro e w5 ⟨a5, c5, rfl, hb5, ho5⟩
  clear ho5
  go_wp2
  go_ret
  refine ⟨rfl, ?_⟩
  have hs1 := hb1.size; have hs2 := hb2.size; have hs3 := hb3.size; have hs4 := hb4.size
  exact hb1.trans ((hb2.mono hs1).trans ((hb3.mono (by omega)).trans ((hb4.mono (by omega)).trans (hb5.mono (by omega)))))
end Go.Proofs.Ytelfljdnpfmbbaa
