/- A set of texts that the call made itself (map[string]bool, all of it true): what it says of a text, and one more put in. -/
import Derived.WideMake
import Derived.MapKept
import Derived.Below
namespace Go.Proofs.YtcppcobcdhnalaaDoor
open Go
variable {P : Program}
def SetIs (w : World) (r : Nat) (S : List ByteArray) : Prop :=
  ∃ es clock, w.heap[r]? = some (.map es clock) ∧ (∀ e ∈ es.toList, ∃ s, e.key = .string s ∧ e.val = .bool true ∧ s ∈ S) ∧ ∀ s ∈ S, ∃ e ∈ es.toList, e.key = .string s
theorem SetIs.of_heap {w w' : World} {r : Nat} {S : List ByteArray} (h : SetIs w r S) (hb : w'.heap[r]? = w.heap[r]?) : SetIs w' r S := by
  obtain ⟨es, clock, h1, h2, h3⟩ := h
  exact ⟨es, clock, hb.trans h1, h2, h3⟩
theorem SetIs.empty {w : World} {r clock : Nat} (hb : w.heap[r]? = some (.map #[] clock)) : SetIs w r [] := ⟨#[], clock, hb, by simp, by simp⟩
theorem findNow_set (k : ByteArray) : ∀ (l : List MapEntry) (i : Nat), (∀ e ∈ l, ∃ s, e.key = .string s ∧ e.val = .bool true) →
    ((∃ e ∈ l, e.key = .string k) ∧ ∃ j, Instr.findNow .string (.string k) l i = some (some (i + j, .bool true)) ∧ (l[j]?).map (·.key) = some (.string k)) ∨ ((∀ e ∈ l, e.key ≠ .string k) ∧ Instr.findNow .string (.string k) l i = some none)
  | [], i, _ => .inr ⟨by simp, rfl⟩
  | e :: l, i, h => by
    obtain ⟨s, hs, hv⟩ := h e (List.mem_cons_self ..)
    by_cases hk : k = s
    · subst hk
      have hb : (k == k) = true := (MapKept.bytes_beq k k).2 rfl
      refine .inl ⟨⟨e, List.mem_cons_self .., hs⟩, 0, ?_, by simp [hs]⟩
      simp [Instr.findNow, Instr.sameNow, hs, hv, hb]
    · have hb : (k == s) = false := by
        rw [Bool.eq_false_iff]
        exact fun e => hk ((MapKept.bytes_beq k s).1 e)
      have e1 : Instr.findNow .string (.string k) (e :: l) i = Instr.findNow .string (.string k) l (i + 1) := by simp [Instr.findNow, Instr.sameNow, hs, hb]
      rcases findNow_set k l (i + 1) (fun x hx => h x (List.mem_cons_of_mem _ hx)) with ⟨⟨x, hx, hxk⟩, j, hj, hj2⟩ | ⟨h1, h2⟩
      · refine .inl ⟨⟨x, List.mem_cons_of_mem _ hx, hxk⟩, j + 1, ?_, by simpa using hj2⟩
        rw [e1, hj, Nat.add_assoc, Nat.add_comm 1 j]
      · refine .inr ⟨?_, e1.trans h2⟩
        intro x hx
        rcases List.mem_cons.1 hx with rfl | hx
        · rw [hs]
          intro e
          injection e with e
          exact hk e.symm
        · exact h1 x hx
theorem run_lookup_set {mty kt et : TypeId} (hm : P.underlying mty = some (.map kt et)) (hk : P.underlying kt = some .string) {w : World} {r : Nat} {S : List ByteArray} (hz : (zeroValue et).run P w = .ok (.bool false) w) (h : SetIs w r S) (k : ByteArray) (b : Bool) (hb : b = true ↔ k ∈ S) :
    (Instr.lookup mty (.map (some r)) (.string k) false).run P w = .ok (.bool b) w := by
  obtain ⟨es, clock, h1, h2, h3⟩ := h
  have hc : (Instr.checkKey es.isEmpty 10000 kt (.string k)).run P w = .ok () w := MapKept.run_checkKey (k := .string k) hk (by simp [MapKept.IsKey]) es.isEmpty 9999
  rcases findNow_set k es.toList 0 (fun e he => by obtain ⟨s, a, b, _⟩ := h2 e he; exact ⟨s, a, b⟩) with ⟨⟨x, hx, hxk⟩, j, hj, _⟩ | ⟨hn, hf⟩
  · have hS : k ∈ S := by
      obtain ⟨s, a, _, hs⟩ := h2 x hx
      rw [hxk] at a
      injection a with a
      rw [a]
      exact hs
    have hbt : b = true := hb.2 hS
    subst hbt
    simp [Instr.lookup, run_underlying hm, MapKept.run_getObj_map h1, hc, MapKept.run_findKey hk hj, Result.andThen]
  · have hbf : b = false := by
      cases b with
      | false => rfl
      | true =>
        obtain ⟨e, he, hek⟩ := h3 k (hb.1 rfl)
        exact absurd hek (hn e he)
    subst hbf
    simp [Instr.lookup, run_underlying hm, MapKept.run_getObj_map h1, hc, MapKept.run_findKey hk hf, hz, Result.andThen]
theorem run_mapUpdate_set {mty kt et : TypeId} (hm : P.underlying mty = some (.map kt et)) (hk : P.underlying kt = some .string) {w : World} {r : Nat} {S : List ByteArray} (h : SetIs w r S) (k : ByteArray) :
    ∃ o, (Instr.mapUpdate mty (.map (some r)) (.string k) (.bool true)).run P w = .ok () { w with heap := w.heap.setIfInBounds r o } ∧ SetIs { w with heap := w.heap.setIfInBounds r o } r (k :: S) := by
  obtain ⟨es, clock, h1, h2, h3⟩ := h
  have hc : (Instr.checkKey false 10000 kt (.string k)).run P w = .ok () w := MapKept.run_checkKey (k := .string k) hk (by simp [MapKept.IsKey]) false 9999
  rcases findNow_set k es.toList 0 (fun e he => by obtain ⟨s, a, b, _⟩ := h2 e he; exact ⟨s, a, b⟩) with ⟨⟨x, hx, hxk⟩, j, hj, hjk⟩ | ⟨hn, hf⟩
  · rw [Nat.zero_add] at hj
    have hkk : ((es[j]?).map (·.key)).getD (.string k) = .string k := by
      rw [← Array.getElem?_toList, hjk]
      rfl
    refine ⟨.map (es.modify j fun e => { e with key := .string k, val := .bool true }) clock, ?_, ?_⟩
    · simp [Instr.mapUpdate, run_underlying hm, MapKept.run_getObj_map h1, hc, MapKept.run_findKey hk hj, hkk, MapKept.run_keyThatStays (k := .string k) (d := .string) (by simp [MapKept.IsKey]), MapKept.run_setObj_map _ h1, Result.andThen]
    · refine ⟨_, _, (MapKept.heap_set h1).1, ?_, ?_⟩
      · intro e he
        rw [Array.mem_toList_iff, Array.mem_iff_getElem?] at he
        obtain ⟨i, hi⟩ := he
        rw [Array.getElem?_modify] at hi
        split at hi
        · cases hx : es[i]? with
          | none => rw [hx] at hi; cases hi
          | some y =>
            rw [hx] at hi
            injection hi with hi
            subst hi
            exact ⟨k, rfl, rfl, List.mem_cons_self ..⟩
        · obtain ⟨s, a, b, c⟩ := h2 e (by rw [Array.mem_toList_iff]; exact Array.mem_of_getElem? hi)
          exact ⟨s, a, b, List.mem_cons_of_mem _ c⟩
      · intro s hs
        obtain ⟨e, he, hek⟩ : ∃ e ∈ es.toList, e.key = .string s := by
          rcases List.mem_cons.1 hs with rfl | hs
          · exact ⟨x, hx, hxk⟩
          · exact h3 s hs
        rw [Array.mem_toList_iff, Array.mem_iff_getElem?] at he
        obtain ⟨i, hi⟩ := he
        by_cases hij : j = i
        · subst hij
          have hes : e.key = .string k := by
            rw [← Array.getElem?_toList] at hi
            rw [hi] at hjk
            simpa using hjk
          refine ⟨{ e with key := .string k, val := .bool true }, ?_, ?_⟩
          · rw [Array.mem_toList_iff, Array.mem_iff_getElem?]
            exact ⟨j, by rw [Array.getElem?_modify, if_pos rfl, hi]; rfl⟩
          · rw [hes] at hek
            exact hek
        · refine ⟨e, ?_, hek⟩
          rw [Array.mem_toList_iff, Array.mem_iff_getElem?]
          exact ⟨i, by rw [Array.getElem?_modify, if_neg hij]; exact hi⟩
  · refine ⟨.map (es.push { key := .string k, val := .bool true, born := clock }) (clock + 1), ?_, ?_⟩
    · simp [Instr.mapUpdate, run_underlying hm, MapKept.run_getObj_map h1, hc, MapKept.run_findKey hk hf, MapKept.run_setObj_map _ h1, Result.andThen]
    · refine ⟨_, _, (MapKept.heap_set h1).1, ?_, ?_⟩
      · intro e he
        rw [Array.toList_push, List.mem_append, List.mem_singleton] at he
        rcases he with he | rfl
        · obtain ⟨s, a, b, c⟩ := h2 e he
          exact ⟨s, a, b, List.mem_cons_of_mem _ c⟩
        · exact ⟨k, rfl, rfl, List.mem_cons_self ..⟩
      · intro s hs
        rw [Array.toList_push]
        rcases List.mem_cons.1 hs with rfl | hs
        · exact ⟨_, List.mem_append_right _ (List.mem_singleton.2 rfl), rfl⟩
        · obtain ⟨e, he, hek⟩ := h3 s hs
          exact ⟨e, List.mem_append_left _ he, hek⟩
end Go.Proofs.YtcppcobcdhnalaaDoor
