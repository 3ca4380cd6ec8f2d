/- The plain law of subsets: who is among the least of so many by a total order; no program in sight. -/
namespace Go.Proofs.Ytelfljdnpfmbbaa
namespace Pure

def cmpI (x y : Int) : Int := if x < y then -1 else if y < x then 1 else 0
def or3 (x y z : Int) : Int := if x ≠ 0 then x else if y ≠ 0 then y else z
def u64 (x : Int) : Int := x % 18446744073709551616
def scoreOf (x : Int) : Int := (u64 (u64 x * 2654435761)) % 4294967296
def before (i a j b : Int) : Int := or3 (cmpI (scoreOf i) (scoreOf j)) (cmpI i j) (cmpI a b)

/-- The order by which numbers stand: the score, then the number. -/
def lt (i j : Int) : Bool := decide (scoreOf i < scoreOf j) || (scoreOf i == scoreOf j && decide (i < j))

theorem before_neg (i a j b : Int) : before i a j b < 0 ↔ scoreOf i < scoreOf j ∨ (scoreOf i = scoreOf j ∧ (i < j ∨ (i = j ∧ a < b))) := by
  unfold before or3 cmpI
  split <;> split <;> (try split) <;> (try split) <;> (try split) <;> (try split) <;> omega

theorem lt_iff (i j : Int) : lt i j = true ↔ scoreOf i < scoreOf j ∨ (scoreOf i = scoreOf j ∧ i < j) := by
  unfold lt
  simp

theorem lt_irrefl (i : Int) : lt i i = false := by
  cases h : lt i i
  · rfl
  · rw [lt_iff] at h; omega
theorem lt_trans (i j k : Int) (h1 : lt i j = true) (h2 : lt j k = true) : lt i k = true := by
  rw [lt_iff] at *; omega
theorem lt_total (i j : Int) (h : i ≠ j) : lt i j = true ∨ lt j i = true := by
  rw [lt_iff, lt_iff]; omega
theorem lt_asymm (i j : Int) (h : lt i j = true) : lt j i = false := by
  cases h2 : lt j i
  · rfl
  · rw [lt_iff] at *; omega

/-- How many of l stand ahead of x. -/
def rank (l : List Int) (x : Int) : Nat := l.countP (fun y => lt y x)

/-- The subset: those whose rank is less than m. -/
def sub (l : List Int) (m : Nat) : List Int := l.filter (fun x => decide (rank l x < m))

/-! ### A list that rises by a strict order: who stands among the first m. -/
section
variable {α : Type} (r : α → α → Bool)
theorem countP_rising (hirr : ∀ x, r x x = false) (has : ∀ x y, r x y = true → r y x = false) : ∀ (L : List α), L.Pairwise (fun x y => r x y = true) → ∀ (i : Nat) (h : i < L.length), L.countP (fun y => r y L[i]) = i
  | [], _, _, h => by simp at h
  | a :: L, hp, 0, _ => by
    rw [List.pairwise_cons] at hp
    simp only [List.getElem_cons_zero]
    rw [List.countP_cons, hirr]
    simp only [Bool.false_eq_true, if_false, Nat.add_zero]
    rw [List.countP_eq_zero]
    intro y hy
    rw [has a y (hp.1 y hy)]; simp
  | a :: L, hp, i + 1, h => by
    rw [List.pairwise_cons] at hp
    have hi : i < L.length := by simpa using h
    simp only [List.getElem_cons_succ]
    rw [List.countP_cons, countP_rising hirr has L hp.2 i hi, hp.1 _ (List.getElem_mem hi)]
    simp
theorem mem_take_rising (hirr : ∀ x, r x x = false) (has : ∀ x y, r x y = true → r y x = false) (L : List α) (hp : L.Pairwise (fun x y => r x y = true)) (m : Nat) (x : α) (hx : x ∈ L) :
    x ∈ L.take m ↔ L.countP (fun y => r y x) < m := by
  obtain ⟨i, hi, rfl⟩ := List.mem_iff_getElem.1 hx
  rw [countP_rising r hirr has L hp i hi]
  constructor
  · intro h
    obtain ⟨j, hj, e⟩ := List.mem_iff_getElem.1 h
    rw [List.getElem_take] at e
    have hj2 : j < m ∧ j < L.length := by rw [List.length_take] at hj; omega
    have := countP_rising r hirr has L hp j hj2.2
    rw [e, countP_rising r hirr has L hp i hi] at this
    omega
  · intro h
    exact List.mem_iff_getElem.2 ⟨i, by rw [List.length_take]; omega, by rw [List.getElem_take]⟩
end

/-! ### What the program does: places sorted by their numbers' order, so many of them, sorted by place. -/
/-- The order of places: the score, the number, the place. -/
def ltAt (ids : List Int) (k l : Nat) : Bool := decide (before (ids.getD k 0) k (ids.getD l 0) l < 0)
theorem ltAt_iff (ids : List Int) (k l : Nat) : ltAt ids k l = true ↔ (lt (ids.getD k 0) (ids.getD l 0) = true ∨ (ids.getD k 0 = ids.getD l 0 ∧ k < l)) := by
  unfold ltAt
  rw [decide_eq_true_iff, before_neg, lt_iff]
  constructor
  · rintro (h | ⟨h, h2 | ⟨h2, h3⟩⟩)
    · exact .inl (.inl h)
    · exact .inl (.inr ⟨h, h2⟩)
    · exact .inr ⟨h2, by omega⟩
  · rintro ((h | ⟨h, h2⟩) | ⟨h, h2⟩)
    · exact .inl h
    · exact .inr ⟨h, .inl h2⟩
    · exact .inr ⟨by rw [h], .inr ⟨h, by omega⟩⟩
theorem ltAt_irrefl (ids : List Int) (k : Nat) : ltAt ids k k = false := by
  cases h : ltAt ids k k
  · rfl
  · rw [ltAt_iff, lt_irrefl] at h; simp at h
theorem ltAt_asymm (ids : List Int) (k l : Nat) (h : ltAt ids k l = true) : ltAt ids l k = false := by
  cases h2 : ltAt ids l k
  · rfl
  · rw [ltAt_iff] at *
    rcases h with h | ⟨h, h'⟩ <;> rcases h2 with h2 | ⟨h2, h2'⟩
    · rw [lt_asymm _ _ h] at h2; cases h2
    · rw [h2, lt_irrefl] at h; cases h
    · rw [h, lt_irrefl] at h2; cases h2
    · omega
theorem ltAt_trans (ids : List Int) (k l m : Nat) (h1 : ltAt ids k l = true) (h2 : ltAt ids l m = true) : ltAt ids k m = true := by
  rw [ltAt_iff] at *
  rcases h1 with h | ⟨h, h'⟩ <;> rcases h2 with h2 | ⟨h2, h2'⟩
  · exact .inl (lt_trans _ _ _ h h2)
  · exact .inl (h2 ▸ h)
  · exact .inl (by rw [h]; exact h2)
  · exact .inr ⟨h.trans h2, by omega⟩
theorem ltAt_total (ids : List Int) (k l : Nat) (h : k ≠ l) : ltAt ids k l = true ∨ ltAt ids l k = true := by
  rw [ltAt_iff, ltAt_iff]
  by_cases e : ids.getD k 0 = ids.getD l 0
  · rcases Nat.lt_or_gt_of_ne h with h | h
    · exact .inl (.inr ⟨e, h⟩)
    · exact .inr (.inr ⟨e.symm, h⟩)
  · rcases lt_total _ _ e with h | h
    · exact .inl (.inl h)
    · exact .inr (.inl h)

/-- The places, the least first. -/
def places (ids : List Int) : List Nat := (List.range ids.length).mergeSort (fun x y => !ltAt ids y x)
/-- So many of them, by place. -/
def chosen (ids : List Int) (m : Nat) : List Nat := ((places ids).take m).mergeSort (fun x y => !decide (y < x))
/-- What the program answers. -/
def ofL (ids : List Int) (most : Int) : List Int :=
  if most < 1 ∨ most ≥ ids.length then ids else (chosen ids most.toNat).map (fun k => ids.getD k 0)

theorem places_perm (ids : List Int) : (places ids).Perm (List.range ids.length) := List.mergeSort_perm _ _
theorem places_length (ids : List Int) : (places ids).length = ids.length := by rw [(places_perm ids).length_eq, List.length_range]
theorem places_nodup (ids : List Int) : (places ids).Nodup := (places_perm ids).nodup_iff.2 List.nodup_range
theorem places_rising (ids : List Int) : (places ids).Pairwise (fun x y => ltAt ids x y = true) := by
  have h := List.pairwise_mergeSort (le := fun x y => !ltAt ids y x) (fun a b c h1 h2 => by
      simp only [Bool.not_eq_true'] at *
      cases h : ltAt ids c a with
      | false => rfl
      | true =>
        exfalso
        by_cases e : b = c
        · subst e; rw [h] at h1; cases h1
        · rcases ltAt_total ids b c e with h3 | h3
          · rw [ltAt_trans ids _ _ _ h3 h] at h1; cases h1
          · rw [h3] at h2; cases h2) (fun a b => by
      simp only [Bool.or_eq_true, Bool.not_eq_true']
      cases h : ltAt ids b a with
      | false => exact .inl rfl
      | true => exact .inr (ltAt_asymm _ _ _ h)) (List.range ids.length)
  have hn := places_nodup ids
  refine (List.Pairwise.and h hn).imp ?_
  rintro x y ⟨h1, h2⟩
  simp only [Bool.not_eq_true'] at h1
  rcases ltAt_total ids x y h2 with h3 | h3
  · exact h3
  · rw [h3] at h1; cases h1

theorem mem_places_take (ids : List Int) (m k : Nat) (hk : k < ids.length) : k ∈ (places ids).take m ↔ (List.range ids.length).countP (fun l => ltAt ids l k) < m := by
  rw [mem_take_rising (fun x y => ltAt ids x y) (ltAt_irrefl ids) (ltAt_asymm ids) (places ids) (places_rising ids) m k ((places_perm ids).mem_iff.2 (List.mem_range.2 hk))]
  rw [(places_perm ids).countP_eq]

/-- Where the numbers are unlike, a place's rank is its number's. -/
theorem countP_places (ids : List Int) (hd : ids.Nodup) (k : Nat) (hk : k < ids.length) : (List.range ids.length).countP (fun l => ltAt ids l k) = rank ids (ids.getD k 0) := by
  unfold rank
  have e : ids = (List.range ids.length).map (fun l => ids.getD l 0) := by
    apply List.ext_getElem
    · simp
    · intro i h1 h2
      simp [h1]
  conv => rhs; rw [e]
  rw [List.countP_map]
  apply List.countP_congr
  intro l hl
  have hl' : l < ids.length := List.mem_range.1 hl
  rw [ltAt_iff]
  simp only [Function.comp]
  constructor
  · rintro (h | ⟨h, h2⟩)
    · exact (e ▸ h)
    · exfalso
      simp only [List.getD_eq_getElem?_getD, List.getElem?_eq_getElem hk, List.getElem?_eq_getElem hl', Option.getD_some] at h
      have hp := List.pairwise_iff_getElem.1 hd
      rcases Nat.lt_or_gt_of_ne (Nat.ne_of_lt h2) with h3 | h3
      · exact hp l k hl' hk h3 h
      · omega
  · intro h
    exact .inl (by rw [← e] at h; exact h)

/-! ### The places chosen, in their order, are the places of those whose rank is small. -/
theorem chosen_perm (ids : List Int) (m : Nat) : (chosen ids m).Perm ((places ids).take m) := List.mergeSort_perm _ _
theorem rising_unique : ∀ (a b : List Nat), a.Pairwise (· < ·) → b.Pairwise (· < ·) → (∀ x, x ∈ a ↔ x ∈ b) → a = b
  | [], [], _, _, _ => rfl
  | [], y :: b, _, _, h => by have := (h y).2 (by simp); simp at this
  | x :: a, [], _, _, h => by have := (h x).1 (by simp); simp at this
  | x :: a, y :: b, ha, hb, h => by
    rw [List.pairwise_cons] at ha hb
    have e : x = y := by
      have h1 := (h x).1 (by simp)
      have h2 := (h y).2 (by simp)
      simp only [List.mem_cons] at h1 h2
      rcases h1 with h1 | h1
      · exact h1
      · rcases h2 with h2 | h2
        · exact h2.symm
        · have := hb.1 _ h1; have := ha.1 _ h2; omega
    subst e
    rw [rising_unique a b ha.2 hb.2 (fun z => by
      have hz := h z
      simp only [List.mem_cons] at hz
      constructor
      · intro hm
        rcases hz.1 (.inr hm) with e | e
        · subst e; have := ha.1 _ hm; omega
        · exact e
      · intro hm
        rcases hz.2 (.inr hm) with e | e
        · subst e; have := hb.1 _ hm; omega
        · exact e)]
theorem chosen_rising (ids : List Int) (m : Nat) : (chosen ids m).Pairwise (· < ·) := by
  have h := List.pairwise_mergeSort (le := fun x y : Nat => !decide (y < x)) (fun a b c h1 h2 => by simp at *; omega) (fun a b => by simp; omega) ((places ids).take m)
  have hn : (chosen ids m).Nodup := (chosen_perm ids m).nodup_iff.2 ((places_nodup ids).sublist (List.take_sublist _ _))
  refine (List.Pairwise.and h hn).imp ?_
  rintro x y ⟨h1, h2⟩
  simp at h1
  omega
theorem chosen_eq (ids : List Int) (m : Nat) : chosen ids m = (List.range ids.length).filter (fun k => decide ((List.range ids.length).countP (fun l => ltAt ids l k) < m)) := by
  refine rising_unique _ _ (chosen_rising ids m) (List.pairwise_lt_range.sublist List.filter_sublist) (fun k => ?_)
  rw [(chosen_perm ids m).mem_iff, List.mem_filter, List.mem_range, decide_eq_true_iff]
  constructor
  · intro h
    have hk : k < ids.length := List.mem_range.1 ((places_perm ids).mem_iff.1 (List.mem_of_mem_take h))
    exact ⟨hk, (mem_places_take ids m k hk).1 h⟩
  · rintro ⟨hk, h⟩
    exact (mem_places_take ids m k hk).2 h
theorem filter_places (ids : List Int) (p : Int → Bool) : ((List.range ids.length).filter (fun k => p (ids.getD k 0))).map (fun k => ids.getD k 0) = ids.filter p := by
  have e : ids = (List.range ids.length).map (fun l => ids.getD l 0) := by
    apply List.ext_getElem
    · simp
    · intro i h1 h2
      simp [h1]
  conv => rhs; rw [e]
  rw [List.filter_map]
  rfl
theorem rank_lt (l : List Int) (x : Int) (hx : x ∈ l) : rank l x < l.length := by
  unfold rank
  rcases Nat.lt_or_ge (l.countP (fun y => lt y x)) l.length with h | h
  · exact h
  · exfalso
    have h1 := List.countP_le_length (p := fun y => lt y x) (l := l)
    have h2 : l.countP (fun y => lt y x) = l.length := by omega
    rw [List.countP_eq_length] at h2
    have := h2 x hx
    rw [lt_irrefl] at this
    cases this
theorem sub_all (l : List Int) (m : Nat) (h : l.length ≤ m) : sub l m = l := by
  unfold sub
  rw [List.filter_eq_self]
  intro x hx
  have := rank_lt l x hx
  simp; omega
/-- **Of unlike numbers the program answers the subset.** -/
theorem ofL_eq (ids : List Int) (hd : ids.Nodup) (m : Nat) (hm : 1 ≤ m) : ofL ids (m : Int) = sub ids m := by
  unfold ofL
  by_cases h : ids.length ≤ m
  · rw [if_pos (by omega), sub_all ids m h]
  · rw [if_neg (by omega), Int.toNat_natCast, chosen_eq]
    unfold sub
    rw [← filter_places ids (fun x => decide (rank ids x < m))]
    congr 1
    apply List.filter_congr
    intro k hk
    rw [countP_places ids hd k (List.mem_range.1 hk)]
theorem chosen_length (ids : List Int) (m : Nat) : (chosen ids m).length = min m ids.length := by
  rw [(chosen_perm ids m).length_eq, List.length_take, places_length]
theorem sub_length (ids : List Int) (hd : ids.Nodup) (m : Nat) (hm : 1 ≤ m) : (sub ids m).length = min m ids.length := by
  by_cases h : ids.length ≤ m
  · rw [sub_all ids m h]; omega
  · rw [← ofL_eq ids hd m hm]
    unfold ofL
    rw [if_neg (by omega), List.length_map, Int.toNat_natCast, chosen_length]

/-! ### One goes. -/
theorem rank_erase_le (l : List Int) (w : Nat) (x : Int) : rank (l.eraseIdx w) x ≤ rank l x := by
  unfold rank
  exact (List.eraseIdx_sublist l w).countP_le
theorem sub_erase (l : List Int) (w m : Nat) (x : Int) (hx : x ∈ sub l m) (hm : x ∈ l.eraseIdx w) : x ∈ sub (l.eraseIdx w) m := by
  unfold sub at *
  rw [List.mem_filter, decide_eq_true_iff] at *
  have := rank_erase_le l w x
  exact ⟨hm, by omega⟩
theorem mem_erase (l : List Int) (w : Nat) (hw : w < l.length) (x : Int) (hx : x ∈ l) : x = l[w] ∨ x ∈ l.eraseIdx w := by
  obtain ⟨i, hi, rfl⟩ := List.mem_iff_getElem.1 hx
  by_cases e : i = w
  · subst e; exact .inl rfl
  · exact .inr (List.mem_eraseIdx_iff_getElem.2 ⟨i, hi, e, rfl⟩)
/-- Who is in the subset, and not in that of the others, is who went. -/
theorem gone (l : List Int) (w m : Nat) (hw : w < l.length) (x : Int) (hx : x ∈ sub l m) (hn : x ∉ sub (l.eraseIdx w) m) : x = l[w] := by
  rcases mem_erase l w hw x ((List.mem_filter.1 hx).1) with h | h
  · exact h
  · exact absurd (sub_erase l w m x hx h) hn
/-- A greater subset holds a lesser one, in the same order. -/
theorem sub_sublist (l : List Int) (x y : Nat) (h : x ≤ y) : (sub l x).Sublist (sub l y) := by
  have e : sub l x = (sub l y).filter (fun z => decide (rank l z < x)) := by
    unfold sub
    rw [List.filter_filter]
    apply List.filter_congr
    intro z _
    simp
    omega
  rw [e]
  exact List.filter_sublist
theorem sub_sub (l : List Int) (m : Nat) : (sub l m).Sublist l := List.filter_sublist
end Pure
end Go.Proofs.Ytelfljdnpfmbbaa
namespace Go.Proofs.Ytelfljdnpfmbbaa
namespace Pure
def goneB (b : List Int) (x : Int) : Bool := !b.contains x
theorem gone_count (l : List Int) (hd : l.Nodup) (w m : Nat) (hw : w < l.length) : (sub l m).countP (goneB (sub (l.eraseIdx w) m)) ≤ 1 := by
  have hn : (sub l m).Nodup := hd.sublist (sub_sub l m)
  have h1 : (sub l m).countP (goneB (sub (l.eraseIdx w) m)) ≤ (sub l m).countP (fun x => x == l[w]) := by
    apply List.countP_mono_left
    intro x hx hg
    have : x ∉ sub (l.eraseIdx w) m := by
      unfold goneB at hg
      simpa using hg
    simp [gone l w m hw x hx this]
  have h2 : (sub l m).countP (fun x => x == l[w]) ≤ 1 := by
    have := List.nodup_iff_count.1 hn l[w]
    unfold List.count at this
    exact this
  omega
end Pure
end Go.Proofs.Ytelfljdnpfmbbaa
