/- One line of settings, part by part, without a program. -/
import Derived.Test.YtcppcobcdhnalaaDoorBackPure
import Derived.Test.YtcppcobcdhnalaaDoorEnv
import Derived.Test.YtcppcobcdhnalaaDoorTextLaw
import Derived.Lib.SplitLaws
namespace Go.Proofs.YtcppcobcdhnalaaDoor
open Go Go.RowKit Go.Proofs.YtcppcobcdhnalaaDoorW
theorem part_fin : ∀ k : Fin 20, partOf (nameOf k.val) = some k.val := by decide +kernel
theorem partOf_lt {nm : Bs} {j : Nat} (h : partOf nm = some j) : j < 20 ∧ nameOf j = nm := by
  unfold partOf at h
  rw [List.findIdx?_eq_some_iff_getElem] at h
  obtain ⟨h1, h2, _⟩ := h
  refine ⟨h1, ?_⟩
  unfold nameOf
  rw [List.getD_eq_getElem?_getD, List.getElem?_eq_getElem h1]
  simpa using h2
theorem partOf_some (nm : Bs) (j : Nat) (hj : j < 20) : partOf nm = some j ↔ nameOf j = nm :=
  ⟨fun h => (partOf_lt h).2, fun h => by rw [← h]; exact part_fin ⟨j, hj⟩⟩
/-- The part that a line sets: none, if it was set ahead. -/
def hitP (seen : List Nat) (nm : Bs) : Option Nat := match partOf nm with
  | some k => if seen.contains k then none else some k
  | none => none
def goodP (seen : List Nat) (nm v : Bs) (j : Nat) : Bool := match hitP seen nm with
  | some k => decide (k < j) && (readP k v).isSome
  | none => false
def confP (d : Conf) (seen : List Nat) (nm v : Bs) (j : Nat) : Conf := match hitP seen nm with
  | some k => if k < j then (match readP k v with | some n => d.put k n | none => d) else d
  | none => d
theorem goodP_zero (seen nm v) : goodP seen nm v 0 = false := by
  unfold goodP
  split <;> simp
theorem confP_zero (d seen nm v) : confP d seen nm v 0 = d := by
  unfold confP
  split <;> simp
theorem goodP_miss {seen nm v} {j : Nat} (h : hitP seen nm ≠ some j) : goodP seen nm v (j + 1) = goodP seen nm v j := by
  unfold goodP
  split
  · rename_i k hk
    have : k ≠ j := fun e => h (by rw [hk, e])
    have e : decide (k < j + 1) = decide (k < j) := by rw [decide_eq_decide]; omega
    rw [e]
  · rfl
theorem confP_miss {d seen nm v} {j : Nat} (h : hitP seen nm ≠ some j) : confP d seen nm v (j + 1) = confP d seen nm v j := by
  unfold confP
  split
  · rename_i k hk
    have : k ≠ j := fun e => h (by rw [hk, e])
    by_cases hlt : k < j
    · rw [if_pos hlt, if_pos (by omega)]
    · rw [if_neg hlt, if_neg (by omega)]
  · rfl
theorem goodP_hit {seen nm v} {j : Nat} (h : hitP seen nm = some j) : goodP seen nm v (j + 1) = (readP j v).isSome := by
  unfold goodP
  rw [h]
  simp
theorem confP_hit {d seen nm v} {j : Nat} (h : hitP seen nm = some j) : confP d seen nm v j = d ∧ confP d seen nm v (j + 1) = (match readP j v with | some n => d.put j n | none => d) := by
  unfold confP
  rw [h]
  simp
theorem hitP_at {seen : List Nat} {nm : Bs} {j : Nat} (hj : j < 20) (h : hitP seen nm = some j) : nameOf j = nm ∧ seen.contains j = false := by
  unfold hitP at h
  split at h
  · rename_i k hk
    split at h
    · cases h
    · rename_i hc
      cases h
      exact ⟨(partOf_some nm j hj).1 hk, by simpa using hc⟩
  · cases h
theorem hitP_of {seen : List Nat} {nm : Bs} {j : Nat} (hj : j < 20) (h1 : nameOf j = nm) (h2 : seen.contains j = false) : hitP seen nm = some j := by
  unfold hitP
  rw [(partOf_some nm j hj).2 h1]
  simp only [h2, Bool.false_eq_true, if_false]
theorem hit_lt {seen : List Nat} {nm : Bs} {j : Nat} (h : hitP seen nm = some j) : j < 20 := by
  unfold hitP at h
  split at h
  · rename_i k hk
    split at h
    · cases h
    · cases h
      exact (partOf_lt hk).1
  · cases h
/-- The names that were set. -/
def namesS (seen : List Nat) : List ByteArray := seen.map fun j => strOf (nameOf j)
theorem str_inj {a b : Bs} (h : strOf a = strOf b) : a = b := by
  have := congrArg bsOf h
  simpa [bsOf, strOf] using this
theorem mem_namesS {seen : List Nat} (hs : ∀ j ∈ seen, j < 20) {j : Nat} (hj : j < 20) : seen.contains j = true ↔ strOf (nameOf j) ∈ namesS seen := by
  unfold namesS
  rw [List.contains_iff_mem, List.mem_map]
  constructor
  · exact fun h => ⟨j, h, rfl⟩
  · rintro ⟨i, hi, he⟩
    have h1 := part_fin ⟨i, hs i hi⟩
    have h2 := part_fin ⟨j, hj⟩
    simp only at h1 h2
    rw [str_inj he, h2] at h1
    cases h1
    exact hi
/-- What a line does, told part by part. -/
theorem step_parts (d : Conf) (seen : List Nat) (t : Bs) (l : Bs) (hl : Lib.trimB l 32 = t) (hi : idle t = false) :
    stepP (d, seen) l = if goodP seen (cut2 58 32 t).1 (cut2 58 32 t).2.1 20 = true then some (confP d seen (cut2 58 32 t).1 (cut2 58 32 t).2.1 20, match partOf (cut2 58 32 t).1 with | some k => k :: seen | none => seen) else none := by
  unfold stepP
  rw [hl, hi]
  simp only [Bool.false_eq_true, if_false]
  unfold lineP goodP confP hitP
  cases hp : partOf (cut2 58 32 t).1 with
  | none => simp
  | some k =>
    have hk := (partOf_lt hp).1
    simp only
    cases hr : readP k (cut2 58 32 t).2.1 with
    | none => cases seen.contains k <;> simp [hr]
    | some n =>
      cases hc : seen.contains k <;> simp only [hr, hk, Bool.false_eq_true, if_false, if_true, Option.map_some, Option.isSome_some, decide_true, Bool.and_true]
      · rw [if_neg (by rw [hc]; exact Bool.false_ne_true)]
      · rw [if_pos hc]
theorem step_idle (d : Conf) (seen : List Nat) (t : Bs) (l : Bs) (hl : Lib.trimB l 32 = t) (hi : idle t = true) : stepP (d, seen) l = some (d, seen) := by
  unfold stepP
  rw [hl, hi]
  simp
theorem trimS_one (l : Bs) (c : UInt8) : Lib.trimS l [c] = Lib.trimB l c := by
  unfold Lib.trimS Lib.trimLeftS Lib.trimRightS Lib.trimB Lib.trimLeftB Lib.trimRightB
  have e : (fun x : UInt8 => List.contains [c] x) = (fun x => x == c) := by funext x; by_cases h : x = c <;> simp [h]
  rw [e]
/-- The lines, as texts. -/
def linesB (s : ByteArray) : List ByteArray := Lib.splitB ⟨#[10]⟩ 0 (Lib.countB s ⟨#[10]⟩) s
theorem linesB_data (s : ByteArray) : (linesB s).map bsOf = linesOf (bsOf s) := by
  unfold linesB
  have := Lib.splitB_data ⟨#[10]⟩ 0 (Lib.countB s ⟨#[10]⟩) s
  have e : (fun x : ByteArray => x.data.toList) = bsOf := rfl
  rw [e] at this
  rw [this]
  exact split_lines (bsOf s)
theorem linesB_length (s : ByteArray) : (linesB s).length = Lib.countB s ⟨#[10]⟩ + 1 := Lib.splitB_all ⟨#[10]⟩ (by decide) 0 _ s rfl
theorem linesOf_len : ∀ l : Bs, (linesOf l).length ≤ l.length + 1
  | [] => by simp [linesOf]
  | b :: l => by
    have := linesOf_len l
    rw [linesOf]
    split
    · simp; omega
    · split
      · simp
      · rename_i h t e
        rw [e] at this
        simp at this ⊢
        omega
theorem line_len : ∀ (l : Bs) (x : Bs), x ∈ linesOf l → x.length ≤ l.length
  | [], x, h => by simp [linesOf] at h; subst h; simp
  | b :: l, x, h => by
    have ih := line_len l
    rw [linesOf] at h
    split at h
    · rcases List.mem_cons.1 h with rfl | h
      · simp
      · have := ih x h
        simp only [List.length_cons]; omega
    · split at h
      · rename_i e
        exact absurd e (linesOf_ne l)
      · rename_i y t e
        rw [e] at ih
        rcases List.mem_cons.1 h with rfl | h
        · have := ih y (List.mem_cons_self ..)
          simp only [List.length_cons]; omega
        · have := ih x (List.mem_cons_of_mem _ h)
          simp only [List.length_cons]; omega
theorem small_line (s : ByteArray) (hs : small s) (k : Nat) (h : k < (linesB s).length) : small (linesB s)[k] := by
  have h1 : bsOf (linesB s)[k] ∈ linesOf (bsOf s) := by
    rw [← linesB_data]
    exact List.mem_map_of_mem (List.getElem_mem h)
  have h2 := line_len _ _ h1
  unfold small at *
  rw [size_bs] at *
  omega
theorem trim_len (l : Bs) (c : UInt8) : (Lib.trimB l c).length ≤ l.length := by
  unfold Lib.trimB Lib.trimLeftB Lib.trimRightB
  have h1 := (List.dropWhile_sublist (fun x => x == c) (l := (List.dropWhile (fun x => x == c) l.reverse).reverse)).length_le
  have h2 := (List.dropWhile_sublist (fun x => x == c) (l := l.reverse)).length_le
  simp only [List.length_reverse] at h1 h2
  omega
theorem cut2_len (c d : UInt8) : ∀ l : Bs, (cut2 c d l).1.length ≤ l.length ∧ (cut2 c d l).2.1.length ≤ l.length
  | [] => by simp [cut2]
  | b :: l => by
    have := cut2_len c d l
    rw [cut2]
    split
    · simp
      omega
    · simp only [List.length_cons]; omega
theorem trim_given (l : ByteArray) (hl : small l) : strings_Trim.f l (⟨#[32]⟩ : ByteArray) = some (strOf (Lib.trimB (bsOf l) 32)) := by
  unfold strings_Trim.f
  rw [if_pos (by simp only [smallB, Bool.and_eq_true, decide_eq_true_eq]; exact ⟨⟨hl, by decide⟩, by decide⟩)]
  have e : bsOf (⟨#[32]⟩ : ByteArray) = [32] := rfl
  rw [e, trimS_one]
theorem cut_given (t : ByteArray) (ht : small t) : strings_Cut.f t (⟨#[58, 32]⟩ : ByteArray) = some (strOf (cut2 58 32 (bsOf t)).1, strOf (cut2 58 32 (bsOf t)).2.1, (cut2 58 32 (bsOf t)).2.2) := by
  unfold strings_Cut.f
  rw [if_pos (by simp only [smallB, decide_eq_true_eq]; exact ht)]
  have e : bsOf (⟨#[58, 32]⟩ : ByteArray) = [58, 32] := rfl
  rw [e, cut_two]
theorem run_next {A : Nat ⊕ Conf} {d : Conf} {seen : List Nat} {k : Nat} {LN : List Bs} {x : Bs} {st : Conf × List Nat} (h : A = runP (d, seen) k (LN.drop k)) (hx : LN[k]? = some x) (hs : stepP (d, seen) x = some st) : A = runP (st.1, st.2) (k + 1) (LN.drop (k + 1)) := by
  obtain ⟨hk, rfl⟩ := List.getElem?_eq_some_iff.1 hx
  rw [h, List.drop_eq_getElem_cons hk, runP, hs]
theorem run_stop {A : Nat ⊕ Conf} {d : Conf} {seen : List Nat} {k : Nat} {LN : List Bs} {x : Bs} (h : A = runP (d, seen) k (LN.drop k)) (hx : LN[k]? = some x) (hs : stepP (d, seen) x = none) : A = .inl (k + 1) := by
  obtain ⟨hk, rfl⟩ := List.getElem?_eq_some_iff.1 hx
  rw [h, List.drop_eq_getElem_cons hk, runP, hs]
theorem line_at (s : ByteArray) (k : Nat) (h : k < (linesB s).length) : (linesOf (bsOf s))[k]? = some (bsOf (linesB s)[k]) := by
  rw [← linesB_data]
  simp [h]
theorem idle_of {tb : ByteArray} {t : Bs} (h : tb = strOf t) : (tb.toList.isEmpty = true → idle t = true) ∧ (tb.toList.isEmpty = false → 0 < tb.size) := by
  subst h
  rw [toList_bs, bs_str, size_str]
  cases t <;> simp [idle]
theorem bt_head {tb : ByteArray} {t : Bs} (h : tb = strOf t) (hp : 0 < tb.size) : ∃ x l, t = x :: l ∧ PrintWords.bt tb 0 = (x.toNat : Int) := by
  subst h
  rw [size_str] at hp
  cases t with
  | nil => simp at hp
  | cons x l =>
    refine ⟨x, l, rfl, ?_⟩
    unfold PrintWords.bt
    rw [dif_pos (by simp [size_str])]
    rfl
theorem idle_35 {tb : ByteArray} {t : Bs} (h : tb = strOf t) (hp : 0 < tb.size) (hb : PrintWords.bt tb 0 = 35) : idle t = true := by
  obtain ⟨x, l, rfl, e⟩ := bt_head h hp
  rw [e] at hb
  have : x = 35 := UInt8.toNat_inj.1 (by show x.toNat = 35; omega)
  subst this
  rfl
theorem not_idle {tb : ByteArray} {t : Bs} (h : tb = strOf t) (hp : 0 < tb.size) (hb : ¬ PrintWords.bt tb 0 = 35) : idle t = false := by
  obtain ⟨x, l, rfl, e⟩ := bt_head h hp
  rw [e] at hb
  have : x ≠ 35 := by rintro rfl; exact hb rfl
  simp [idle, this]
end Go.Proofs.YtcppcobcdhnalaaDoor
