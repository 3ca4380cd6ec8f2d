/- Texts, without a program: what numbers and settings by lines say. -/
import Derived.Lib.Split
import Derived.Lib.TrimByte
import Derived.Lib.ItoaNum
import Derived.Lib.ItoaMem
import Derived.Lib.ParseIntB
import Derived.Test.YtcppcobcdhnalaaDoorConfPure
import Derived.Test.YtcppcobcdhnalaaDoorEnv
namespace Go.Proofs.YtcppcobcdhnalaaDoor
open Go

def isDig (b : UInt8) : Bool := decide (48 ≤ b.toNat) && decide (b.toNat ≤ 57)
def dval (n : Nat) (b : UInt8) : Nat := n * 10 + (b.toNat - 48)
def val (l : Bs) : Nat := l.foldl dval 0
/-- A number of so many digits. -/
def digitsP (l : Bs) (most : Nat) : Option Nat := if decide (1 ≤ l.length) && decide (l.length ≤ most) && l.all isDig then some (val l) else none
/-- Cut at the first byte c: ahead of it, behind it, whether it is there. -/
def cutC (c : UInt8) : Bs → Bs × Bs × Bool
  | [] => ([], [], false)
  | b :: l => if b = c then ([], l, true) else (b :: (cutC c l).1, (cutC c l).2)
def cut2 (c d : UInt8) : Bs → Bs × Bs × Bool
  | [] => ([], [], false)
  | b :: l => if b = c ∧ l.head? = some d then ([], l.tail, true) else (b :: (cut2 c d l).1, (cut2 c d l).2)
def linesOf : Bs → List Bs
  | [] => [[]]
  | b :: l => if b = 10 then [] :: linesOf l else match linesOf l with
    | [] => [[b]]
    | h :: t => (b :: h) :: t
/-- A number without its sign, in thousandths. -/
def bodyP (l : Bs) : Option Nat :=
  match digitsP (cutC 46 l).1 9 with
  | none => none
  | some n => if (cutC 46 l).2.2 then (match digitsP (cutC 46 l).2.1 3 with
      | none => none
      | some k => some (n * 1000 + k * 10 ^ (3 - (cutC 46 l).2.1.length))) else some (n * 1000)
def numberP (l : Bs) : Option Int := if l.head? = some 45 then (bodyP l.tail).map fun n => -(n : Int) else (bodyP l).map fun n => (n : Int)
def absP (n : Int) : Nat := if n < 0 then (-(max n (-9223372036854775807))).toNat else n.toNat
def showP (n : Int) : Bs := (if n < 0 then [45] else []) ++ (Lib.decDigits (absP n / 1000) ++ (if absP n % 1000 = 0 then [] else 46 :: Lib.trimRightB ((Lib.decDigits (1000 + absP n % 1000)).drop 1) 48))
def names : List Bs := [[116, 97, 114, 103, 101, 116], [117, 116, 105, 108], [115, 116, 97, 98, 108, 101], [112, 97, 110, 105, 99], [103, 114, 97, 105, 110], [116, 104, 114, 101, 115, 104, 111, 108, 100], [117, 112], [100, 111, 119, 110], [109, 105, 110], [109, 97, 120], [105, 110, 105, 116, 105, 97, 108], [103, 114, 97, 99, 101], [100, 101, 108, 97, 121], [98, 117, 114, 115, 116], [108, 105, 109, 105, 116], [113, 117, 101, 117, 101], [116, 105, 109, 101, 111, 117, 116], [114, 101, 97, 100, 121], [115, 117, 98, 115, 101, 116], [115, 97, 109, 112, 108, 101]]
def thin (k : Nat) : Bool := k == 0 || k == 1 || k == 5 || k == 6 || k == 7 || k == 13
def Conf.list (c : Conf) : List Int := [c.target, c.util, c.stable, c.panic, c.grain, c.threshold, c.up, c.down, c.min, c.max, c.initial, c.grace, c.delay, c.burst, c.limit, c.queue, c.timeout, c.ready, c.subset, c.sample]
def Conf.of (l : List Int) : Conf := ⟨l.getD 0 0, l.getD 1 0, l.getD 2 0, l.getD 3 0, l.getD 4 0, l.getD 5 0, l.getD 6 0, l.getD 7 0, l.getD 8 0, l.getD 9 0, l.getD 10 0, l.getD 11 0, l.getD 12 0, l.getD 13 0, l.getD 14 0, l.getD 15 0, l.getD 16 0, l.getD 17 0, l.getD 18 0, l.getD 19 0⟩
def Conf.at_ (c : Conf) (k : Nat) : Int := c.list.getD k 0
def Conf.put (c : Conf) (k : Nat) (n : Int) : Conf := .of (c.list.set k n)
theorem Conf.of_list (c : Conf) : Conf.of c.list = c := rfl
theorem Conf.list_of (l : List Int) (h : l.length = 20) : (Conf.of l).list = l := by
  match l, h with
  | [_, _, _, _, _, _, _, _, _, _, _, _, _, _, _, _, _, _, _, _], _ => rfl
theorem Conf.list_length (c : Conf) : c.list.length = 20 := rfl
theorem Conf.list_put (c : Conf) (k : Nat) (n : Int) : (c.put k n).list = c.list.set k n := Conf.list_of _ (by rw [List.length_set]; rfl)
theorem Conf.at_put (c : Conf) (k : Nat) (n : Int) (i : Nat) (hk : k < 20) : (c.put k n).at_ i = if i = k then n else c.at_ i := by
  unfold Conf.at_
  rw [Conf.list_put, List.getD_eq_getElem?_getD, List.getD_eq_getElem?_getD, List.getElem?_set]
  by_cases h : k = i
  · subst h
    rw [if_pos rfl, if_pos (by rw [Conf.list_length]; exact hk), if_pos rfl]
    rfl
  · rw [if_neg h, if_neg (fun e => h e.symm)]
theorem Conf.put_self (c : Conf) (k : Nat) (hk : k < 20) : c.put k (c.at_ k) = c := by
  have e : c.list.set k (c.at_ k) = c.list := by
    apply List.ext_getElem?
    intro i
    rw [List.getElem?_set]
    by_cases h : k = i
    · subst h
      have hl : k < c.list.length := hk
      rw [if_pos rfl, if_pos hl]
      unfold Conf.at_
      rw [List.getD_eq_getElem?_getD, List.getElem?_eq_getElem hl]
      rfl
    · rw [if_neg h]
  unfold Conf.put
  rw [e]
  exact Conf.of_list c
def nameOf (k : Nat) : Bs := names.getD k []
def partOf (nm : Bs) : Option Nat := names.findIdx? (· == nm)
def readP (k : Nat) (v : Bs) : Option Int := if thin k then numberP v else (digitsP v 6).map fun n => (n : Int)
/-- A line's part and value. -/
def lineP (l : Bs) : Option (Nat × Int) :=
  match partOf (cut2 58 32 l).1 with
  | none => none
  | some k => (readP k (cut2 58 32 l).2.1).map fun n => (k, n)
def idle (t : Bs) : Bool := t.isEmpty || t.head? == some 35
def stepP (st : Conf × List Nat) (l : Bs) : Option (Conf × List Nat) :=
  if idle (Lib.trimB l 32) then some st else
  match lineP (Lib.trimB l 32) with
  | none => none
  | some (k, n) => if st.2.contains k then none else some (st.1.put k n, k :: st.2)
/-- Lines from the i-th on: the line that is wrong, or the settings. -/
def runP (st : Conf × List Nat) (i : Nat) : List Bs → Nat ⊕ Conf
  | [] => .inr st.1
  | l :: ls => match stepP st l with
    | none => .inl (i + 1)
    | some st' => runP st' (i + 1) ls
def parseP (c : Conf) (s : Bs) : Conf × Int × Int :=
  match runP (c, []) 0 (linesOf s) with
  | .inl n => (c, 4, n)
  | .inr d => if d.may then (d, 0, 0) else (c, 5, 0)
def showV (k : Nat) (n : Int) : Bs := if thin k then showP n else Lib.itoa n
def lineOf (k : Nat) (n : Int) : Bs := nameOf k ++ (58 :: 32 :: showV k n)
def printP (c : Conf) : Bs := (List.range 20).flatMap fun k => lineOf k (c.at_ k) ++ [10]

/- The library's words and these. -/
theorem prefix_one (c b : UInt8) (l : Bs) : List.isPrefixOf [c] (b :: l) = (c == b) := by simp [List.isPrefixOf]
theorem index_miss {b : UInt8} {l sub : Bs} (h : sub.isPrefixOf (b :: l) = false) : Lib.index (b :: l) sub = if Lib.index l sub == -1 then -1 else Lib.index l sub + 1 := by
  rw [Lib.index]; simp [h]
theorem index_hit {b : UInt8} {l sub : Bs} (h : sub.isPrefixOf (b :: l) = true) : Lib.index (b :: l) sub = 0 := by
  rw [Lib.index]; simp [h]
theorem cut_hit {b : UInt8} {l sub : Bs} (h : sub.isPrefixOf (b :: l) = true) : Lib.cut (b :: l) sub = ([], (b :: l).drop sub.length, true) := by
  unfold Lib.cut
  rw [index_hit h]
  simp
theorem cut_miss {b : UInt8} {l sub : Bs} (h : sub.isPrefixOf (b :: l) = false) : Lib.cut (b :: l) sub = (b :: (Lib.cut l sub).1, (Lib.cut l sub).2) := by
  have hi := index_miss h
  have hg := Lib.index_ge l sub
  unfold Lib.cut
  by_cases h0 : 0 ≤ Lib.index l sub
  · have h1 : ¬ (Lib.index l sub == -1) = true := by simp; omega
    rw [if_neg h1] at hi
    have e1 : (Lib.index l sub + 1).toNat = (Lib.index l sub).toNat + 1 := by omega
    have e2 : (Lib.index l sub).toNat + 1 + sub.length = (Lib.index l sub).toNat + sub.length + 1 := by omega
    rw [hi, if_pos (by omega), if_pos h0, e1, List.take_succ_cons, e2, List.drop_succ_cons]
  · have h1 : Lib.index l sub = -1 := by omega
    rw [h1] at hi
    rw [hi, h1]
    simp
theorem cut_one (c : UInt8) : ∀ s : Bs, Lib.cut s [c] = cutC c s
  | [] => by simp [Lib.cut, Lib.index, cutC]
  | b :: l => by
    by_cases h : b = c
    · subst h
      rw [cut_hit (by rw [prefix_one]; simp), cutC, if_pos rfl]
      rfl
    · rw [cut_miss (by rw [prefix_one]; simpa using fun e => h e.symm), cutC, if_neg h, cut_one c l]
theorem cut_two (c d : UInt8) : ∀ s : Bs, Lib.cut s [c, d] = cut2 c d s
  | [] => by simp [Lib.cut, Lib.index, cut2]
  | [b] => by
    have e : List.isPrefixOf [c, d] [b] = false := by simp [List.isPrefixOf]
    rw [cut_miss e]
    simp [Lib.cut, Lib.index, cut2]
  | b :: b2 :: l => by
    have e : List.isPrefixOf [c, d] (b :: b2 :: l) = (c == b && d == b2) := by simp [List.isPrefixOf]
    by_cases h : b = c ∧ b2 = d
    · obtain ⟨rfl, rfl⟩ := h
      rw [cut_hit (by rw [e]; simp), cut2, if_pos ⟨rfl, rfl⟩]
      rfl
    · have e2 : (c == b && d == b2) = false := by
        rw [Bool.and_eq_false_iff]
        by_cases h1 : b = c
        · exact .inr (by simpa using fun e => h ⟨h1, e.symm⟩)
        · exact .inl (by simpa using fun e => h1 e.symm)
      rw [cut_miss (by rw [e, e2]), cut2, if_neg (by simpa using h), cut_two c d (b2 :: l)]
theorem linesOf_cut : ∀ s : Bs, linesOf s = if (cutC 10 s).2.2 then (cutC 10 s).1 :: linesOf (cutC 10 s).2.1 else [s]
  | [] => rfl
  | b :: l => by
    by_cases h : b = 10
    · subst h; simp [linesOf, cutC]
    · rw [linesOf, if_neg h, linesOf_cut l]
      simp only [cutC, if_neg h]
      by_cases hf : (cutC 10 l).2.2 = true
      · simp [hf]
      · simp [hf]
theorem linesOf_ne : ∀ s : Bs, linesOf s ≠ []
  | [] => by simp [linesOf]
  | b :: l => by
    rw [linesOf]
    split
    · simp
    · split <;> simp
theorem split_lines_aux : ∀ (n : Nat) (s : Bs), s.length < n → Lib.splitK [10] 0 (Lib.countFrom [10] n s) s = linesOf s
  | 0, s, h => absurd h (Nat.not_lt_zero _)
  | n + 1, s, h => by
    have hc := cut_one 10 s
    have hg := Lib.index_ge s [10]
    rw [linesOf_cut, ← hc, Lib.countFrom]
    by_cases h0 : Lib.index s [10] = -1
    · have e : Lib.cut s [10] = (s, [], false) := by
        unfold Lib.cut
        rw [if_neg (by omega)]
      rw [e, if_pos (by simp [h0])]
      rfl
    · have hs : s ≠ [] := fun e => h0 (by rw [e]; simp [Lib.index])
      have hl : 1 ≤ s.length := List.length_pos_iff.2 hs
      have e : Lib.cut s [10] = (s.take (Lib.index s [10]).toNat, s.drop ((Lib.index s [10]).toNat + 1), true) := by
        unfold Lib.cut
        rw [if_pos (by omega)]
        rfl
      rw [e, if_neg (by simpa using h0), Nat.add_comm 1, Lib.splitK, if_neg (by simpa using h0)]
      simp only [List.length_cons, List.length_nil, Nat.zero_add, Nat.add_zero, if_true]
      rw [split_lines_aux n _ (by rw [List.length_drop]; omega)]
theorem split_lines (s : Bs) : Lib.split s [10] = linesOf s := split_lines_aux _ s (Nat.lt_succ_self _)

theorem val_snoc (l : Bs) (b : UInt8) : val (l ++ [b]) = val l * 10 + (b.toNat - 48) := by
  unfold val
  rw [List.foldl_append]
  rfl
theorem val_lt : ∀ (l : Bs) (a k : Nat), l.all isDig = true → a < 10 ^ k → l.foldl dval a < 10 ^ (k + l.length)
  | [], a, k, _, h => h
  | b :: l, a, k, hd, h => by
    rw [List.all_cons, Bool.and_eq_true] at hd
    have hb : b.toNat ≤ 57 := by
      have := hd.1
      simp only [isDig, Bool.and_eq_true, decide_eq_true_eq] at this
      exact this.2
    have := val_lt l (dval a b) (k + 1) hd.2 (by unfold dval; rw [Nat.pow_succ]; omega)
    rw [List.foldl_cons, List.length_cons]
    rwa [Nat.add_right_comm] at this
theorem val_bound (l : Bs) (h : l.all isDig = true) : val l < 10 ^ l.length := by
  have := val_lt l 0 0 h (by decide)
  rwa [Nat.zero_add] at this
theorem parseM_digits : ∀ (l : Bs) (a k : Nat), l.all isDig = true → a < 10 ^ k → k + l.length ≤ 18 → Lib.parseUintM (2 ^ 64 - 1) a l = .ok (l.foldl dval a)
  | [], a, k, _, _, _ => rfl
  | b :: l, a, k, hd, h, hk => by
    rw [List.all_cons, Bool.and_eq_true] at hd
    have hb := hd.1
    simp only [isDig, Bool.and_eq_true, decide_eq_true_eq] at hb
    rw [List.length_cons] at hk
    have h18 : a < 10 ^ 17 := Nat.lt_of_lt_of_le h (Nat.pow_le_pow_right (by decide) (by omega))
    rw [Lib.parseUintM, if_pos hb, if_neg (by omega), if_neg (by omega), List.foldl_cons]
    exact parseM_digits l _ (k + 1) hd.2 (by rw [Nat.pow_succ]; omega) (by omega)
theorem parseInt_digits (l : Bs) (h1 : 1 ≤ l.length) (h2 : l.length ≤ 9) (hd : l.all isDig = true) : Lib.parseIntB 64 l = .ok (val l : Int) := by
  match l, h1 with
  | b :: r, _ =>
    have hb : b.toNat ≠ 43 ∧ b.toNat ≠ 45 := by
      rw [List.all_cons, Bool.and_eq_true] at hd
      have := hd.1
      simp only [isDig, Bool.and_eq_true, decide_eq_true_eq] at this
      omega
    have hv := val_bound (b :: r) hd
    have hv2 : val (b :: r) < 10 ^ 9 := Nat.lt_of_lt_of_le hv (Nat.pow_le_pow_right (by decide) h2)
    have hp := parseM_digits (b :: r) 0 0 hd (by decide) (by omega)
    unfold Lib.parseIntB
    simp only [hb.1, hb.2, or_self, if_false, Lib.parseUintB]
    rw [if_neg (by simp), hp]
    have hn : ¬ (2 ^ 63 ≤ val (b :: r)) := by omega
    simp only [show (64 : Nat) - 1 = 63 from rfl]
    change (if ¬ False ∧ 2 ^ 63 ≤ val (b :: r) then _ else _) = _
    simp [hn]
    rfl
end Go.Proofs.YtcppcobcdhnalaaDoor
