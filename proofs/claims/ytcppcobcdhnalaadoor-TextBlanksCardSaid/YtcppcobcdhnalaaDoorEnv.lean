/- What the library's functions that this program calls answer, at a memory that holds the library's own tables: each as a plain function and its contract. -/
import Derived.Test.YtcppcobcdhnalaaDoorShelf
import Derived.WalkKit
import Derived.WalkSmall
import Derived.Lib.Hide
import Derived.Lib.SlTrimSet
import Derived.KernelRfl
namespace Go.Proofs.YtcppcobcdhnalaaDoor
open Go.RowKit
/-- The library's own variables, as the program's text lays them. -/
def Env (w : World) : Prop :=
  (∃ m : Int, w.cell? ⟨0, 0, none⟩ = some (.int .i64 m)) ∧ Lib.TabIs Tryd.prog w "internal/strconv.uint64pow10" .u64 Lib.pow10Tab ∧ 8 ≤ w.heap.size
theorem Env.step {w w' : World} (h : Env w) (hb : Below w.heap.size w w') : Env w' := by
  obtain ⟨⟨m, h1⟩, h2, h3⟩ := h
  exact ⟨⟨m, (hb.cell (p := ⟨0, 0, none⟩) (by show 0 < w.heap.size; omega)).trans h1⟩, var?_below (g := 1) hb (by kernel_rfl) (by omega) h2, by have := hb.size; omega⟩
theorem Env.mono {B : Nat} {w w' : World} (h : Env w) (hB : w.heap.size ≤ B) (hb : Below B w w') : Env w' := h.step (hb.mono hB)
theorem below_grow (w : World) (k : Nat) (os : Array Obj) : Below w.heap.size w (Sort.grow (w.drewN k) os) :=
  ⟨rfl, rfl, rfl, by simp [Sort.grow], fun i hi => by
    show ((w.drewN k).heap ++ os)[i]? = _
    rw [Array.getElem?_append_left (by exact hi)]
    rfl⟩
theorem below_drawn (w : World) (n : Nat) : Below w.heap.size w (w.drewN n) := ⟨rfl, rfl, rfl, Nat.le_refl _, fun _ _ => rfl⟩

theorem ba_size (l : Array UInt8) : (ByteArray.mk l).size = l.size := rfl
abbrev Bs := List UInt8
def bsOf (s : ByteArray) : Bs := s.data.toList
def strOf (l : Bs) : ByteArray := ⟨l.toArray⟩
def asciiB (l : Bs) : Bool := l.all fun b => decide (b.toNat < 128)
def smallB (s : ByteArray) : Bool := decide (s.size < 4294967281)

def strings_Trim.f (a0 a1 : ByteArray) : Option ByteArray := if smallB a0 && smallB a1 && asciiB (bsOf a1) then some (strOf (Lib.trimS (bsOf a0) (bsOf a1))) else none
theorem ascii_all {l : Bs} (h : asciiB l = true) : ∀ (j : Nat) b, l[j]? = some b → b.toNat < 128 := by
  intro j b hj
  have := List.all_eq_true.1 h b (List.mem_of_getElem? hj)
  simpa using this
theorem strings_Trim.calls (a0 a1 r : ByteArray) (w : World) (h : strings_Trim.f a0 a1 = some r) :
    Calls Tryd.prog 23 #[.string a0, .string a1] w fun e w' => e = .returned (.string r) ∧ Below w.heap.size w w' := by
  unfold strings_Trim.f at h
  split at h
  · rename_i hc
    simp only [smallB, Bool.and_eq_true, decide_eq_true_eq] at hc
    cases h
    exact Any.strings_Trim_laid Tryd.lays160 (by kernel_rfl) a0 a1 w (by omega) (by omega) (ascii_all hc.2)
  · cases h

def strings_TrimRight.f (a0 a1 : ByteArray) : Option ByteArray := if smallB a0 && smallB a1 && asciiB (bsOf a1) then some (strOf (Lib.trimRightS (bsOf a0) (bsOf a1))) else none
theorem strings_TrimRight.calls (a0 a1 r : ByteArray) (w : World) (h : strings_TrimRight.f a0 a1 = some r) :
    Calls Tryd.prog 39 #[.string a0, .string a1] w fun e w' => e = .returned (.string r) ∧ Below w.heap.size w w' := by
  unfold strings_TrimRight.f at h
  split at h
  · rename_i hc
    simp only [smallB, Bool.and_eq_true, decide_eq_true_eq] at hc
    cases h
    exact Any.strings_TrimRight_laid Tryd.lays162 (by kernel_rfl) a0 a1 w (by omega) (by omega) (ascii_all hc.2)
  · cases h

def strings_CutPrefix.f (a0 a1 : ByteArray) : Option (ByteArray × Bool) := some (strOf (Lib.trimPrefix (bsOf a0) (bsOf a1)), Lib.hasPrefix (bsOf a0) (bsOf a1))
theorem strings_CutPrefix.calls (a0 a1 r1 : ByteArray) (r2 : Bool) (w : World) (h : strings_CutPrefix.f a0 a1 = some (r1, r2)) :
    Calls Tryd.prog 28 #[.string a0, .string a1] w fun e w' => e = .returned (.tuple #[.string r1, .bool r2]) ∧ Below w.heap.size w w' := by
  unfold strings_CutPrefix.f at h
  cases h
  exact (Tryd.strings_CutPrefix a0 a1 w).mono fun e w' ⟨he, hw⟩ => ⟨he, by rw [hw]; exact Below.refl _ _⟩

def strings_Cut.f (a0 a1 : ByteArray) : Option (ByteArray × ByteArray × Bool) :=
  if smallB a0 then some (strOf (Lib.cut (bsOf a0) (bsOf a1)).1, strOf (Lib.cut (bsOf a0) (bsOf a1)).2.1, (Lib.cut (bsOf a0) (bsOf a1)).2.2) else none
theorem strings_Cut.calls (a0 a1 r1 r2 : ByteArray) (r3 : Bool) (w : World) (hE : Env w) (h : strings_Cut.f a0 a1 = some (r1, r2, r3)) :
    Calls Tryd.prog 24 #[.string a0, .string a1] w fun e w' => e = .returned (.tuple #[.string r1, .string r2, .bool r3]) ∧ Below w.heap.size w w' := by
  obtain ⟨⟨m, hm⟩, _, _⟩ := hE
  unfold strings_Cut.f at h
  split at h
  · rename_i hc
    simp only [smallB, decide_eq_true_eq] at hc
    cases h
    exact (Tryd.strings_Cut a0 a1 m w hc hm).mono fun e w' ⟨he, n, hw⟩ => ⟨he, by rw [hw]; exact below_drawn w n⟩
  · cases h

def strconv_FormatInt.f (a0 a1 : Int) : Option ByteArray := if decide (-9223372036854775808 ≤ a0) && decide (a0 ≤ 9223372036854775807) && decide (a1 = 10) then some (strOf (Lib.itoa a0)) else none
theorem strconv_FormatInt.calls (a0 a1 : Int) (r : ByteArray) (w : World) (hE : Env w) (h : strconv_FormatInt.f a0 a1 = some r) :
    Calls Tryd.prog 38 #[.int .i64 a0, .int .i64 a1] w fun e w' => e = .returned (.string r) ∧ Below w.heap.size w w' := by
  unfold strconv_FormatInt.f at h
  split at h
  · rename_i hc
    simp only [Bool.and_eq_true, decide_eq_true_eq] at hc
    cases h
    rw [hc.2]
    exact (Tryd.strconv_FormatInt_10 a0 hc.1.1 hc.1.2 w hE.2.1).mono fun e w' ⟨he, k, os, hw⟩ => ⟨he, by rw [hw]; exact below_grow w k os⟩
  · cases h

def strconv_Itoa.f (a0 : Int) : Option ByteArray := if decide (-9223372036854775808 ≤ a0) && decide (a0 ≤ 9223372036854775807) then some (strOf (Lib.itoa a0)) else none
theorem strconv_Itoa.calls (a0 : Int) (r : ByteArray) (w : World) (hE : Env w) (h : strconv_Itoa.f a0 = some r) :
    Calls Tryd.prog 35 #[.int .i64 a0] w fun e w' => e = .returned (.string r) ∧ Below w.heap.size w w' := by
  unfold strconv_Itoa.f at h
  split at h
  · rename_i hc
    simp only [Bool.and_eq_true, decide_eq_true_eq] at hc
    cases h
    exact (Tryd.strconv_Itoa a0 hc.1 hc.2 w hE.2.1).mono fun e w' ⟨he, k, os, hw⟩ => ⟨he, by rw [hw]; exact below_grow w k os⟩
  · cases h

theorem below_bytes (w : World) (e : TypeId) (w' : World) (h : w' = w ∨ ∃ t, w' = Lib.bytesWorld w e t) : Below w.heap.size w w' := by
  rcases h with rfl | ⟨t, rfl⟩
  · exact Below.refl _ _
  · exact Lib.bytesWorld_below w e t

def errW : Option Int → Value
  | none => .nilIface
  | some c => .iface 116 (.int .i64 c)
theorem errW_none : errW none = .nilIface := rfl
theorem errW_some (c : Int) : errW (some c) = .iface 116 (.int .i64 c) := rfl
def strconv_ParseInt.f (a0 : ByteArray) (a1 a2 : Int) : Option (Int × Option Int) :=
  match Lib.parseIntB 64 (bsOf a0) with
  | .ok v => if smallB a0 && decide (a1 = 10) && decide (a2 = 64) then some (v, none) else none
  | _ => none
theorem strconv_ParseInt.calls (a0 : ByteArray) (a1 a2 : Int) (r1 : Int) (r2 : Option Int) (w : World) (h : strconv_ParseInt.f a0 a1 a2 = some (r1, r2)) :
    Calls Tryd.prog 52 #[.string a0, .int .i64 a1, .int .i64 a2] w fun e w' => e = .returned (.tuple #[.int .i64 r1, errW r2]) ∧ Below w.heap.size w w' := by
  unfold strconv_ParseInt.f at h
  split at h
  · rename_i v hv
    split at h
    · rename_i hc
      simp only [smallB, Bool.and_eq_true, decide_eq_true_eq] at hc
      cases h
      obtain ⟨⟨hs, h1⟩, h2⟩ := hc
      rw [h1, h2]
      exact (Tryd.strconv_ParseInt_10_at64_ok a0 (by omega) _ hv w).mono fun e w' ⟨he, hw⟩ => ⟨he, below_bytes w _ w' hw⟩
    · cases h
  · cases h
end Go.Proofs.YtcppcobcdhnalaaDoor
