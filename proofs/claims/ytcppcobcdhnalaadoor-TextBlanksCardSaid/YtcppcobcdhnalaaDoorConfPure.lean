/- Settings, without a program: their twenty numbers, and which may be. -/
namespace Go.Proofs.YtcppcobcdhnalaaDoor
structure Conf where
  target : Int
  util : Int
  stable : Int
  panic : Int
  grain : Int
  threshold : Int
  up : Int
  down : Int
  min : Int
  max : Int
  initial : Int
  grace : Int
  delay : Int
  burst : Int
  limit : Int
  queue : Int
  timeout : Int
  ready : Int
  subset : Int
  sample : Int
  deriving DecidableEq
def inB (n lo hi : Int) : Bool := decide (lo ≤ n) && decide (n ≤ hi)
/-- Whether each part may be, in the parts' order. -/
def Conf.oks (c : Conf) : List Bool :=
  [inB c.target 10 1000000, inB c.util 100 1000, inB c.stable 6 600, inB c.panic 1 c.stable, inB c.grain 1 c.panic, inB c.threshold 1100 10000, inB c.up 1001 1000000, inB c.down 1001 1000000, inB c.min 0 100,
   c.max == 0 || inB c.max (if 1 ≤ c.min then c.min else 1) 100, inB c.initial 0 (if c.max = 0 then 100 else c.max), inB c.grace 0 600, inB c.delay 0 600, c.burst == -1000 || inB c.burst 0 100000000, inB c.limit 1 1000, inB c.queue 0 200, inB c.timeout 1 10000, inB c.ready 0 100, inB c.subset 0 100, inB c.sample 0 100]
def Conf.may (c : Conf) : Bool := c.oks.all id
def Conf.dflt : Conf := ⟨10000, 700, 60, 6, 1, 2000, 10000, 2000, 0, 0, 1, 30, 0, 20000, 10, 100, 60, 3, 0, 0⟩
theorem all_take_succ (l : List Bool) (k : Nat) (h : k < l.length) : (l.take (k + 1)).all id = ((l.take k).all id && l.getD k true) := by
  rw [List.take_succ_eq_append_getElem h, List.all_append, List.getD_eq_getElem?_getD, List.getElem?_eq_getElem h, Option.getD_some]
  simp only [List.all_cons, List.all_nil, Bool.and_true, id]
theorem all_false (l : List Bool) (k : Nat) (h : k < l.length) (hf : l.getD k true = false) : l.all id = false := by
  rw [List.getD_eq_getElem?_getD, List.getElem?_eq_getElem h, Option.getD_some] at hf
  cases ha : l.all id
  · rfl
  · rw [List.all_eq_true] at ha
    have := ha _ (List.getElem_mem h)
    rw [hf] at this
    cases this
end Go.Proofs.YtcppcobcdhnalaaDoor
