/- A region that draws its order: one walk in the order of the text serves every order, if what only reads says the same in every world of a class, and what writes stands in a forced order. A cheap check in the place of the exhaustive one. -/
import Derived.Deep.Quiet
import Derived.StillTail
import Derived.Tactics2
namespace Go.Proofs.Det
open Go
variable {P : Program} {ops : Array Oper}

def waits (o : Oper) (i : Nat) : Bool := o.after.any fun e => Region.binds .any e && e.on == i
theorem waits_spec {o : Oper} {i : Nat} (h : waits o i = true) : ∃ e ∈ o.after, Region.binds .any e = true ∧ e.on = i := by
  unfold waits at h
  obtain ⟨e, he, hb⟩ := Array.any_eq_true'.1 h
  simp only [Bool.and_eq_true, beq_iff_eq] at hb
  exact ⟨e, he, hb.1, hb.2⟩

/-- What the check says, pair by pair. -/
structure AT (ops : Array Oper) (T : List Nat) : Prop where
  sel : ∀ (j : Nat) (o : Oper) cs b, ops[j]? = some o → o.op ≠ .select cs b
  acyc : ∀ (i : Nat) (o : Oper), ops[i]? = some o → ∀ e ∈ o.after, Region.binds .any e = true → e.on < i
  own : ∀ (i : Nat) (o : Oper) d, ops[i]? = some o → i ∉ T → o.dst = some d → d ∉ o.looksAt ops
  uniq : ∀ (i j : Nat) (oi oj : Oper) d, i ≠ j → ops[i]? = some oi → ops[j]? = some oj → i ∉ T → oi.dst = some d → oj.dst ≠ some d
  p2 : ∀ (i j : Nat) (oi oj : Oper) d, i ≠ j → ops[i]? = some oi → ops[j]? = some oj → i ∉ T → oi.dst = some d → d ∈ oj.looksAt ops → waits oj i = true
  p3 : ∀ (i j : Nat) (oi oj : Oper) d, i ≠ j → ops[i]? = some oi → ops[j]? = some oj → i ∉ T → j ∈ T → oj.dst = some d → d ∈ oi.looksAt ops → waits oj i = true
  chain : ∀ (k t t' : Nat) (o : Oper), T[k]? = some t → T[k + 1]? = some t' → ops[t']? = some o → waits o t = true
  tin : ∀ t ∈ T, t < ops.size
  tnd : T.Nodup

def pairB (ops : Array Oper) (T : List Nat) (i : Nat) (oi : Oper) (j : Nat) (oj : Oper) : Bool :=
  i == j || ((match oi.dst with
    | some d => oj.dst != some d && (!(oj.looksAt ops).contains d || waits oj i)
    | none => true) &&
   (!T.contains j || match oj.dst with
    | some d => !(oi.looksAt ops).contains d || waits oj i
    | none => true))
def chainB (ops : Array Oper) : List Nat → Bool
  | t :: t' :: r => (match ops[t']? with | some o => waits o t | none => true) && decide (t < t') && chainB ops (t' :: r)
  | _ => true
def atB (l : List Oper) (T : List Nat) : Bool :=
  Region.noSelect l.toArray && l.zipIdx.all (fun p => p.1.after.all fun e => !Region.binds .any e || decide (e.on < p.2)) &&
  l.zipIdx.all (fun p => T.contains p.2 || ((match p.1.dst with | some d => !(p.1.looksAt l.toArray).contains d | none => true) && l.zipIdx.all (fun q => pairB l.toArray T p.2 p.1 q.2 q.1))) &&
  chainB l.toArray T && T.all (fun t => decide (t < l.length))

theorem chainB_lt : ∀ (T : List Nat), chainB ops T = true → T.Pairwise (· < ·)
  | [], _ => List.Pairwise.nil
  | [_], _ => List.pairwise_singleton _ _
  | t :: t' :: r, h => by
    simp only [chainB, Bool.and_eq_true, decide_eq_true_eq] at h
    have ih := chainB_lt (t' :: r) h.2
    rw [List.pairwise_cons]
    refine ⟨fun x hx => ?_, ih⟩
    rw [List.mem_cons] at hx
    rcases hx with rfl | hx
    · exact h.1.2
    · exact Nat.lt_trans h.1.2 ((List.pairwise_cons.1 ih).1 x hx)
theorem chainB_spec : ∀ (T : List Nat), chainB ops T = true → ∀ (k t t' : Nat) (o : Oper), T[k]? = some t → T[k + 1]? = some t' → ops[t']? = some o → waits o t = true
  | [], _, k, t, t', o, h1, _, _ => by simp at h1
  | [x], _, k, t, t', o, h1, h2, _ => by simp at h2
  | x :: y :: r, h, 0, t, t', o, h1, h2, ho => by
    simp only [List.getElem?_cons_zero, List.getElem?_cons_succ, Option.some.injEq] at h1 h2
    subst h1 h2
    simp only [chainB, Bool.and_eq_true, ho] at h
    exact h.1.1
  | x :: y :: r, h, k + 1, t, t', o, h1, h2, ho => by
    simp only [chainB, Bool.and_eq_true] at h
    rw [List.getElem?_cons_succ] at h1 h2
    exact chainB_spec (y :: r) h.2 k t t' o h1 h2 ho

theorem atB_spec {l : List Oper} {T : List Nat} (h : atB l T = true) : AT l.toArray T := by
  simp only [atB, Bool.and_eq_true] at h
  obtain ⟨⟨⟨⟨hs, ha⟩, hp⟩, hc⟩, ht⟩ := h
  have mem : ∀ {i : Nat} {o : Oper}, l.toArray[i]? = some o → (o, i) ∈ l.zipIdx := fun {i o} ho => by
    rw [List.mem_zipIdx_iff_getElem?]
    simpa using ho
  have hpair : ∀ (i j : Nat) (oi oj : Oper), i ≠ j → l.toArray[i]? = some oi → l.toArray[j]? = some oj → i ∉ T → pairB l.toArray T i oi j oj = true := by
    intro i j oi oj _ hi hj hiT
    have h1 := List.all_eq_true.1 hp _ (mem hi)
    simp only [Bool.or_eq_true, Bool.and_eq_true, List.contains_iff_mem] at h1
    rcases h1 with h1 | h1
    · exact absurd h1 hiT
    · exact List.all_eq_true.1 h1.2 _ (mem hj)
  refine ⟨fun j o cs b ho => Region.noSelect_spec hs j o cs b ho, ?_, ?_, ?_, ?_, ?_, chainB_spec T hc, ?_, (chainB_lt T hc).imp (fun h => Nat.ne_of_lt h)⟩
  · intro i o ho e he hb
    have h1 := List.all_eq_true.1 ha _ (mem ho)
    have h2 := Array.all_eq_true_iff_forall_mem.1 h1 e he
    simpa [hb] using h2
  · intro i o d ho hiT hd
    have h1 := List.all_eq_true.1 hp _ (mem ho)
    simp only [Bool.or_eq_true, Bool.and_eq_true, List.contains_iff_mem] at h1
    rcases h1 with h1 | h1
    · exact absurd h1 hiT
    · have h2 := h1.1
      simp only [hd] at h2
      simpa using h2
  · intro i j oi oj d hij hi hj hiT hd
    have h1 := hpair i j oi oj hij hi hj hiT
    simp only [pairB, Bool.or_eq_true, beq_iff_eq, hij, false_or, Bool.and_eq_true, hd] at h1
    simpa using h1.1.1
  · intro i j oi oj d hij hi hj hiT hd hm
    have h1 := hpair i j oi oj hij hi hj hiT
    simp only [pairB, Bool.or_eq_true, beq_iff_eq, hij, false_or, Bool.and_eq_true, hd] at h1
    rcases h1.1.2 with h2 | h2
    · rw [Bool.not_eq_true'] at h2
      rw [List.contains_iff_mem.2 hm] at h2
      cases h2
    · exact h2
  · intro i j oi oj d hij hi hj hiT hjT hd hm
    have h1 := hpair i j oi oj hij hi hj hiT
    simp only [pairB, Bool.or_eq_true, beq_iff_eq, hij, false_or, Bool.and_eq_true] at h1
    rcases h1.2 with h2 | h2
    · rw [Bool.not_eq_true'] at h2
      rw [List.contains_iff_mem.2 hjT] at h2
      cases h2
    · simp only [hd, Bool.or_eq_true] at h2
      rcases h2 with h2 | h2
      · rw [Bool.not_eq_true'] at h2
        rw [List.contains_iff_mem.2 hm] at h2
        cases h2
      · exact h2
  · intro t htT
    have := List.all_eq_true.1 ht t htT
    simpa using this

theorem agree {o : Oper} {a c : Act} (hs : ∀ cs b, o.op ≠ .select cs b) (h : ∀ t ∈ o.looksAt ops, a.tmps[t]? = c.tmps[t]?) :
    execOp a.eval o = execOp c.eval o ∧ Region.wanted o (yielded ops a.tmps) = Region.wanted o (yielded ops c.tmps) := by
  constructor
  · refine execOp_congr o hs fun x hx => ?_
    cases x with
    | tmp t =>
      have ht : t ∈ o.looksAt ops := List.mem_append_left _ (List.mem_filterMap.2 ⟨.tmp t, by simpa using hx, rfl⟩)
      simp only [Act.eval, Array.getD_eq_getD_getElem?, h t ht]
    | _ => rfl
  · unfold Region.wanted
    cases hg : o.guard with
    | none => rfl
    | some gw =>
      obtain ⟨g, want⟩ := gw
      have hy : yielded ops a.tmps g = yielded ops c.tmps g := by
        unfold yielded
        cases ht : (ops[g]?).bind (·.dst) with
        | none => rfl
        | some t =>
          have := h t (by simp [Oper.looksAt, hg, ht])
          simp [this]
      simp only [hy]

/-- What an operation that only reads says in the frame c, in every world of the class: it yields a value that c holds already. -/
def QF (P : Program) (ops : Array Oper) (G : World → Prop) (o : Oper) (c : Act) : Prop :=
  if Region.wanted o (yielded ops c.tmps) then ∀ W, G W → ∃ v, o.quietAt P c (fun w' => ∃ n, w' = W.drewN n) W v ∧ c.put o.dst v = c
  else c.put o.dst undef = c

/-- The operations that stand in a forced order, one behind the other; draws may come between. -/
def wpT (P : Program) (ops : Array Oper) (G : World → Prop) (Q : Exit → Act → World → Prop) : List Oper → Act → World → Prop
  | [], a, w => ∀ n, Q .normal a (w.drewN n)
  | o :: rest, a, w => ∀ n, if Region.wanted o (yielded ops a.tmps) then o.wp P a (w.drewN n) (fun a' w' => a'.defers = a.defers ∧ G w' ∧ wpT P ops G Q rest a' w') (fun _ _ _ => False) else wpT P ops G Q rest (a.put o.dst undef) (w.drewN n)

theorem wpT_drewN {G : World → Prop} {Q : Exit → Act → World → Prop} : ∀ (l : List Oper) (a : Act) (w : World) (m : Nat), wpT P ops G Q l a w → wpT P ops G Q l a (w.drewN m)
  | [], _, w, m, h => fun n => by rw [World.drewN_drewN]; exact h (m + n)
  | _ :: _, _, w, m, h => fun n => by rw [World.drewN_drewN]; exact h (m + n)

theorem wp_of_quietAt {o : Oper} {a : Act} {C : World → Prop} {w : World} {v : Value} {K : Act → World → Prop} {Q : Exit → Act → World → Prop} (hC : C w) (h : o.quietAt P a C w v) (hK : ∀ w', C w' → K (a.put o.dst v) w') : o.wp P a w K Q := by
  unfold Oper.quietAt at h
  unfold Oper.wp
  generalize (execOp a.eval o).run P w = r at *
  cases r with
  | ok n w' =>
    cases n <;> simp only [Oper.quietUpon] at h <;> simp only [Oper.upon]
    case value u =>
      obtain ⟨e1, e2⟩ := h
      rw [e1, e2]
      exact hK _ hC
    case skip =>
      obtain ⟨e1, e2⟩ := h
      rw [e1, ← e2]
      exact hK _ hC
    case enter f args =>
      obtain ⟨e1, hc⟩ := h
      rw [e1]
      exact hc.mono fun e w'' ⟨he, hw''⟩ => by subst he; exact hK _ hw''
  | halt x w' => simp only [Oper.quietUpon] at h

/-- Another frame, the same operands: what holds behind the one holds behind the other. -/
theorem wp_frame {o : Oper} {a c : Act} {w : World} {K K' : Act → World → Prop} {Q : Exit → Act → World → Prop} (he : execOp a.eval o = execOp c.eval o)
    (hK : ∀ v w', K' (c.put o.dst v) w' → K (a.put o.dst v) w') (hnd : ∀ d w', K' ({ c with defers := d :: c.defers }.put o.dst undef) w' → K ({ a with defers := d :: a.defers }.put o.dst undef) w')
    (h : o.wp P c w K' (fun _ _ _ => False)) : o.wp P a w K Q := by
  unfold Oper.wp at *
  rw [he]
  generalize (execOp c.eval o).run P w = r at *
  cases r with
  | ok n w' =>
    cases n <;> simp only [Oper.upon] at h ⊢
    case value u => exact hK _ _ h
    case skip => exact hK _ _ h
    case defer d => exact hnd _ _ h
    case enter f args =>
      refine Calls.mono h fun e w'' he => ?_
      cases e with
      | returned u => exact hK _ _ he
      | panicked c => exact he.elim
      | outgrown => obtain ⟨_, _, hf⟩ := he; exact hf.elim
    case row row args => exact Rows.mono h fun u w'' he => hK _ _ he
  | halt x w' =>
    cases x <;> simp only [Oper.upon] at h ⊢

def strip (T : List Nat) : Nat → List Oper → List Oper
  | _, [] => []
  | k, o :: l => if T.contains k then strip T (k + 1) l else o :: strip T (k + 1) l

theorem put_get {a : Act} {o : Oper} {v : Value} {t : Tmp} : (a.put o.dst v).tmps[t]? = if o.dst = some t ∧ t < a.tmps.size then some v else a.tmps[t]? := by
  unfold Act.put
  cases hd : o.dst with
  | none => simp
  | some d =>
    by_cases h : d = t
    · subst h
      by_cases hs : d < a.tmps.size
      · simp [hs]
      · simp [hs]
    · simp [Array.getElem?_setIfInBounds_ne h, h]
theorem put_size {a : Act} {o : Oper} {v : Value} : (a.put o.dst v).tmps.size = a.tmps.size := by
  unfold Act.put; cases o.dst <;> simp
theorem put_defers {a : Act} {o : Oper} {v : Value} : (a.put o.dst v).defers = a.defers := by
  unfold Act.put; cases o.dst <;> rfl
theorem act_ext {a c : Act} (h : ∀ t : Nat, a.tmps[t]? = c.tmps[t]?) (hd : a.defers = c.defers) : a = c := by
  cases a; cases c
  simp only [Act.mk.injEq]
  exact ⟨Array.ext_getElem? h, hd⟩

theorem lex {T : List Nat} (hA : AT ops T) (W : World) (c : Act) :
    ∀ (l : List Oper) (k : Nat) (a : Act), (∀ j, l[j]? = ops[k + j]?) → wpQuiet P ops (fun w' => ∃ n, w' = W.drewN n) (fun a' => a' = c) (strip T k l) a →
    a.tmps.size = c.tmps.size ∧ a.defers = c.defers ∧ (∀ t, (∀ (j : Nat) (o : Oper), k ≤ j → ops[j]? = some o → j ∉ T → o.dst ≠ some t) → a.tmps[t]? = c.tmps[t]?) ∧
    ∀ (j : Nat) (o : Oper), k ≤ j → ops[j]? = some o → j ∉ T → if Region.wanted o (yielded ops c.tmps) then ∃ v, o.quietAt P c (fun w' => ∃ n, w' = W.drewN n) W v ∧ c.put o.dst v = c else c.put o.dst undef = c := by
  intro l
  induction l with
  | nil =>
    intro k a hl h
    have e : a = c := h
    subst e
    refine ⟨rfl, rfl, fun _ _ => rfl, fun j o hkj ho _ => ?_⟩
    have := hl (j - k)
    rw [show k + (j - k) = j from by omega, ho] at this
    simp at this
  | cons o l ih =>
    intro k a hl h
    have h0 : ops[k]? = some o := by simpa using (hl 0).symm
    have hl' : ∀ j, l[j]? = ops[k + 1 + j]? := fun j => by have := hl (j + 1); simpa [Nat.add_assoc, Nat.add_comm 1 j] using this
    by_cases hkT : k ∈ T
    · have e : strip T k (o :: l) = strip T (k + 1) l := by simp [strip, hkT]
      rw [e] at h
      obtain ⟨h1, h2, h3, h4⟩ := ih (k + 1) a hl' h
      refine ⟨h1, h2, fun t ht => h3 t fun j oj hj => ht j oj (by omega), fun j oj hj hoj hjT => ?_⟩
      rcases Nat.eq_or_lt_of_le hj with e | e
      · subst e; exact absurd hkT hjT
      · exact h4 j oj e hoj hjT
    · have e : strip T k (o :: l) = o :: strip T (k + 1) l := by simp [strip, hkT]
      rw [e] at h
      -- what stands behind the operation, and the operation in its own frame
      obtain ⟨v, hv, hrest⟩ : ∃ v, (if Region.wanted o (yielded ops a.tmps) then o.quietAt P a (fun w' => ∃ n, w' = W.drewN n) W v else v = undef) ∧ wpQuiet P ops (fun w' => ∃ n, w' = W.drewN n) (fun a' => a' = c) (strip T (k + 1) l) (a.put o.dst v) := by
        unfold wpQuiet at h
        by_cases hw : Region.wanted o (yielded ops a.tmps) = true
        · simp only [hw, if_true] at h ⊢
          obtain ⟨v, h1, h2⟩ := h
          exact ⟨v, h1 W ⟨0, rfl⟩, h2⟩
        · simp only [hw] at h ⊢
          exact ⟨undef, rfl, h⟩
      obtain ⟨h1, h2, h3, h4⟩ := ih (k + 1) _ hl' hrest
      rw [put_size] at h1
      rw [put_defers] at h2
      have hout : ∀ t, (∀ (j : Nat) (o : Oper), k ≤ j → ops[j]? = some o → j ∉ T → o.dst ≠ some t) → a.tmps[t]? = c.tmps[t]? := fun t ht => by
        have := h3 t fun j oj hj => ht j oj (by omega)
        rwa [put_get, if_neg (fun hh => ht k o (Nat.le_refl _) h0 hkT hh.1)] at this
      refine ⟨h1, h2, hout, fun j oj hj hoj hjT => ?_⟩
      rcases Nat.eq_or_lt_of_le hj with e | e
      · subst e
        have eo : oj = o := Option.some.inj (hoj.symm.trans h0)
        subst eo
        have hag := agree (ops := ops) (o := oj) (a := a) (c := c) (fun cs b => hA.sel k oj cs b h0) (fun t ht => hout t fun j oj' hj' hoj' hjT' hd => by
          rcases Nat.eq_or_lt_of_le hj' with e | e
          · subst e
            have : oj' = oj := Option.some.inj (hoj'.symm.trans h0)
            subst this
            exact hA.own _ _ _ h0 hkT hd ht
          · obtain ⟨ed, hed, hb, hon⟩ := waits_spec (hA.p2 j k oj' oj t (by omega) hoj' h0 hjT' hd ht)
            have := hA.acyc k oj h0 ed hed hb
            omega)
        have hput : c.put oj.dst v = c := by
          refine act_ext (fun t => ?_) put_defers
          rw [put_get]
          by_cases hd : oj.dst = some t ∧ t < c.tmps.size
          · rw [if_pos hd]
            have := h3 t fun j oj' hj' hoj' hjT' hd' => hA.uniq j k oj' oj t (by omega) hoj' h0 hjT' hd' hd.1
            rw [put_get, if_pos ⟨hd.1, by rw [h1]; exact hd.2⟩] at this
            exact this
          · rw [if_neg hd]
        rw [hag.2] at hv
        by_cases hw : Region.wanted oj (yielded ops c.tmps) = true
        · simp only [hw, if_true] at hv ⊢
          refine ⟨v, ?_, hput⟩
          unfold Oper.quietAt at hv ⊢
          rw [← hag.1]
          exact hv
        · simp only [hw] at hv ⊢
          have : v = undef := by simpa using hv
          subst this
          simpa using hput
      · exact h4 j oj e hoj hjT

/-- How many have not come up yet. -/
def unl (ops : Array Oper) (listed : Array Bool) : Nat := (List.range ops.size).countP fun i => !listed.getD i true
theorem countP_change : ∀ (l : List Nat) (p q : Nat → Bool) (i : Nat), l.Nodup → i ∈ l → p i = true → q i = false → (∀ j, j ≠ i → p j = q j) → l.countP q + 1 = l.countP p
  | [], _, _, _, _, h, _, _, _ => by cases h
  | x :: l, p, q, i, hn, hi, hp, hq, hj => by
    rw [List.nodup_cons] at hn
    rw [List.countP_cons, List.countP_cons]
    by_cases hx : x = i
    · subst hx
      have : l.countP q = l.countP p := List.countP_congr fun y hy => by
        rw [hj y (fun e => hn.1 (e ▸ hy))]
      rw [hp, hq, this]
      simp
    · have hi' : i ∈ l := by
        rcases List.mem_cons.1 hi with h | h
        · exact absurd h.symm hx
        · exact h
      have := countP_change l p q i hn.2 hi' hp hq hj
      rw [hj x hx]
      omega
theorem unl_set {listed : Array Bool} {i : Nat} (hs : listed.size = ops.size) (hi : i < ops.size) (hu : listed.getD i true = false) : unl ops (listed.setIfInBounds i true) + 1 = unl ops listed := by
  unfold unl
  refine countP_change _ _ _ i List.nodup_range (List.mem_range.2 hi) (by rw [hu]; rfl) ?_ (fun j hj => by rw [getD_set_ne true (Ne.symm hj)])
  simp [hs, hi]

/-- How the frame at hand stands to the one in which all that only reads has come up. -/
structure Rel (ops : Array Oper) (T : List Nat) (listed : Array Bool) (a c : Act) : Prop where
  size : a.tmps.size = c.tmps.size
  defers : a.defers = c.defers
  same : ∀ t, (∀ (j : Nat) (o : Oper), ops[j]? = some o → j ∉ T → listed.getD j true = false → o.dst ≠ some t) → a.tmps[t]? = c.tmps[t]?

theorem getD_false_of {listed : Array Bool} {i : Nat} (h : listed.getD i true = false) : listed.getD i false = false := getD_both h
theorem not_listed {listed : Array Bool} {i : Nat} (h : listed.getD i true = false) (h2 : listed.getD i false = true) : False := by
  rw [getD_both h] at h2; cases h2

theorem main {T : List Nat} (hA : AT ops T) (G : World → Prop) (hG : ∀ W n, G W → G (W.drewN n)) (Q : Exit → Act → World → Prop) :
    ∀ (fuel : Nat) (listed : Array Bool) (a c : Act) (w : World) (k : Nat), listed.size = ops.size → unl ops listed ≤ fuel →
      (∀ (j : Nat) (o : Oper), ops[j]? = some o → listed.getD j false = true → ∀ e ∈ o.after, Region.binds .any e = true → listed.getD e.on false = true) →
      (∀ t ∈ T.take k, listed.getD t false = true) → (∀ t ∈ T.drop k, listed.getD t true = false) →
      Rel ops T listed a c → (∀ (j : Nat) (o : Oper), ops[j]? = some o → j ∉ T → listed.getD j true = false → QF P ops G o c) →
      wpT P ops G Q ((T.drop k).filterMap (ops[·]?)) c w → G w → wpAny P .any ops Q fuel listed a w := by
  -- where nothing may come up any more, all has
  have fin : ∀ (listed : Array Bool) (a c : Act) (w : World) (k : Nat), listed.size = ops.size → Region.ready .any ops listed = [] →
      (∀ t ∈ T.drop k, listed.getD t true = false) → Rel ops T listed a c → wpT P ops G Q ((T.drop k).filterMap (ops[·]?)) c w → Q .normal a w := by
    intro listed a c w k hsz hr hrest hrel hT
    have all : ∀ i, i < ops.size → listed.getD i true = true := by
      intro i
      induction i using Nat.strongRecOn with
      | _ i ih =>
        intro hi
        cases hl : listed.getD i true with
        | true => rfl
        | false =>
          exfalso
          have ho : ops[i]? = some ops[i] := Array.getElem?_eq_getElem hi
          have : i ∈ Region.ready .any ops listed := mem_ready.2 ⟨hl, ops[i], ho, fun e he hb => by
            have h1 := hA.acyc i _ ho e he hb
            have h2 := ih e.on h1 (by omega)
            have h3 : e.on < listed.size := by omega
            simp [h3] at h2 ⊢
            exact h2⟩
          rw [hr] at this
          cases this
    have hrest0 : T.drop k = [] := by
      cases hd : T.drop k with
      | nil => rfl
      | cons t r =>
        exfalso
        have h1 := hrest t (by rw [hd]; exact List.mem_cons_self)
        have h2 := all t (hA.tin t (List.mem_of_mem_drop (by rw [hd]; exact List.mem_cons_self)))
        rw [h1] at h2
        cases h2
    rw [hrest0] at hT
    have e : a = c := act_ext (fun t => hrel.same t fun j o ho _ hl => by
      rw [all j (Array.getElem?_eq_some_iff.1 ho).1] at hl
      cases hl) hrel.defers
    subst e
    exact hT 0
  intro fuel
  induction fuel with
  | zero =>
    intro listed a c w k hsz hu hcl htk hdr hrel hq hT hw
    have hr : Region.ready .any ops listed = [] := by
      cases hr : Region.ready .any ops listed with
      | nil => rfl
      | cons i r =>
        exfalso
        have hi : i ∈ Region.ready .any ops listed := by rw [hr]; exact List.mem_cons_self
        obtain ⟨h1, o, ho, _⟩ := mem_ready.1 hi
        have := unl_set hsz (Array.getElem?_eq_some_iff.1 ho).1 h1
        omega
    exact ⟨hr, fin listed a c w k hsz hr hdr hrel hT⟩
  | succ fuel ih =>
    intro listed a c w k hsz hu hcl htk hdr hrel hq hT hw
    refine ⟨fun hr => fin listed a c w k hsz hr hdr hrel hT, fun i hi => ?_⟩
    obtain ⟨hun, o, ho, hall⟩ := mem_ready.1 hi
    have hin : i < ops.size := (Array.getElem?_eq_some_iff.1 ho).1
    have hdec := unl_set hsz hin hun
    have hcl' : ∀ (j : Nat) (o' : Oper), ops[j]? = some o' → (listed.setIfInBounds i true).getD j false = true → ∀ e ∈ o'.after, Region.binds .any e = true → (listed.setIfInBounds i true).getD e.on false = true := by
      intro j o' ho' hl e he hb
      by_cases hij : i = j
      · subst hij
        have : o' = o := Option.some.inj (ho'.symm.trans ho)
        subst this
        exact getD_set_true (hall e he hb)
      · rw [getD_set_ne false hij] at hl
        exact getD_set_true (hcl j o' ho' hl e he hb)
    -- the operands are as in the frame in which all has come up
    have hag := agree (ops := ops) (o := o) (a := a) (c := c) (fun cs b => hA.sel i o cs b ho) (fun t ht => hrel.same t fun j oj hoj hjT hl hd => by
      by_cases hij : j = i
      · subst hij
        have : oj = o := Option.some.inj (hoj.symm.trans ho)
        subst this
        exact hA.own _ _ _ ho hjT hd ht
      · obtain ⟨e, he, hb, hon⟩ := waits_spec (hA.p2 j i oj o t hij hoj ho hjT hd ht)
        have h1 := hall e he hb
        rw [hon] at h1
        exact not_listed hl h1)
    unfold wpOp
    simp only [ho]
    by_cases hiT : i ∈ T
    · -- the next of the forced ones
      have hk : ∃ r, T.drop k = i :: r := by
        cases hd : T.drop k with
        | nil =>
          exfalso
          have : i ∈ T.take k := by
            have h1 : T.take k ++ T.drop k = T := List.take_append_drop k T
            rw [hd, List.append_nil] at h1
            rw [h1]; exact hiT
          exact not_listed hun (htk i this)
        | cons t r =>
          by_cases e : i = t
          · subst e; exact ⟨r, rfl⟩
          · exfalso
            -- i stands behind t, and waits for the one ahead of it, which has not come up
            have hmem : i ∈ T.drop k := by
              have h1 : T.take k ++ T.drop k = T := List.take_append_drop k T
              have h2 : i ∈ T.take k ++ T.drop k := by rw [h1]; exact hiT
              rcases List.mem_append.1 h2 with h3 | h3
              · exact (not_listed hun (htk i h3)).elim
              · exact h3
            obtain ⟨m, hm, hme⟩ := List.mem_iff_getElem.1 hmem
            have hm0 : m ≠ 0 := by
              rintro rfl
              apply e
              rw [← hme]
              simp [hd]
            have hT1 : T[k + m]? = some i := by
              rw [← List.getElem?_drop, List.getElem?_eq_getElem hm, hme]
            have hT0 : T[k + (m - 1)]? = some (T.drop k)[m - 1] := by
              rw [← List.getElem?_drop, List.getElem?_eq_getElem (by omega)]
            have hw1 := hA.chain (k + (m - 1)) _ i o hT0 (by rw [show k + (m - 1) + 1 = k + m from by omega]; exact hT1) ho
            obtain ⟨e', he', hb', hon'⟩ := waits_spec hw1
            have h1 := hall e' he' hb'
            rw [hon'] at h1
            exact not_listed (hdr _ (List.getElem_mem (by omega))) h1
      obtain ⟨r, hr⟩ := hk
      have hr1 : T.drop (k + 1) = r := by
        rw [← List.drop_drop, hr]; rfl
      have hnd : i ∉ r := by
        have h1 : (T.drop k).Nodup := hA.tnd.sublist (List.drop_sublist k T)
        rw [hr] at h1
        exact (List.nodup_cons.1 h1).1
      have htk' : ∀ t ∈ T.take (k + 1), (listed.setIfInBounds i true).getD t false = true := by
        intro t ht
        have h1 : T.take (k + 1) = T.take k ++ [i] := by
          have hl : k < T.length := by
            have : (T.drop k).length = (i :: r).length := by rw [hr]
            simp only [List.length_drop, List.length_cons] at this
            omega
          rw [List.take_succ_eq_append_getElem hl]
          congr 2
          have : T[k]? = some i := by
            have h2 : (T.drop k)[0]? = some i := by rw [hr]; rfl
            rwa [List.getElem?_drop, Nat.add_zero] at h2
          rw [List.getElem?_eq_getElem hl] at this
          exact Option.some.inj this
        rw [h1, List.mem_append] at ht
        rcases ht with ht | ht
        · exact getD_set_true (htk t ht)
        · simp only [List.mem_singleton] at ht
          subst ht
          simp [hsz, hin]
      have hdr' : ∀ t ∈ T.drop (k + 1), (listed.setIfInBounds i true).getD t true = false := by
        intro t ht
        rw [hr1] at ht
        have hne : i ≠ t := fun e => hnd (e ▸ ht)
        rw [getD_set_ne true hne]
        exact hdr t (by rw [hr]; exact List.mem_cons_of_mem _ ht)
      have hrel' : ∀ v, Rel ops T (listed.setIfInBounds i true) (a.put o.dst v) (c.put o.dst v) := fun v => by
        refine ⟨by rw [put_size, put_size]; exact hrel.size, by rw [put_defers, put_defers]; exact hrel.defers, fun t ht => ?_⟩
        rw [put_get, put_get, hrel.size]
        by_cases hd : o.dst = some t ∧ t < c.tmps.size
        · rw [if_pos hd, if_pos hd]
        · rw [if_neg hd, if_neg hd]
          refine hrel.same t fun j oj hoj hjT hl => ht j oj hoj hjT ?_
          rw [getD_set_ne true (fun (e : i = j) => hjT (e ▸ hiT))]
          exact hl
      have hq' : ∀ v (j : Nat) (o' : Oper), ops[j]? = some o' → j ∉ T → (listed.setIfInBounds i true).getD j true = false → QF P ops G o' (c.put o.dst v) := by
        intro v j o' ho' hjT hl
        have hji : i ≠ j := fun e => hjT (e ▸ hiT)
        rw [getD_set_ne true hji] at hl
        have h0 := hq j o' ho' hjT hl
        have hno : ∀ d, o.dst = some d → d ∉ o'.looksAt ops := fun d hd hm => by
          obtain ⟨e, he, hb, hon⟩ := waits_spec (hA.p3 j i o' o d (Ne.symm hji) ho' ho hjT hiT hd hm)
          have h1 := hall e he hb
          rw [hon] at h1
          exact not_listed hl h1
        have hne : ∀ d, o.dst = some d → o'.dst ≠ some d := fun d hd hd' => hA.uniq j i o' o d (Ne.symm hji) ho' ho hjT hd' hd
        unfold QF at h0 ⊢
        rw [wanted_put o' c o.dst v hno]
        by_cases hw' : Region.wanted o' (yielded ops c.tmps) = true
        · simp only [hw', if_true] at h0 ⊢
          intro W hW
          obtain ⟨u, h1, h2⟩ := h0 W hW
          refine ⟨u, ?_, ?_⟩
          · unfold Oper.quietAt at h1 ⊢
            rw [execOp_put o' (fun cs b => hA.sel j o' cs b ho') c o.dst v hno]
            exact h1
          · rw [Act.put_comm c v u hne, h2]
        · simp only [hw'] at h0 ⊢
          have h0' : c.put o'.dst undef = c := by simpa using h0
          simp only [Bool.false_eq_true, if_false]
          rw [Act.put_comm c v undef hne, h0']
      rw [hr] at hT
      have hT' : wpT P ops G Q (o :: r.filterMap (ops[·]?)) c w := by
        have : (i :: r).filterMap (ops[·]?) = o :: r.filterMap (ops[·]?) := by simp [ho]
        rwa [this] at hT
      have h0 := hT' 0
      rw [World.drewN_zero] at h0
      rw [hag.2]
      by_cases hwt : Region.wanted o (yielded ops c.tmps) = true
      · simp only [hwt, if_true] at h0 ⊢
        refine .inl (wp_frame hag.1 (fun v w' ⟨_, hw', ht'⟩ => ?_) (fun d w' ⟨hdf, _, _⟩ => ?_) h0)
        · exact ih _ _ (c.put o.dst v) w' (k + 1) (by simpa using hsz) (by omega) hcl' htk' hdr' (hrel' v) (hq' v) (by rw [hr1]; exact ht') hw'
        · exfalso
          rw [put_defers] at hdf
          have := congrArg List.length hdf
          simp at this
      · simp only [hwt] at h0 ⊢
        simp only [Bool.false_eq_true, if_false] at h0 ⊢
        exact ih _ _ (c.put o.dst undef) w (k + 1) (by simpa using hsz) (by omega) hcl' htk' hdr' (hrel' undef) (hq' undef) (by rw [hr1]; exact h0) hw
    · -- one that only reads
      have hqi := hq i o ho hiT hun
      have hdr' : ∀ t ∈ T.drop k, (listed.setIfInBounds i true).getD t true = false := fun t ht => by
        rw [getD_set_ne true (fun (e : i = t) => hiT (by rw [e]; exact List.mem_of_mem_drop ht))]
        exact hdr t ht
      have hrel' : ∀ v, c.put o.dst v = c → Rel ops T (listed.setIfInBounds i true) (a.put o.dst v) c := fun v hv => by
        refine ⟨by rw [put_size]; exact hrel.size, by rw [put_defers]; exact hrel.defers, fun t ht => ?_⟩
        rw [put_get]
        by_cases hd : o.dst = some t ∧ t < a.tmps.size
        · rw [if_pos hd]
          have h1 : (c.put o.dst v).tmps[t]? = c.tmps[t]? := by rw [hv]
          rw [put_get, if_pos ⟨hd.1, by rw [← hrel.size]; exact hd.2⟩] at h1
          exact h1
        · rw [if_neg hd]
          by_cases hd2 : o.dst = some t
          · have hge : a.tmps.size ≤ t := by
              rcases Nat.lt_or_ge t a.tmps.size with h | h
              · exact absurd ⟨hd2, h⟩ hd
              · exact h
            rw [Array.getElem?_eq_none hge, Array.getElem?_eq_none (by rw [← hrel.size]; exact hge)]
          · refine hrel.same t fun j oj hoj hjT hl => ?_
            by_cases hij : i = j
            · subst hij
              have : oj = o := Option.some.inj (hoj.symm.trans ho)
              subst this
              exact hd2
            · exact ht j oj hoj hjT (by rw [getD_set_ne true hij]; exact hl)
      have hq' : ∀ (j : Nat) (o' : Oper), ops[j]? = some o' → j ∉ T → (listed.setIfInBounds i true).getD j true = false → QF P ops G o' c := by
        intro j o' ho' hjT hl
        by_cases hij : i = j
        · subst hij
          simp [hsz, hin] at hl
        · rw [getD_set_ne true hij] at hl
          exact hq j o' ho' hjT hl
      have htk' : ∀ t ∈ T.take k, (listed.setIfInBounds i true).getD t false = true := fun t ht => getD_set_true (htk t ht)
      unfold QF at hqi
      rw [hag.2]
      by_cases hwt : Region.wanted o (yielded ops c.tmps) = true
      · simp only [hwt, if_true] at hqi ⊢
        obtain ⟨v, hv, hput⟩ := hqi w hw
        refine .inl (wp_of_quietAt (C := fun w' => ∃ n, w' = w.drewN n) ⟨0, rfl⟩ (v := v) ?_ ?_)
        · unfold Oper.quietAt at hv ⊢
          rw [hag.1]
          exact hv
        · rintro w' ⟨n, rfl⟩
          exact ih _ _ c _ k (by simpa using hsz) (by omega) hcl' htk' hdr' (hrel' v hput) hq' (wpT_drewN _ _ _ n hT) (hG w n hw)
      · simp only [hwt] at hqi ⊢
        simp only [Bool.false_eq_true, if_false] at hqi ⊢
        exact ih _ _ c w k (by simpa using hsz) (by omega) hcl' htk' hdr' (hrel' undef hqi) hq' hT hw

/-- **A region that draws its order.** T: the places of the operations that write, in a forced order; G: a class of worlds, closed under draws, in which all others read one and the same; c: the frame that they leave. -/
theorem region {id : Nat} {Q : Exit → Act → World → Prop} {a : Act} {w : World} {l : List Oper} (T : List Nat) (hm : P.follows .mixedOrders = true) (hB : atB l T = true)
    (G : World → Prop) (hG : ∀ W n, G W → G (W.drewN n)) (hw : G w) (c : Act)
    (hq : ∀ W, G W → wpQuiet P l.toArray (fun w' => ∃ n, w' = W.drewN n) (fun a' => a' = c) (strip T 0 l) a)
    (ht : wpT P l.toArray G Q (T.filterMap (l.toArray[·]?)) c w.drew) : (Code.region id l.toArray true).wp P Q a w := by
  have hA := atB_spec hB
  refine wp_region_any hm ?_
  have hw1 : G w.drew := hG w 1 hw
  have hl : ∀ j, l[j]? = l.toArray[0 + j]? := fun j => by simp
  have hlex := fun W hW => lex (P := P) hA W c l 0 a hl (hq W hW)
  obtain ⟨h1, h2, h3, _⟩ := hlex _ hw1
  refine main hA G hG Q l.toArray.size _ a c w.drew 0 (by simp) ?_ ?_ (by intro t ht; simp at ht) ?_ ⟨h1, h2, fun t ht => h3 t fun j o _ ho hjT => ht j o ho hjT ?_⟩ ?_ ht hw1
  · unfold unl
    have := List.countP_le_length (p := fun i => !(Array.replicate l.toArray.size false).getD i true) (l := List.range l.toArray.size)
    simpa using this
  · intro j o _ h
    rw [getD_replicate_false] at h
    cases h
  · intro t htT
    have := hA.tin t (by simpa using htT)
    simp at this
    simp [this]
  · have := (Array.getElem?_eq_some_iff.1 ho).1
    simp at this
    simp [this]
  · intro j o ho hjT _
    have h4 := fun W hW => (hlex W hW).2.2.2 j o (Nat.zero_le _) ho hjT
    unfold QF
    by_cases hwt : Region.wanted o (yielded l.toArray c.tmps) = true
    · simp only [hwt, if_true] at h4 ⊢
      exact h4
    · simp only [hwt] at h4 ⊢
      exact h4 _ hw1
theorem keep {T : List Nat} {i : Nat} {o : Oper} {l : List Oper} {C : World → Prop} {Q : Act → Prop} {a : Act} (h : T.contains i = false) (k : wpQuiet P ops C Q (o :: strip T (i + 1) l) a) : wpQuiet P ops C Q (strip T i (o :: l)) a := by
  rw [strip, h]
  exact k
theorem skip {T : List Nat} {i : Nat} {o : Oper} {l : List Oper} {C : World → Prop} {Q : Act → Prop} {a : Act} (h : T.contains i = true) (k : wpQuiet P ops C Q (strip T (i + 1) l) a) : wpQuiet P ops C Q (strip T i (o :: l)) a := by
  rw [strip, h]
  exact k
theorem stop {T : List Nat} {i : Nat} {C : World → Prop} {Q : Act → Prop} {a : Act} (k : wpQuiet P ops C Q [] a) : wpQuiet P ops C Q (strip T i []) a := k
theorem one {l : List Oper} {G : World → Prop} {Q : Exit → Act → World → Prop} {t1 : Nat} {o1 : Oper} {a : Act} {w : World} (h1 : l.toArray[t1]? = some o1) (hw1 : Region.wanted o1 (yielded l.toArray a.tmps) = true) {T : List Nat} {v : Value} {w' : Nat → World}
    (hr : ∀ n, (execOp a.eval o1).run P (w.drewN n) = .ok (.value v) (w' n)) (hG : ∀ n, G (w' n)) (k : ∀ n, wpT P l.toArray G Q (T.filterMap (l.toArray[·]?)) (a.put o1.dst v) (w' n)) : wpT P l.toArray G Q ((t1 :: T).filterMap (l.toArray[·]?)) a w := by
  rw [List.filterMap_cons, h1]
  intro n
  rw [if_pos hw1]
  unfold Oper.wp
  rw [hr n]
  exact ⟨by cases o1.dst <;> rfl, hG n, k n⟩
theorem none_left {G : World → Prop} {Q : Exit → Act → World → Prop} {a : Act} {w : World} {l : List Oper} (k : ∀ n, Q .normal a (w.drewN n)) : wpT P l.toArray G Q (([] : List Nat).filterMap (l.toArray[·]?)) a w := k
end Go.Proofs.Det
