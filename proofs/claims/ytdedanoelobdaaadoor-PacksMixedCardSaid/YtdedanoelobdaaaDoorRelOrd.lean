/- WHAT THIS FILE PROVES: the law of a region that draws its order: a walk in the text's order (Rel), checked edges (RelAny), a forced tail: the region's weakest precondition. It is of no program; no condition. -/
import Derived.Test.YtdedanoelobdaaaDoorRelAny
namespace Go.Proofs.YtdedanoelobdaaaDoor
open Go.RowKit

theorem gets_true {l : Array Bool} {i j : Nat} (hi : i < l.size) : (l.setIfInBounds i true).getD j false = true ↔ (j = i ∨ l.getD j false = true) := by
  by_cases h : i = j
  · subst h; simp [hi]
  · simp only [Array.getD_eq_getD_getElem?, Array.getElem?_setIfInBounds_ne h]
    constructor
    · exact .inr
    · rintro (h' | h')
      · exact absurd h'.symm h
      · exact h'
theorem gets_false {l : Array Bool} {i j : Nat} (hi : i < l.size) : (l.setIfInBounds i true).getD j false = false ↔ (j ≠ i ∧ l.getD j false = false) := by
  rw [← Bool.not_eq_true, gets_true hi, ← Bool.not_eq_true]
  constructor
  · intro h; exact ⟨fun e => h (.inl e), fun e => h (.inr e)⟩
  · rintro ⟨h1, h2⟩ (e | e)
    · exact h1 e
    · exact h2 e
theorem un_of_true {l : Array Bool} {j : Nat} (h : l.getD j true = false) : j < l.size ∧ l.getD j false = false := by
  rcases Nat.lt_or_ge j l.size with h' | h'
  · simp [h'] at h ⊢; exact h
  · simp [Array.getElem?_eq_none h'] at h
theorem un_in {l : Array Bool} {j : Nat} (hj : j < l.size) (h : l.getD j false = false) : l.getD j true = false := by
  simp [hj] at h ⊢; exact h

/-- No way out but the normal one. -/
def normalOnly (Q : Exit → Act → World → Prop) : Exit → Act → World → Prop
  | .normal, a, w => Q .normal a w
  | _, _, _ => False

/-- What stands still while the orders are gone through. -/
structure Ctx (P : Program) (ops : Array Oper) (w0 : World) (T : List (Tmp × VRel)) (N : Nat) (late : List Nat) (a0 aL : Act) (Q : Exit → Act → World → Prop) : Prop where
  ck : Ck ops N late
  ckT : ∀ t V, look T t = some V → ∃ j, j < N ∧ dstAt ops j = some t
  stab : ∀ t V, look T t = some V → ∀ v (w w' : World), Below w.heap.size w w' → V v w → V v w'
  rng : ∀ j t, dstAt ops j = some t → t < a0.tmps.size
  asz : aL.tmps.size = a0.tmps.size
  adf : aL.defers = a0.defers
  un : ∀ t, (∀ j, j < N → dstAt ops j ≠ some t) → aL.tmps.getD t undef = a0.tmps.getD t undef
  spec : ∀ j o, j < N → ops[j]? = some o → relAt P ops w0 T (factOf T aL o) o aL
  fin : ∀ (a' : Act) (n : Aft w0), a'.tmps.size = a0.tmps.size → a'.defers = a0.defers → (∀ t, Knows T aL a' n.W t) → wpList P ops (normalOnly Q) (ops.toList.drop N) a' n.W

structure InvA (ops : Array Oper) (w0 : World) (T : List (Tmp × VRel)) (N : Nat) (a0 aL : Act) (l : Array Bool) (a : Act) (w : World) : Prop where
  size : l.size = ops.size
  closed : ∀ j o, ops[j]? = some o → l.getD j false = true → ∀ e ∈ o.after, Region.binds .any e = true → l.getD e.on false = true
  tail : ∀ t, N ≤ t → l.getD t false = false
  asz : a.tmps.size = a0.tmps.size
  adf : a.defers = a0.defers
  cls : Below w0.heap.size w0 w
  old : ∀ t, (∀ j, j < N → l.getD j false = true → dstAt ops j ≠ some t) → a.tmps.getD t undef = a0.tmps.getD t undef
  facts : ∀ j o t, j < N → ops[j]? = some o → l.getD j false = true → o.dst = some t → factOf T aL o (a.tmps.getD t undef) w

section
variable {P : Program} {ops : Array Oper} {w0 : World} {T : List (Tmp × VRel)} {N : Nat} {late : List Nat} {a0 aL : Act} {Q : Exit → Act → World → Prop} {l : Array Bool} {a : Act} {w : World}

theorem factOf_stab (c : Ctx P ops w0 T N late a0 aL Q) {o : Oper} {v : Value} {w w' : World} (hb : Below w.heap.size w w') (h : factOf T aL o v w) : factOf T aL o v w' := by
  unfold factOf at h ⊢
  split at h
  · trivial
  · rename_i t ht
    split at h
    · rename_i V hV; exact c.stab t V hV v w w' hb h
    · exact h

/-- What an operation of the head sees, its edges having been waited for. -/
theorem InvA.knows (c : Ctx P ops w0 T N late a0 aL Q) (inv : InvA ops w0 T N a0 aL l a w) {o : Oper}
    (hdep : ∀ t ∈ o.looksAt ops, ∀ j, j < N → dstAt ops j = some t → l.getD j false = true) {t : Tmp} (ht : t ∈ o.looksAt ops) : Knows T aL a w t := by
  by_cases hw : ∃ j, j < N ∧ dstAt ops j = some t
  · obtain ⟨j, hj, hd⟩ := hw
    have hl := hdep t ht j hj hd
    cases hx : ops[j]? with
    | none => simp [dstAt, hx] at hd
    | some oj =>
      rw [dstAt_some hx] at hd
      have h := inv.facts j oj t hj hx hl hd
      unfold factOf at h
      rw [hd] at h
      unfold Knows
      simp only at h
      split at h <;> simp only [*]
  · have hno : ∀ j, j < N → dstAt ops j ≠ some t := fun j hj hd => hw ⟨j, hj, hd⟩
    unfold Knows
    cases hl : look T t with
    | some V => exact absurd (c.ckT t V hl) hw
    | none =>
      simp only
      rw [inv.old t fun j hj _ => hno j hj, c.un t hno]

theorem InvA.set (c : Ctx P ops w0 T N late a0 aL Q) (inv : InvA ops w0 T N a0 aL l a w) {k : Nat} {o : Oper} (hk : ops[k]? = some o) (hkN : k < N) (hr : k ∈ Region.ready .any ops l)
    {v : Value} {w' : World} (hb : Below w.heap.size w w') (hf : factOf T aL o v w') : InvA ops w0 T N a0 aL (l.setIfInBounds k true) (a.put o.dst v) w' := by
  obtain ⟨hun, o', ho', hall⟩ := mem_ready.1 hr
  obtain rfl : o' = o := Option.some.inj (ho'.symm.trans hk)
  obtain ⟨hkl, hun⟩ := un_of_true hun
  refine ⟨by simp [inv.size], fun j oj hj hl e he hbd => ?_, fun t ht => ?_, by rw [put_size]; exact inv.asz, by rw [put_defers]; exact inv.adf, below_on inv.cls inv.cls.size hb, fun t ht => ?_, fun j oj t hj hoj hl hd => ?_⟩
  · rw [gets_true hkl] at hl ⊢
    rcases hl with rfl | hl
    · obtain rfl : oj = o' := Option.some.inj (hj.symm.trans hk)
      exact .inr (hall e he hbd)
    · exact .inr (inv.closed j oj hj hl e he hbd)
  · rw [gets_false hkl]
    exact ⟨by omega, inv.tail t ht⟩
  · have h1 : o'.dst ≠ some t := by
      have := ht k hkN (by rw [gets_true hkl]; exact .inl rfl)
      rwa [dstAt_some hk] at this
    rw [put_getD_ne a v h1]
    exact inv.old t fun j hj hl => ht j hj (by rw [gets_true hkl]; exact .inr hl)
  · rw [gets_true hkl] at hl
    by_cases hjk : j = k
    · subst hjk
      obtain rfl : oj = o' := Option.some.inj (hoj.symm.trans hk)
      rw [hd, put_getD_same a v (by rw [inv.asz]; exact c.rng j t (by rw [dstAt_some hoj]; exact hd))]
      exact hf
    · have hl := hl.resolve_left hjk
      have hne : o'.dst ≠ some t := fun e => hjk (c.ck.dst j k t (by rw [dstAt_some hoj]; exact hd) (by rw [dstAt_some hk]; exact e))
      rw [put_getD_ne a v hne]
      exact factOf_stab c hb (inv.facts j oj t hj hoj hl hd)

theorem ready_dep (c : Ctx P ops w0 T N late a0 aL Q) {k : Nat} {o : Oper} (hk : ops[k]? = some o) (hall : ∀ e ∈ o.after, Region.binds .any e = true → l.getD e.on false = true) (hor : k < N)
    : ∀ t ∈ o.looksAt ops, ∀ j, j < N → dstAt ops j = some t → l.getD j false = true := fun t ht j hj hd => by
  obtain ⟨e, he, hb, hon⟩ := waitsFor_spec (c.ck.see k o hk t ht j hj hd (.inl hor)) hk
  rw [← hon]; exact hall e he hb

theorem stepA (c : Ctx P ops w0 T N late a0 aL Q) (inv : InvA ops w0 T N a0 aL l a w) {k : Nat} (hkN : k < N) (hr : k ∈ Region.ready .any ops l) {K : Act → World → Prop}
    (hK : ∀ a' w', InvA ops w0 T N a0 aL (l.setIfInBounds k true) a' w' → K a' w') : wpOp P ops Q k K a w := by
  obtain ⟨hun, o, hk, hall⟩ := mem_ready.1 hr
  have h := c.spec k o hkN hk a ⟨w, inv.cls⟩ (inv.asz.trans c.asz.symm) fun t ht => inv.knows c (ready_dep c hk hall hkN) ht
  unfold wpOp
  simp only [hk]
  split
  · rename_i hw
    rw [if_pos hw] at h
    refine .inl ?_
    unfold Oper.wp
    simp only at h
    generalize (execOp a.eval o).run P w = r at h
    cases r with
    | ok n w' =>
      cases n <;> simp only [calmUpon] at h <;> simp only [Oper.upon]
      case value u => exact hK _ _ (inv.set c hk hkN hr h.2 h.1)
      case skip => exact hK _ _ (inv.set c hk hkN hr h.2 h.1)
      case enter f args =>
        obtain ⟨rfl, h⟩ := h
        exact h.mono fun e w'' ⟨v, he, hv, hb⟩ => by subst he; exact hK _ _ (inv.set c hk hkN hr hb hv)
    | halt x w' => simp only [calmUpon] at h
  · rename_i hw
    rw [if_neg hw] at h
    exact hK _ _ (inv.set c hk hkN hr (Below.refl _ _) h)

theorem pureVal_congr {ops : Array Oper} {a a' : Act} {o : Oper} (h : ∀ t ∈ o.looksAt ops, a'.tmps.getD t undef = a.tmps.getD t undef) : pureVal a'.eval o.op = pureVal a.eval o.op := by
  have h' : ∀ x ∈ o.op.operands, a'.eval x = a.eval x := fun x hx => by
    cases x with
    | tmp t => exact h t (List.mem_append_left _ (List.mem_filterMap.2 ⟨.tmp t, by simpa using hx, rfl⟩))
    | _ => rfl
  obtain ⟨dst, op, type, pos, after, guard⟩ := o
  cases op <;> simp only [pureVal] <;> simp only [Op.operands] at h'
  case move x => rw [h' x (by simp)]
  case assign x => rw [h' x (by simp)]
  case pick c x y => rw [h' c (by simp), h' x (by simp), h' y (by simp)]
  case extract t i => rw [h' t (by simp)]
  case unOp op _ x => cases op <;> simp only; rw [h' x (by simp)]

/-! ### The operations that may come up among the tail's -/
structure Ahead (ops : Array Oper) (N : Nat) (late : List Nat) (l : Array Bool) (a a1 : Act) : Prop where
  asz : a.tmps.size = a1.tmps.size
  adf : a.defers = a1.defers
  agree : ∀ t, (∀ j, j < N → l.getD j false = false → dstAt ops j ≠ some t) → a.tmps.getD t undef = a1.tmps.getD t undef
  fix : ∀ j o, j < N → ops[j]? = some o → l.getD j false = false → j ∈ late →
    if Region.wanted o (yielded ops a1.tmps) = true then ∃ v, pureVal a1.eval o.op = some v ∧ ∀ t, o.dst = some t → a1.tmps.getD t undef = v else ∀ t, o.dst = some t → a1.tmps.getD t undef = undef

theorem array_ext_getD {a b : Array Value} (hs : a.size = b.size) (h : ∀ t, a.getD t undef = b.getD t undef) : a = b := by
  apply Array.ext hs
  intro i h1 h2
  have := h i
  simpa [h1, h2] using this

theorem Act.ext_getD {a b : Act} (hs : a.tmps.size = b.tmps.size) (hd : a.defers = b.defers) (h : ∀ t, a.tmps.getD t undef = b.tmps.getD t undef) : a = b := by
  obtain ⟨x, d⟩ := a
  obtain ⟨y, e⟩ := b
  simp only at hs hd h
  rw [array_ext_getD hs h, hd]

/-- How many have not come up. -/
def left (n : Nat) (l : Array Bool) : Nat := ((List.range n).filter fun j => !l.getD j false).length
theorem left_set {n k : Nat} {l : Array Bool} (hk : k < n) (hl : k < l.size) (h : l.getD k false = false) : left n (l.setIfInBounds k true) + 1 ≤ left n l := by
  unfold left
  have h1 : ((List.range n).filter fun j => !(l.setIfInBounds k true).getD j false) = ((List.range n).filter fun j => !l.getD j false).filter fun j => j != k := by
    rw [List.filter_filter]
    refine List.filter_congr fun j _ => ?_
    by_cases e : j = k
    · subst e; simp [hl]
    · have : (l.setIfInBounds k true).getD j false = l.getD j false := by simp [Array.getElem?_setIfInBounds_ne (Ne.symm e)]
      rw [this]; simp [e]
  rw [h1]
  have hmem : k ∈ (List.range n).filter fun j => !l.getD j false := by simp [hk]; simpa using h
  have hlt : (((List.range n).filter fun j => !l.getD j false).filter fun j => j != k).length < ((List.range n).filter fun j => !l.getD j false).length := by
    rw [List.length_filter_lt_length_iff_exists]
    exact ⟨k, hmem, by simp⟩
  omega
theorem left_zero {n : Nat} {l : Array Bool} (h : left n l = 0) : ∀ j, j < n → l.getD j false = true := fun j hj => by
  unfold left at h
  have h0 := List.eq_nil_of_length_eq_zero h
  rw [List.filter_eq_nil_iff] at h0
  simpa using h0 j (List.mem_range.2 hj)

/-- The first of those that have not come up is ready. -/
theorem first_ready (c : Ck ops N late) (hs : l.size = ops.size) : ∀ (d j : Nat), j = d → j < ops.size → l.getD j false = false → ∃ k, k ≤ j ∧ k ∈ Region.ready .any ops l := by
  intro d
  induction d using Nat.strongRecOn with
  | _ d ih =>
    intro j hd hj hun
    obtain ⟨o, ho⟩ : ∃ o, ops[j]? = some o := ⟨ops[j], by simp [hj]⟩
    by_cases hx : ∃ e ∈ o.after, Region.binds .any e = true ∧ l.getD e.on false = false
    · obtain ⟨e, he, hb, hu⟩ := hx
      have hlt := c.lex j o ho e he hb
      obtain ⟨k, hk, hr⟩ := ih e.on (by omega) e.on rfl (by omega) hu
      exact ⟨k, by omega, hr⟩
    · refine ⟨j, Nat.le_refl _, mem_ready.2 ⟨un_in (by omega) hun, o, ho, fun e he hb => ?_⟩⟩
      cases hv : l.getD e.on false with
      | true => rfl
      | false => exact absurd ⟨e, he, hb, hv⟩ hx

theorem fill (c : Ctx P ops w0 T N late a0 aL Q) : ∀ (d : Nat) (l : Array Bool) (a : Act), left N l = d → InvA ops w0 T N a0 aL l a w → (∀ j, j < N → l.getD j false = false → j ∈ late) → N ≤ ops.size →
    ∃ a1, Ahead ops N late l a a1 ∧ a1.tmps.size = a0.tmps.size ∧ a1.defers = a0.defers ∧ ∀ t, Knows T aL a1 w t := by
  intro d
  induction d using Nat.strongRecOn with
  | _ d ih =>
    intro l a hd inv hlate hN
    by_cases hx : ∃ j, j < N ∧ l.getD j false = false
    · obtain ⟨j, hj, hun⟩ := hx
      obtain ⟨k, hkj, hr⟩ := first_ready c.ck inv.size j j rfl (by omega) hun
      have hkN : k < N := by omega
      obtain ⟨hku, o, hk, hall⟩ := mem_ready.1 hr
      obtain ⟨hkl, hku⟩ := un_of_true hku
      have hkn : ∀ t ∈ o.looksAt ops, Knows T aL a w t := fun t ht => inv.knows c (ready_dep c hk hall hkN) ht
      have h := c.spec k o hkN hk a ⟨w, inv.cls⟩ (inv.asz.trans c.asz.symm) hkn
      obtain ⟨_, o', ho', hpk, hno⟩ := c.ck.late k (hlate k hkN hku)
      obtain rfl : o' = o := Option.some.inj (ho'.symm.trans hk)
      -- its value
      have hval : ∃ v, factOf T aL o' v w ∧ (if Region.wanted o' (yielded ops a.tmps) = true then pureVal a.eval o'.op = some v else v = undef) := by
        by_cases hw : Region.wanted o' (yielded ops a.tmps) = true
        · rw [if_pos hw] at h
          obtain ⟨v, h1, h2⟩ := pure_of_run hpk h
          exact ⟨v, h2, by rw [if_pos hw]; exact h1⟩
        · rw [if_neg hw] at h
          exact ⟨undef, h, by rw [if_neg hw]⟩
      obtain ⟨v, hf, hv⟩ := hval
      have inv1 := inv.set c hk hkN hr (Below.refl _ _) hf
      obtain ⟨a1, ha, hs, hdf, hkn1⟩ := ih (left N (l.setIfInBounds k true)) (by have := left_set (n := N) hkN hkl hku; omega) _ _ rfl inv1
        (fun j hj hu => hlate j hj ((gets_false hkl).1 hu).2) hN
      refine ⟨a1, ⟨(put_size a _ v).symm.trans ha.asz, (put_defers a _ v).symm.trans ha.adf, fun t ht => ?_, fun i oi hi hoi hu hil => ?_⟩, hs, hdf, hkn1⟩
      · have h1 : o'.dst ≠ some t := by rw [← dstAt_some hk]; exact ht k hkN hku
        rw [← put_getD_ne a v h1]
        exact ha.agree t fun j hj hu => ht j hj ((gets_false hkl).1 hu).2
      · by_cases hik : i = k
        · subst hik
          obtain rfl : oi = o' := Option.some.inj (hoi.symm.trans hk)
          have hag : ∀ t ∈ oi.looksAt ops, a1.tmps.getD t undef = a.tmps.getD t undef := fun t ht => by
            have hun2 : ∀ j, j < N → l.getD j false = false → dstAt ops j ≠ some t := fun j hj hu hdj => by
              have := ready_dep c hk hall hkN t ht j hj hdj
              rw [this] at hu; cases hu
            have hself : oi.dst ≠ some t := by rw [← dstAt_some hk]; exact hun2 i hkN hku
            rw [← ha.agree t fun j hj hu => hun2 j hj ((gets_false hkl).1 hu).2, put_getD_ne a v hself]
          have hsz : a1.tmps.size = a.tmps.size := ha.asz.symm.trans (put_size a _ v)
          have hself : ∀ t, oi.dst = some t → a1.tmps.getD t undef = v := fun t ht => by
            rw [← ha.agree t fun j hj hu hdj => ?_, ht, put_getD_same a v (by rw [inv.asz]; exact c.rng i t (by rw [dstAt_some hk]; exact ht))]
            have : j = i := c.ck.dst j i t hdj (by rw [dstAt_some hk]; exact ht)
            exact ((gets_false hkl).1 hu).1 this
          rw [wanted_congr hsz hag]
          split
          · rename_i hw
            rw [if_pos hw] at hv
            refine ⟨v, ?_, hself⟩
            rw [← hv]
            exact pureVal_congr (ops := ops) hag
          · rename_i hw
            rw [if_neg hw] at hv
            intro t ht
            rw [hself t ht, hv]
        · exact ha.fix i oi hi hoi ((gets_false hkl).2 ⟨hik, hu⟩) hil
    · have hall : ∀ j, j < N → l.getD j false = true := fun j hj => by
        cases hv : l.getD j false with
        | true => rfl
        | false => exact absurd ⟨j, hj, hv⟩ hx
      refine ⟨a, ⟨rfl, rfl, fun _ _ => rfl, fun j o hj ho hu => by rw [hall j hj] at hu; cases hu⟩, inv.asz, inv.adf, fun t => ?_⟩
      by_cases hw : ∃ j, j < N ∧ dstAt ops j = some t
      · obtain ⟨j, hj, hdj⟩ := hw
        cases hx : ops[j]? with
        | none => simp [dstAt, hx] at hdj
        | some oj =>
          rw [dstAt_some hx] at hdj
          have h := inv.facts j oj t hj hx (hall j hj) hdj
          unfold factOf at h
          rw [hdj] at h
          unfold Knows
          simp only at h
          split at h <;> simp only [*]
      · have hno : ∀ j, j < N → dstAt ops j ≠ some t := fun j hj hdj => hw ⟨j, hj, hdj⟩
        unfold Knows
        cases hl : look T t with
        | some V => exact absurd (c.ckT t V hl) hw
        | none =>
          simp only
          rw [inv.old t fun j hj _ => hno j hj, c.un t hno]

end
end Go.Proofs.YtdedanoelobdaaaDoor
