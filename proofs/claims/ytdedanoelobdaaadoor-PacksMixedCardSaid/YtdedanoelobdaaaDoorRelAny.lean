/- WHAT THIS FILE PROVES: the walk of Rel (the text's order, up to a forced tail) serves every order in which the region's operations may come up; operations that look at no memory may also come up among the tail's. It is of no program; no condition. -/
import Derived.Test.YtdedanoelobdaaaDoorRel
import Derived.Orders
namespace Go.Proofs.YtdedanoelobdaaaDoor
open Go.RowKit

/-! ### Operations that look at no memory -/
def pureKind : Op → Bool
  | .move _ | .assign _ | .pick .. | .extract .. | .unOp .not .. => true
  | _ => false
def pureVal (ρ : Operand → Value) : Op → Option Value
  | .move x => some (ρ x)
  | .assign x => some (ρ x)
  | .pick c x y => match ρ c with | .bool b => some (if b then ρ x else ρ y) | _ => none
  | .extract t i => match ρ t with | .tuple vs => vs[i]? | _ => none
  | .unOp .not _ x => match ρ x with | .bool b => some (.bool !b) | _ => none
  | _ => none

theorem pure_of_run {P : Program} {w : World} {V : VRel} {ρ : Operand → Value} {o : Oper} (hk : pureKind o.op = true) (h : calmUpon P w V ((execOp ρ o).run P w)) :
    ∃ v, pureVal ρ o.op = some v ∧ V v w := by
  obtain ⟨dst, op, type, pos, after, guard⟩ := o
  cases op <;> simp only [pureKind, Bool.false_eq_true] at hk
  case move x => exact ⟨ρ x, rfl, (by simpa [execOp, calmUpon] using h : V (ρ x) w ∧ _).1⟩
  case assign x => exact ⟨ρ x, rfl, (by simpa [execOp, calmUpon] using h : V (ρ x) w ∧ _).1⟩
  case pick c x y =>
    simp only [pureVal]
    cases hc : ρ c <;> simp [execOp, hc, asBool, calmUpon, stuck] at h ⊢
    exact h.1
  case extract t i =>
    simp only [pureVal]
    cases hc : ρ t <;> simp [execOp, hc, Instr.extract, calmUpon, stuck] at h ⊢
    rename_i vs
    cases hv : vs[i]? <;> simp [hv] at h ⊢
    exact h.1
  case unOp op _ x =>
    cases op <;> simp only [Bool.false_eq_true] at hk
    simp only [pureVal]
    cases hc : ρ x <;> simp [execOp, hc, Op.unary, calmUpon, stuck] at h ⊢
    exact h.1

theorem pure_run {P : Program} {w : World} {ρ : Operand → Value} {o : Oper} {v : Value} (h : pureVal ρ o.op = some v) : (execOp ρ o).run P w = .ok (.value v) w := by
  obtain ⟨dst, op, type, pos, after, guard⟩ := o
  cases op <;> simp only [pureVal, reduceCtorEq] at h
  case move x => obtain rfl := Option.some.inj h; simp [execOp]
  case assign x => obtain rfl := Option.some.inj h; simp [execOp]
  case pick c x y =>
    cases hc : ρ c <;> simp [hc] at h
    simp [execOp, hc, asBool, h]
  case extract t i =>
    cases hc : ρ t <;> simp [hc] at h
    rename_i vs
    simp [execOp, hc, Instr.extract, h]
  case unOp op _ x =>
    cases op <;> simp only [reduceCtorEq] at h
    cases hc : ρ x <;> simp [hc] at h
    simp [execOp, hc, Op.unary, h]

/-! ### What is asked of the region's edges -/
def waitsFor (ops : Array Oper) (j i : Nat) : Bool := match ops[j]? with
  | some oj => oj.after.any fun e => Region.binds .any e && e.on == i
  | none => false
theorem waitsFor_spec {ops : Array Oper} {j i : Nat} {oj : Oper} (h : waitsFor ops j i = true) (hj : ops[j]? = some oj) : ∃ e ∈ oj.after, Region.binds .any e = true ∧ e.on = i := by
  unfold waitsFor at h
  simp only [hj] at h
  obtain ⟨e, he, hb⟩ := Array.any_eq_true'.1 h
  simp only [Bool.and_eq_true, beq_iff_eq] at hb
  exact ⟨e, he, hb.1, hb.2⟩
def ckChain (ops : Array Oper) (N : Nat) : Bool := (List.range ops.size).all fun t => decide (t ≤ N) || waitsFor ops t (t - 1)
def dstAt (ops : Array Oper) (j : Nat) : Option Tmp := (ops[j]?).bind (·.dst)
def ckLex (ops : Array Oper) : Bool := (List.range ops.size).all fun k => match ops[k]? with
  | none => true
  | some o => o.after.all fun e => !Region.binds .any e || decide (e.on < k)
def ckSee (ops : Array Oper) (N : Nat) (late : List Nat) : Bool := (List.range ops.size).all fun k => match ops[k]? with
  | none => true
  | some o => (o.looksAt ops).all fun t => (List.range N).all fun j => dstAt ops j != some t || (decide (N ≤ k) && !late.contains j) || waitsFor ops k j
def ckDst (ops : Array Oper) : Bool := (List.range ops.size).all fun i => (List.range i).all fun j => dstAt ops i == none || dstAt ops i != dstAt ops j
def ckSink (ops : Array Oper) (N : Nat) (late : List Nat) : Bool :=
  (List.range N).all fun i => late.contains i || (List.range (N + 1)).any fun j => decide (i < j) && !late.contains j && waitsFor ops j i
def ckLate (ops : Array Oper) (N : Nat) (late : List Nat) : Bool :=
  late.all fun j => decide (j < N) && match ops[j]? with
    | none => false
    | some o => pureKind o.op && (List.range ops.size).all fun k => decide (k < N) || (o.looksAt ops).all fun t => dstAt ops k != some t
def ckAll (ops : Array Oper) (N : Nat) (late : List Nat) : Bool :=
  Region.noSelect ops && lexOK ops (ops.toList.take N) && ckLex ops && ckSee ops N late && ckDst ops && (N == ops.size || (decide (N < ops.size) && ckSink ops N late && ckChain ops N)) && ckLate ops N late
def ckT (ops : Array Oper) (N : Nat) (T : List (Tmp × VRel)) : Bool := T.all fun p => (List.range N).any fun j => dstAt ops j == some p.1

structure Ck (ops : Array Oper) (N : Nat) (late : List Nat) : Prop where
  sel : ∀ o ∈ ops.toList, ∀ cs b, o.op ≠ .select cs b
  lexOK : lexOK ops (ops.toList.take N) = true
  lex : ∀ k o, ops[k]? = some o → ∀ e ∈ o.after, Region.binds .any e = true → e.on < k
  see : ∀ k o, ops[k]? = some o → ∀ t ∈ o.looksAt ops, ∀ j, j < N → dstAt ops j = some t → (k < N ∨ j ∈ late) → waitsFor ops k j = true
  dst : ∀ i j t, dstAt ops i = some t → dstAt ops j = some t → i = j
  tail : N = ops.size ∨ (N < ops.size ∧ (∀ i, i < N → i ∈ late ∨ ∃ j, j ≤ N ∧ i < j ∧ j ∉ late ∧ waitsFor ops j i = true) ∧ ckChain ops N = true)
  late : ∀ j ∈ late, j < N ∧ ∃ o, ops[j]? = some o ∧ pureKind o.op = true ∧ ∀ k, N ≤ k → ∀ t ∈ o.looksAt ops, dstAt ops k ≠ some t

theorem dstAt_some {ops : Array Oper} {j : Nat} {o : Oper} (h : ops[j]? = some o) : dstAt ops j = o.dst := by simp [dstAt, h]
theorem size_of_some {ops : Array Oper} {j : Nat} {o : Oper} (h : ops[j]? = some o) : j < ops.size := (Array.getElem?_eq_some_iff.1 h).1

theorem ck_of {ops : Array Oper} {N : Nat} {late : List Nat} (h : ckAll ops N late = true) : Ck ops N late := by
  simp only [ckAll, Bool.and_eq_true] at h
  obtain ⟨⟨⟨⟨⟨⟨h1, h2⟩, h3⟩, h4⟩, h5⟩, h6⟩, h7⟩ := h
  refine ⟨fun o ho cs b => ?_, h2, fun k o hk e he hb => ?_, fun k o hk t ht j hj hd hor => ?_, fun i j t hi hj => ?_, ?_, fun j hj => ?_⟩
  · obtain ⟨j, hj⟩ := List.mem_iff_getElem?.1 ho
    exact Region.noSelect_spec h1 j o cs b (by simpa using hj)
  · have := List.all_eq_true.1 h3 k (List.mem_range.2 (size_of_some hk))
    simp only [hk] at this
    have := Array.all_eq_true_iff_forall_mem.1 this e he
    simp only [hb, Bool.not_true, Bool.false_or, decide_eq_true_eq] at this
    exact this
  · have h4' := List.all_eq_true.1 h4 k (List.mem_range.2 (size_of_some hk))
    simp only [hk] at h4'
    have h4'' := List.all_eq_true.1 (List.all_eq_true.1 h4' t ht) j (List.mem_range.2 hj)
    simp only [hd, bne_self_eq_false, Bool.false_or, Bool.or_eq_true, Bool.and_eq_true, decide_eq_true_eq, Bool.not_eq_true', List.contains_eq_mem, decide_eq_false_iff_not] at h4''
    rcases h4'' with h | h
    · rcases hor with h' | h'
      · omega
      · exact absurd h' h.2
    · exact h
  · have key : ∀ i j, j < i → dstAt ops i = some t → dstAt ops j = some t → False := fun i j hlt hi hj => by
      have hi' : i < ops.size := by
        cases hx : ops[i]? with
        | none => simp [dstAt, hx] at hi
        | some o => exact size_of_some hx
      have := List.all_eq_true.1 (List.all_eq_true.1 h5 i (List.mem_range.2 hi')) j (List.mem_range.2 hlt)
      simp [hi, hj] at this
    rcases Nat.lt_trichotomy i j with h | h | h
    · exact (key j i h hj hi).elim
    · exact h
    · exact (key i j h hi hj).elim
  · simp only [Bool.or_eq_true, beq_iff_eq, Bool.and_eq_true, decide_eq_true_eq] at h6
    rcases h6 with h | ⟨⟨ha, hb⟩, hc⟩
    · exact .inl h
    · refine .inr ⟨ha, fun i hi => ?_, hc⟩
      have := List.all_eq_true.1 hb i (List.mem_range.2 hi)
      simp only [Bool.or_eq_true, List.contains_eq_mem, decide_eq_true_eq, List.any_eq_true, Bool.and_eq_true, Bool.not_eq_true', decide_eq_false_iff_not] at this
      rcases this with h | ⟨j, hj, hj2⟩
      · exact .inl h
      · exact .inr ⟨j, by have := List.mem_range.1 hj; omega, hj2.1.1, hj2.1.2, hj2.2⟩
  · have := List.all_eq_true.1 h7 j hj
    simp only [Bool.and_eq_true, decide_eq_true_eq] at this
    obtain ⟨ha, hb⟩ := this
    cases hx : ops[j]? with
    | none => simp [hx] at hb
    | some o =>
      simp only [hx, Bool.and_eq_true] at hb
      refine ⟨ha, o, rfl, hb.1, fun k hk t ht hd => ?_⟩
      have hks : k < ops.size := by
        cases hy : ops[k]? with
        | none => simp [dstAt, hy] at hd
        | some o => exact size_of_some hy
      have := List.all_eq_true.1 hb.2 k (List.mem_range.2 hks)
      simp only [Bool.or_eq_true, decide_eq_true_eq] at this
      rcases this with h | h
      · omega
      · have := List.all_eq_true.1 h t ht
        simp [hd] at this

end Go.Proofs.YtdedanoelobdaaaDoor
