/- WHAT THIS FILE PROVES: one walk of the text's order serves every order of a region that draws its order, where the operations ahead of a forced tail turn nothing that lay there; some of them may yield a value of which a fact alone is known (new memory). It is of no program; no condition. -/
import Derived.WalkKit
namespace Go.Proofs.YtdedanoelobdaaaDoor
open Go.RowKit

/-- The worlds behind w in which nothing that lay in w has turned. -/
structure Aft (w : World) where
  W : World
  ok : Below w.heap.size w W

instance (w : World) : Inhabited (Aft w) := ⟨⟨w, Below.refl _ _⟩⟩

theorem below_on {B : Nat} {w w1 w2 : World} (h : Below B w w1) (hB : B ≤ w1.heap.size) (k : Below w1.heap.size w1 w2) : Below B w w2 :=
  h.trans (k.mono hB)
def Aft.on {w : World} (n : Aft w) {w' : World} (h : Below n.W.heap.size n.W w') : Aft w := ⟨w', below_on n.ok n.ok.size h⟩
@[simp] theorem Aft.on_W {w : World} (n : Aft w) {w' : World} (h : Below n.W.heap.size n.W w') : (n.on h).W = w' := rfl

abbrev VRel := Value → World → Prop

def calmUpon (P : Program) (w : World) (V : VRel) : Result Next → Prop
  | .ok (.value u) w' => V u w' ∧ Below w.heap.size w w'
  | .ok .skip w' => V undef w' ∧ Below w.heap.size w w'
  | .ok (.enter f args) w' => w' = w ∧ Calls P f args w (fun e w'' => ∃ v, e = .returned v ∧ V v w'' ∧ Below w.heap.size w w'')
  | _ => False

theorem calmUpon_mono {P : Program} {w : World} {V V' : VRel} {r : Result Next} (h : ∀ v w', V v w' → V' v w') (hr : calmUpon P w V r) : calmUpon P w V' r := by
  cases r with
  | ok n w' =>
    cases n <;> simp only [calmUpon] at hr ⊢
    case value u => exact ⟨h _ _ hr.1, hr.2⟩
    case skip => exact ⟨h _ _ hr.1, hr.2⟩
    case enter f args => exact ⟨hr.1, hr.2.mono fun e w'' ⟨v, he, hv, hb⟩ => ⟨v, he, h _ _ hv, hb⟩⟩
  | halt x w' => simp only [calmUpon] at hr

/-- One value, in every world behind w0. -/
def calm (P : Program) (o : Oper) (a : Act) (w0 : World) (K : Act → Prop) : Prop :=
  ∃ x, (∀ n : Aft w0, calmUpon P n.W (fun v _ => v = x) ((execOp a.eval o).run P n.W)) ∧ K (a.put o.dst x)

def look {α : Type} (T : List (Tmp × α)) (t : Tmp) : Option α := (T.find? (fun p => p.1 == t)).map (·.2)

def Knows (T : List (Tmp × VRel)) (a a' : Act) (w : World) (t : Tmp) : Prop :=
  match look T t with
  | none => a'.tmps.getD t undef = a.tmps.getD t undef
  | some V => V (a'.tmps.getD t undef) w

def relAt (P : Program) (ops : Array Oper) (w0 : World) (T : List (Tmp × VRel)) (V : VRel) (o : Oper) (a : Act) : Prop :=
  ∀ (a' : Act) (n : Aft w0), a'.tmps.size = a.tmps.size → (∀ t ∈ o.looksAt ops, Knows T a a' n.W t) →
    if Region.wanted o (yielded ops a'.tmps) = true then calmUpon P n.W V ((execOp a'.eval o).run P n.W) else V undef n.W

def blind (T : List (Tmp × VRel)) (ops : Array Oper) (o : Oper) : Bool := (o.looksAt ops).all fun t => (look T t).isNone

/-- The walk of the text's order, up to the tail. T: the temporaries of which a fact alone is known; U: those whose value hangs on such a one, and is known. -/
def head (P : Program) (ops : Array Oper) (w0 : World) (T : List (Tmp × VRel)) (U : List (Tmp × Value)) (Qf : Act → Prop) : List Oper → Act → Prop
  | [], a => Qf a
  | o :: rest, a =>
    match o.dst.bind (look T) with
    | some V => relAt P ops w0 T V o a ∧ head P ops w0 T U Qf rest (a.put o.dst undef)
    | none =>
      match o.dst.bind (look U) with
      | some x => relAt P ops w0 T (fun v _ => v = x) o a ∧ head P ops w0 T U Qf rest (a.put o.dst x)
      | none => blind T ops o = true ∧
          if Region.wanted o (yielded ops a.tmps) = true then calm P o a w0 (head P ops w0 T U Qf rest) else head P ops w0 T U Qf rest (a.put o.dst undef)

section
variable {P : Program} {ops : Array Oper} {w0 : World} {T : List (Tmp × VRel)} {U : List (Tmp × Value)} {Qf : Act → Prop} {o : Oper} {rest : List Oper} {a : Act}

theorem head_nil (h : Qf a) : head P ops w0 T U Qf [] a := h
theorem calm_mono {K K' : Act → Prop} (h : ∀ a, K a → K' a) (hc : calm P o a w0 K) : calm P o a w0 K' := by
  obtain ⟨x, h1, h2⟩ := hc
  exact ⟨x, h1, h _ h2⟩
theorem head_step (h1 : o.dst.bind (look T) = none) (h2 : o.dst.bind (look U) = none) (h3 : blind T ops o = true)
    (h : ∀ K : Act → Prop, (∀ a, head P ops w0 T U Qf rest a → K a) → if Region.wanted o (yielded ops a.tmps) = true then calm P o a w0 K else K (a.put o.dst undef)) :
    head P ops w0 T U Qf (o :: rest) a := by
  unfold head
  simp only [h1, h2]
  exact ⟨h3, h _ fun _ h => h⟩
theorem head_rel {V : VRel} (h1 : o.dst.bind (look T) = some V) (h : relAt P ops w0 T V o a) (hr : ∀ K : Act → Prop, (∀ a, head P ops w0 T U Qf rest a → K a) → K (a.put o.dst undef)) :
    head P ops w0 T U Qf (o :: rest) a := by
  unfold head
  simp only [h1]
  exact ⟨h, hr _ fun _ h => h⟩
theorem head_eq {x : Value} (h1 : o.dst.bind (look T) = none) (h2 : o.dst.bind (look U) = some x) (h : relAt P ops w0 T (fun v _ => v = x) o a) (hr : ∀ K : Act → Prop, (∀ a, head P ops w0 T U Qf rest a → K a) → K (a.put o.dst x)) :
    head P ops w0 T U Qf (o :: rest) a := by
  unfold head
  simp only [h1, h2]
  exact ⟨h, hr _ fun _ h => h⟩

/-! ### What the walk shows of each operation, against the last frame -/
def lexOK (ops : Array Oper) : List Oper → Bool
  | [] => true
  | o :: rest => ((o.looksAt ops).all fun t => (o :: rest).all fun o' => o'.dst != some t) && (rest.all fun o' => o.dst.isNone || o'.dst != o.dst) && lexOK ops rest

def factOf (T : List (Tmp × VRel)) (aL : Act) (o : Oper) (v : Value) (w : World) : Prop :=
  match o.dst with
  | none => True
  | some t => match look T t with
    | some V => V v w
    | none => v = aL.tmps.getD t undef

theorem put_size (a : Act) (d : Option Tmp) (v : Value) : (a.put d v).tmps.size = a.tmps.size := by cases d <;> simp [Act.put]
theorem put_defers (a : Act) (d : Option Tmp) (v : Value) : (a.put d v).defers = a.defers := by cases d <;> simp [Act.put]
theorem put_getD_ne (a : Act) {d : Option Tmp} (v : Value) {t : Tmp} (h : d ≠ some t) : (a.put d v).tmps.getD t undef = a.tmps.getD t undef := by
  cases d with
  | none => rfl
  | some d =>
    have hne : d ≠ t := fun e => h (by rw [e])
    simp [Act.put, Array.getElem?_setIfInBounds_ne hne]
theorem put_getD_same (a : Act) {t : Tmp} (v : Value) (h : t < a.tmps.size) : (a.put (some t) v).tmps.getD t undef = v := by
  simp [Act.put, h]

theorem yielded_congr {a a' : Act} {g : Nat} (hs : a'.tmps.size = a.tmps.size) (h : ∀ t, (ops[g]?).bind (·.dst) = some t → a'.tmps.getD t undef = a.tmps.getD t undef) : yielded ops a'.tmps g = yielded ops a.tmps g := by
  unfold yielded
  cases ht : (ops[g]?).bind (·.dst) with
  | none => rfl
  | some t =>
    have e := h t ht
    have : a'.tmps[t]? = a.tmps[t]? := by
      by_cases hlt : t < a.tmps.size
      · have hlt' : t < a'.tmps.size := by rw [hs]; exact hlt
        simp [hlt, hlt'] at e ⊢
        exact e
      · rw [Array.getElem?_eq_none (by rw [hs]; exact Nat.le_of_not_lt hlt), Array.getElem?_eq_none (Nat.le_of_not_lt hlt)]
    simp only [Option.bind_some, this]

theorem wanted_congr {a a' : Act} (hs : a'.tmps.size = a.tmps.size) (h : ∀ t ∈ o.looksAt ops, a'.tmps.getD t undef = a.tmps.getD t undef) :
    Region.wanted o (yielded ops a'.tmps) = Region.wanted o (yielded ops a.tmps) := by
  unfold Region.wanted
  cases hg : o.guard with
  | none => rfl
  | some gw =>
    obtain ⟨g, want⟩ := gw
    have : yielded ops a'.tmps g = yielded ops a.tmps g := yielded_congr hs fun t ht => h t (by simp [Oper.looksAt, hg, ht])
    simp only [this]

theorem execOp_agree {a a' : Act} (hsel : ∀ cs b, o.op ≠ .select cs b) (h : ∀ t ∈ o.looksAt ops, a'.tmps.getD t undef = a.tmps.getD t undef) : execOp a'.eval o = execOp a.eval o :=
  execOp_congr o hsel fun x hx => by
    cases x with
    | tmp t => exact h t (List.mem_append_left _ (List.mem_filterMap.2 ⟨.tmp t, by simpa using hx, rfl⟩))
    | _ => rfl

theorem head_spec (hsel : ∀ o ∈ ops.toList, ∀ cs b, o.op ≠ .select cs b) : ∀ (l : List Oper) (a : Act), lexOK ops l = true → (∀ o ∈ l, ∀ t, o.dst = some t → t < a.tmps.size) → (∀ o ∈ l, o ∈ ops.toList) →
    head P ops w0 T U Qf l a →
    ∃ aL, Qf aL ∧ aL.tmps.size = a.tmps.size ∧ aL.defers = a.defers ∧ (∀ t, (∀ o ∈ l, o.dst ≠ some t) → aL.tmps.getD t undef = a.tmps.getD t undef) ∧
      ∀ o ∈ l, relAt P ops w0 T (factOf T aL o) o aL
  | [], a, _, _, _, h => ⟨a, h, rfl, rfl, fun _ _ => rfl, fun _ h => by cases h⟩
  | o :: rest, a, hlex, hrng, hmem, h => by
    simp only [lexOK, Bool.and_eq_true, List.all_eq_true, bne_iff_ne, ne_eq, Bool.or_eq_true] at hlex
    obtain ⟨⟨hl1, hl2⟩, hl3⟩ := hlex
    -- what is common to the ways
    have main : ∀ (x : Value) (V : VRel), head P ops w0 T U Qf rest (a.put o.dst x) → relAt P ops w0 T V o a →
        (∀ t, o.dst = some t → ∀ v w, V v w → match look T t with | some V' => V' v w | none => v = x) →
        ∃ aL, Qf aL ∧ aL.tmps.size = a.tmps.size ∧ aL.defers = a.defers ∧ (∀ t, (∀ o' ∈ o :: rest, o'.dst ≠ some t) → aL.tmps.getD t undef = a.tmps.getD t undef) ∧
          ∀ o' ∈ o :: rest, relAt P ops w0 T (factOf T aL o') o' aL := by
      intro x V hr hV hf
      obtain ⟨aL, hq, hs, hd, hun, hall⟩ := head_spec hsel rest (a.put o.dst x) hl3 (fun o' ho' t ht => by rw [put_size]; exact hrng o' (List.mem_cons_of_mem _ ho') t ht) (fun o' ho' => hmem o' (List.mem_cons_of_mem _ ho')) hr
      rw [put_size] at hs
      rw [put_defers] at hd
      refine ⟨aL, hq, hs, hd, fun t ht => ?_, fun o' ho' => ?_⟩
      · rw [hun t fun o' ho' => ht o' (List.mem_cons_of_mem _ ho'), put_getD_ne a x (ht o (List.mem_cons_self ..))]
      · rcases List.mem_cons.1 ho' with rfl | ho'
        · -- the operation itself
          have hkeep : ∀ t ∈ o'.looksAt ops, aL.tmps.getD t undef = a.tmps.getD t undef := fun t ht => by
            rw [hun t fun o2 h2 => hl1 t ht o2 (List.mem_cons_of_mem _ h2), put_getD_ne a x (hl1 t ht o' (List.mem_cons_self ..))]
          intro a' n hsz hk
          have h1 := hV a' n (hsz.trans hs) fun t ht => by
            have := hk t ht
            unfold Knows at this ⊢
            split at this
            · rw [this]; exact hkeep t ht
            · exact this
          have hfact : ∀ v w, V v w → factOf T aL o' v w := fun v w hv => by
            unfold factOf
            split
            · trivial
            · rename_i t ht
              have h2 := hf t ht v w hv
              split
              · rename_i V' hV'; rw [hV'] at h2; exact h2
              · rename_i hn
                rw [hn] at h2
                have hx : aL.tmps.getD t undef = x := by
                  rw [hun t fun o2 h2 => ?_, ht, put_getD_same a x (hrng o' (List.mem_cons_self ..) t ht)]
                  rcases hl2 o2 h2 with h3 | h3
                  · rw [ht] at h3; cases h3
                  · rw [ht] at h3; exact h3
                rw [hx]; exact h2
          split
          · rename_i hw; rw [if_pos hw] at h1; exact calmUpon_mono hfact h1
          · rename_i hw; rw [if_neg hw] at h1; exact hfact _ _ h1
        · exact hall o' ho'
    unfold head at h
    cases e1 : o.dst.bind (look T) with
    | some V =>
      simp only [e1] at h
      refine main undef V h.2 h.1 fun t ht v w hv => ?_
      rw [ht] at e1
      simp only [Option.bind_some] at e1
      rw [e1]; exact hv
    | none =>
      simp only [e1] at h
      have hT : ∀ t, o.dst = some t → look T t = none := fun t ht => by rw [ht] at e1; simpa using e1
      cases e2 : o.dst.bind (look U) with
      | some x =>
        simp only [e2] at h
        exact main x _ h.2 h.1 fun t ht v w hv => by rw [hT t ht]; exact hv
      | none =>
        simp only [e2] at h
        obtain ⟨hb, h⟩ := h
        have hbl : ∀ t ∈ o.looksAt ops, look T t = none := fun t ht => by
          have := List.all_eq_true.1 hb t ht
          simpa using this
        have hagree : ∀ (a' : Act) (n : Aft w0), (∀ t ∈ o.looksAt ops, Knows T a a' n.W t) → ∀ t ∈ o.looksAt ops, a'.tmps.getD t undef = a.tmps.getD t undef := fun a' n hk t ht => by
          have := hk t ht
          unfold Knows at this
          rw [hbl t ht] at this
          exact this
        by_cases hw : Region.wanted o (yielded ops a.tmps) = true
        · rw [if_pos hw] at h
          obtain ⟨x, hx, hr⟩ := h
          refine main x (fun v _ => v = x) hr (fun a' n hs hk => ?_) fun t ht v w hv => by rw [hT t ht]; exact hv
          rw [wanted_congr hs (hagree a' n hk), if_pos hw, execOp_agree (hsel o (hmem o (List.mem_cons_self ..))) (hagree a' n hk)]
          exact hx n
        · rw [if_neg hw] at h
          refine main undef (fun v _ => v = undef) h (fun a' n hs hk => ?_) fun t ht v w hv => by rw [hT t ht]; exact hv
          rw [wanted_congr hs (hagree a' n hk), if_neg hw]

end
end Go.Proofs.YtdedanoelobdaaaDoor
