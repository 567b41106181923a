/- WHAT THIS FILE PROVES: plain words on bytes, strings and blocks, for the walks. It is of no program; no condition. -/
import Derived.WalkKit
import Derived.Lib.Hide
import Derived.Lib.ConvBytes
namespace Go.Proofs.YtdedanoelobdaaaDoor
open Go.RowKit

/-! ### Strings as lists of bytes -/
def S (l : List UInt8) : ByteArray := ⟨l.toArray⟩
@[go_sem, simp] theorem S_size (l : List UInt8) : (S l).size = l.length := by simp [S, ByteArray.size]
@[go_sem, simp] theorem S_toList (l : List UInt8) : (S l).toList = l := by rw [ByteArray.toList_eq]; simp [S]
@[go_sem, simp] theorem S_data (l : List UInt8) : (S l).data.toList = l := by simp [S]
theorem S_eta (s : ByteArray) : S s.data.toList = s := by cases s; simp [S]
@[go_sem, simp] theorem S_append (a b : List UInt8) : S a ++ S b = S (a ++ b) := by
  rw [← S_eta (S a ++ S b)]; congr 1
@[go_sem, simp] theorem S_extract (l : List UInt8) (a b : Nat) : (S l).extract a b = S ((l.drop a).take (b - a)) := by
  rw [← S_eta ((S l).extract a b)]; congr 1
  simp [ByteArray.data_extract, List.extract_eq_take_drop]
theorem S_inj {a b : List UInt8} (h : S a = S b) : a = b := by rw [← S_data a, ← S_data b, h]
@[go_sem, simp] theorem S_get? (l : List UInt8) (i : Nat) : (S l)[i]? = l[i]? := by
  by_cases h : i < l.length
  · have h1 : i < (S l).size := by simpa using h
    rw [getElem?_pos (S l) i h1, List.getElem?_eq_getElem h]
    simp [S, ByteArray.getElem_eq_getElem_data]
  · have h1 : ¬ i < (S l).size := by simpa using h
    rw [getElem?_neg (S l) i h1, List.getElem?_eq_none (by omega)]
theorem S_nil : S [] = ⟨#[]⟩ := rfl
def V (l : List UInt8) : Value := .string (S l)

/-- A byte's value. -/
abbrev bV (x : UInt8) : Value := .int .u8 x.toNat
def strOf (xs : List Int) : List UInt8 := xs.map fun n => UInt8.ofNat n.toNat
theorem strOfNums_S (xs : List Int) : strOfNums xs = S (strOf xs) := rfl

/-! ### Numbers as bytes, the highest first -/
def be : Nat → Nat → List UInt8
  | 0, _ => []
  | k + 1, n => be k (n / 256) ++ [UInt8.ofNat n]
@[simp] theorem be_length (k n : Nat) : (be k n).length = k := by
  induction k generalizing n with
  | zero => rfl
  | succ k ih => simp [be, ih]
theorem snoc_ind {α : Type} {p : List α → Prop} (h0 : p []) (h1 : ∀ l b, p l → p (l ++ [b])) (l : List α) : p l := by
  have h : ∀ r : List α, p r.reverse := fun r => by
    induction r with
    | nil => exact h0
    | cons a r ih => rw [List.reverse_cons]; exact h1 _ _ ih
  have := h l.reverse
  rwa [List.reverse_reverse] at this
def unbe (l : List UInt8) : Nat := l.foldl (fun a b => a * 256 + b.toNat) 0
theorem unbe_snoc (l : List UInt8) (b : UInt8) : unbe (l ++ [b]) = unbe l * 256 + b.toNat := by simp [unbe]
theorem unbe_be (k n : Nat) (h : n < 256 ^ k) : unbe (be k n) = n := by
  induction k generalizing n with
  | zero => simp at h; subst h; rfl
  | succ k ih =>
    rw [be, unbe_snoc, ih (n / 256) (by rw [Nat.div_lt_iff_lt_mul (by omega)]; rw [Nat.pow_succ] at h; exact h)]
    simp
    omega
theorem be_unbe (l : List UInt8) : be l.length (unbe l) = l := by
  induction l using snoc_ind with
  | h0 => rfl
  | h1 l b ih =>
    rw [unbe_snoc, List.length_append, List.length_singleton, be]
    have h1 : (unbe l * 256 + b.toNat) / 256 = unbe l := by have := b.toNat_lt; omega
    have h2 : UInt8.ofNat (unbe l * 256 + b.toNat) = b := by
      apply UInt8.toNat.inj
      simp
    rw [h1, ih, h2]
theorem unbe_lt (l : List UInt8) : unbe l < 256 ^ l.length := by
  induction l using snoc_ind with
  | h0 => simp [unbe]
  | h1 l b ih =>
    rw [unbe_snoc, List.length_append, List.length_singleton, Nat.pow_succ]
    have := b.toNat_lt
    omega
theorem be_inj {k n m : Nat} (hn : n < 256 ^ k) (hm : m < 256 ^ k) (h : be k n = be k m) : n = m := by rw [← unbe_be k n hn, ← unbe_be k m hm, h]

/-! ### Blocks of cells -/
/-- Block g holds just the cells cs of element type t; none is frozen. -/
def Blk (w : World) (g : Nat) (t : TypeId) (cs : List Value) : Prop := w.heap[g]? = some (.cells cs.toArray t (0, 0))
section
variable {w w' : World} {g : Nat} {t : TypeId} {cs : List Value}
theorem Blk.lt (h : Blk w g t cs) : g < w.heap.size := by
  rcases Nat.lt_or_ge g w.heap.size with hlt | hge
  · exact hlt
  · unfold Blk at h; rw [Array.getElem?_eq_none hge] at h; cases h
theorem Blk.cell (h : Blk w g t cs) (i : Nat) : w.cell? ⟨g, i, none⟩ = cs[i]? := by
  unfold Blk at h; simp [World.cell?, h]
theorem Blk.frozen (h : Blk w g t cs) (i : Nat) : w.frozen? ⟨g, i, none⟩ = false := by
  unfold Blk at h; simp [World.frozen?, h]
theorem Blk.new (w : World) (t : TypeId) (cs : List Value) : Blk (w.alloc (.cells cs.toArray t)) w.heap.size t cs := heap_alloc_new w _
theorem Blk.drew (h : Blk w g t cs) : Blk w.drew g t cs := h
theorem Blk.alloc (h : Blk w g t cs) (o : Obj) : Blk (w.alloc o) g t cs := (Below.heap_alloc w o g h.lt).trans h
theorem Blk.set_ (h : Blk w g t cs) (i : Nat) (u : Value) : Blk (w.setCell ⟨g, i, none⟩ u) g t (cs.set i u) := by
  unfold Blk at h ⊢
  simp [World.setCell, Array.getElem?_modify, h]
theorem Blk.far (h : Blk w g t cs) {p : Addr} (hp : g ≠ p.block) (u : Value) : Blk (w.setCell p u) g t cs := (Below.heap_setCell w p u g hp).trans h
theorem Blk.below {B : Nat} (h : Blk w g t cs) (hb : Below B w w') (hg : g < B) : Blk w' g t cs := (hb.block g hg).trans h
theorem Blk.on (h : Blk w g t cs) (hb : Below w.heap.size w w') : Blk w' g t cs := h.below hb h.lt
theorem Blk.grown {row : Option Nat} (h : Blk w g t cs) (hb : w.grownBy w' row) (hg : some g ≠ row) : Blk w' g t cs := (hb.block g h.lt hg).trans h
theorem Blk.ne_ {g' : Nat} {t' : TypeId} {cs' : List Value} (h : Blk w g t cs) (h' : Blk w g' t' cs') (hne : t ≠ t') : g ≠ g' := by
  rintro rfl
  unfold Blk at h h'
  rw [h] at h'
  injection h' with h'
  injection h' with _ ht
  exact hne ht
end

/-! ### Steps of 'Below' from the start of a call -/
theorem below_alloc {W w : World} (h : Below W.heap.size W w) (o : Obj) : Below W.heap.size W (w.alloc o) := h.alloc h.size o
theorem below_drew {B : Nat} {W w : World} (h : Below B W w) : Below B W w.drew := h.drew
theorem below_then {W w w1 : World} (h : Below W.heap.size W w) (k : Below w.heap.size w w1) : Below W.heap.size W w1 := h.trans (k.mono h.size)

theorem ret_string {a b : List UInt8} (h : a = b) : Ending.returned (.string (S a)) = .returned (.string (S b)) := by rw [h]
theorem ret_int {k : IntKind} {a b : Int} (h : a = b) : Ending.returned (.int k a) = .returned (.int k b) := by rw [h]

/-- The result v, all that lay there as it was. -/
def Ret (w : World) (v : Value) (e : Ending) (w' : World) : Prop := e = .returned v ∧ Below w.heap.size w w'
theorem calm_ret {P : Program} {f : FuncId} {args : Array Value} {w : World} {x : Value} (h : Calls P f args w (Ret w x)) :
    Calls P f args w fun e w'' => ∃ v, e = .returned v ∧ v = x ∧ Below w.heap.size w w'' := h.mono fun _ _ ⟨he, hb⟩ => ⟨x, he, rfl, hb⟩
theorem calm_same {P : Program} {f : FuncId} {args : Array Value} {w : World} {x : Value} (h : Calls P f args w fun e w' => e = .returned x ∧ w = w') :
    Calls P f args w fun e w'' => ∃ v, e = .returned v ∧ v = x ∧ Below w.heap.size w w'' := h.mono fun _ _ ⟨he, hb⟩ => ⟨x, he, rfl, hb ▸ Below.refl _ _⟩
end Go.Proofs.YtdedanoelobdaaaDoor
