/- WHAT THIS FILE PROVES: plain laws of frames' blocks: a block is one frame, and that is read of it. No program; no condition. -/
import Derived.Test.YtdedanoelobdaaaDoorFrBare
namespace Go.Proofs.YtdedanoelobdaaaDoor

/-! ### Sectors -/
theorem take_app {a b : List UInt8} {n : Nat} (h : a.length = n) : (a ++ b).take n = a := by rw [← h, List.take_left]
theorem drop_app {a b : List UInt8} {n : Nat} (h : a.length = n) : (a ++ b).drop n = b := by rw [← h, List.drop_left]
theorem part_all {l : List UInt8} {n : Nat} (h : l.length = 4 * n) : l = part l n 0 ++ (part l n 1 ++ (part l n 2 ++ part l n 3)) := by
  simp only [part]
  rw [show l.drop (3 * n) = (l.drop (2 * n)).drop n by rw [List.drop_drop]; congr 1; omega, show l.drop (2 * n) = (l.drop (1 * n)).drop n by rw [List.drop_drop]; congr 1; omega, show l.drop (1 * n) = (l.drop (0 * n)).drop n by rw [List.drop_drop]; congr 1; omega]
  simp only [Nat.zero_mul, List.drop_zero]
  have h4 : ((((l.drop n).drop n).drop n).take n) = ((l.drop n).drop n).drop n := List.take_of_length_le (by simp; omega)
  rw [h4, List.take_append_drop, List.take_append_drop, List.take_append_drop]
theorem part_app {a b c d : List UInt8} {n : Nat} (ha : a.length = n) (hb : b.length = n) (hc : c.length = n) (hd : d.length = n) :
    part (a ++ (b ++ (c ++ d))) n 0 = a ∧ part (a ++ (b ++ (c ++ d))) n 1 = b ∧ part (a ++ (b ++ (c ++ d))) n 2 = c ∧ part (a ++ (b ++ (c ++ d))) n 3 = d := by
  subst ha
  refine ⟨by simp [part], ?_, ?_, ?_⟩
  · simp only [part, Nat.one_mul]
    rw [List.drop_left, ← hb, List.take_left]
  · simp only [part]
    rw [show 2 * a.length = (a ++ b).length by simp; omega, ← List.append_assoc a b, List.drop_left, ← hc, List.take_left]
  · simp only [part]
    rw [show 3 * a.length = (a ++ b ++ c).length by simp; omega, ← List.append_assoc a b, ← List.append_assoc (a ++ b) c, List.drop_left, ← hd, List.take_length]
theorem part_ext {l m : List UInt8} {n : Nat} (hl : l.length = 4 * n) (hm : m.length = 4 * n) (h : ∀ k, k < 4 → part l n k = part m n k) : l = m := by
  rw [part_all hl, part_all hm, h 0 (by omega), h 1 (by omega), h 2 (by omega), h 3 (by omega)]
theorem marks4 (l : List UInt8) : marks l 4 = (part l 31 0 ++ [165]) ++ ((part l 31 1 ++ [165]) ++ ((part l 31 2 ++ [165]) ++ (part l 31 3 ++ [165]))) := by
  simp [marks, List.range_succ]
theorem bares4 (l : List UInt8) : bares l 4 = (part l 32 0).take 31 ++ ((part l 32 1).take 31 ++ ((part l 32 2).take 31 ++ (part l 32 3).take 31)) := by
  simp [bares, List.range_succ]
theorem lt4 {k : Nat} (h : k < 4) : k = 0 ∨ k = 1 ∨ k = 2 ∨ k = 3 := by omega
theorem part_marks {t : List UInt8} (h : t.length = 124) (k : Nat) (hk : k < 4) : part (marks t 4) 32 k = part t 31 k ++ [165] := by
  have hp : ∀ j, j < 4 → (part t 31 j ++ [(165 : UInt8)]).length = 32 := fun j hj => by simp [part_len (l := t) (long := 31) (by omega) hj]
  obtain ⟨h0, h1, h2, h3⟩ := part_app (hp 0 (by omega)) (hp 1 (by omega)) (hp 2 (by omega)) (hp 3 (by omega))
  rw [marks4]
  rcases lt4 hk with rfl | rfl | rfl | rfl <;> assumption
theorem part_bares {l : List UInt8} (h : l.length = 128) (k : Nat) (hk : k < 4) : part (bares l 4) 31 k = (part l 32 k).take 31 := by
  have hp : ∀ j, j < 4 → ((part l 32 j).take 31).length = 31 := fun j hj => by simp [part_len (l := l) (long := 32) (by omega) hj]
  obtain ⟨h0, h1, h2, h3⟩ := part_app (hp 0 (by omega)) (hp 1 (by omega)) (hp 2 (by omega)) (hp 3 (by omega))
  rw [bares4]
  rcases lt4 hk with rfl | rfl | rfl | rfl <;> assumption
theorem marked_marks {t : List UInt8} (h : t.length = 124) : marked (marks t 4) 4 := fun j hj => by
  rw [part_marks h j hj, drop_app (part_len (l := t) (long := 31) (k := j) (by omega) hj)]
theorem bares_marks {t : List UInt8} (h : t.length = 124) : bares (marks t 4) 4 = t := by
  refine part_ext (n := 31) (bares_len (marks_len h 4 (by omega)) 4 (by omega)) (by omega) fun k hk => ?_
  rw [part_bares (marks_len h 4 (by omega)) k hk, part_marks h k hk]
  rw [take_app (part_len (l := t) (long := 31) (k := k) (by omega) hk)]
theorem marks_bares {l : List UInt8} (h : l.length = 128) (hm : marked l 4) : marks (bares l 4) 4 = l := by
  refine part_ext (n := 32) (marks_len (bares_len h 4 (by omega)) 4 (by omega)) (by omega) fun k hk => ?_
  rw [part_marks (bares_len h 4 (by omega)) k hk, part_bares h k hk]
  conv => rhs; rw [← List.take_append_drop 31 (part l 32 k), hm k hk]
theorem bareOf_marks {t : List UInt8} (h : t.length = 124) : bareOf (marks t 4) = (t, true) := by
  unfold bareOf
  rw [if_pos ⟨marks_len h 4 (by omega), marked_marks h⟩, bares_marks h]
theorem bareOf_true {l s : List UInt8} (h : bareOf l = (s, true)) : l.length = 128 ∧ s.length = 124 ∧ l = marks s 4 := by
  unfold bareOf at h
  split at h
  · rename_i hc
    injection h with h1 h2
    subst h1
    exact ⟨hc.1, bares_len hc.1 4 (by omega), (marks_bares hc.1 hc.2).symm⟩
  · injection h with h1 h2; cases h2

/-! ### A frame's text -/
/-- What the fields of a text say. -/
def readFr (s : List UInt8) : Fr := ⟨s.getD 0 0, unbe ((s.drop 1).take 4), unbe ((s.drop 5).take 2), (s.drop 12).take (s.getD 7 0).toNat⟩
theorem read_text {f : Fr} (h : f.OK) : readFr f.text = f ∧ (f.text.getD 7 0).toNat = f.data.length := by
  obtain ⟨k, e, i, d⟩ := f
  obtain ⟨hk, h1, h2, h3, h4, h5⟩ := h
  simp only at h1 h2 h3 h4 h5
  obtain ⟨E, rfl⟩ := Int.eq_ofNat_of_zero_le (show 0 ≤ e by omega)
  obtain ⟨I, rfl⟩ := Int.eq_ofNat_of_zero_le h3
  have hE := unbe_be 4 E (by omega)
  have hI := unbe_be 2 I (by omega)
  have hD : be 1 d.length = [UInt8.ofNat d.length] := by simp [be]
  generalize hc : crc (Fr.head8 ⟨k, E, I, d⟩ ++ d) = c
  have ht : Fr.text ⟨k, E, I, d⟩ = [k] ++ (be 4 E ++ (be 2 I ++ ([UInt8.ofNat d.length] ++ (be 4 c ++ (d ++ List.replicate (112 - d.length) 0))))) := by
    simp only [Fr.text, hc]
    simp [Fr.head8, hD]
  have l4 : (be 4 E).length = 4 := be_length _ _
  have l2 : (be 2 I).length = 2 := be_length _ _
  have lc : (be 4 c).length = 4 := be_length _ _
  have e7 : (Fr.text ⟨k, E, I, d⟩).getD 7 0 = UInt8.ofNat d.length := by
    rw [ht, ← List.append_assoc (be 4 E), ← List.append_assoc [k], List.getD_eq_getElem?_getD, List.getElem?_append_right (by simp)]
    simp
  have n7 : ((Fr.text ⟨k, E, I, d⟩).getD 7 0).toNat = d.length := by rw [e7]; simp; omega
  refine ⟨?_, n7⟩
  unfold readFr
  rw [n7]
  congr 1
  · rw [ht, drop_app (n := 1) rfl, take_app l4, hE]
  · rw [ht, ← List.append_assoc [k], drop_app (n := 5) (by simp), take_app l2, hI]
  · rw [ht, ← List.append_assoc (be 2 I) [_], ← List.append_assoc (be 2 I ++ [_]), ← List.append_assoc (be 4 E), ← List.append_assoc [k], drop_app (n := 12) (by simp), take_app rfl]

/-- The frame that a block is. -/
noncomputable def decOf (l : List UInt8) : Option Fr := open Classical in
  if (bareOf l).2 = true ∧ (readFr (bareOf l).1).OK ∧ (readFr (bareOf l).1).text = (bareOf l).1 then some (readFr (bareOf l).1) else none
theorem decOf_block {f : Fr} (h : f.OK) : decOf f.block = some f := by
  unfold decOf Fr.block
  rw [bareOf_marks (Fr.text_len h)]
  simp only
  rw [(read_text h).1, if_pos ⟨rfl, h, rfl⟩]
theorem decOf_some {l : List UInt8} {f : Fr} (h : decOf l = some f) : f.OK ∧ l = f.block := by
  unfold decOf at h
  split at h
  · rename_i hc
    obtain ⟨h1, h2, h3⟩ := hc
    obtain ⟨_, _, hl⟩ := bareOf_true (l := l) (s := (bareOf l).1) (by rw [← h1])
    injection h with h
    subst h
    refine ⟨h2, ?_⟩
    unfold Fr.block
    rw [h3]; exact hl
  · cases h
theorem decOf_bad (l : List UInt8) (h : (bareOf l).2 = false) : decOf l = none := by
  unfold decOf
  rw [if_neg (by rw [h]; simp)]
theorem decOf_big {l s : List UInt8} (hs : bareOf l = (s, true)) (h : 112 < (s.getD 7 0).toNat) : decOf l = none := by
  unfold decOf
  rw [hs]
  simp only
  rw [if_neg]
  rintro ⟨_, h2, h3⟩
  have := (read_text h2).2
  rw [h3] at this
  have := h2.data
  omega
theorem decOf_true {l s : List UInt8} (hs : bareOf l = (s, true)) : decOf l = (open Classical in if (readFr s).OK ∧ (readFr s).text = s then some (readFr s) else none) := by
  unfold decOf
  rw [hs]
  simp only
  by_cases h : (readFr s).OK ∧ (readFr s).text = s
  · rw [if_pos ⟨rfl, h⟩, if_pos h]
  · rw [if_neg (fun g => h g.2), if_neg h]
end Go.Proofs.YtdedanoelobdaaaDoor
