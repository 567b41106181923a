/- WHAT THIS FILE PROVES: plain laws of a text's blocks: they are joined to the text; with a block of another epoch, kind or place among them, to nothing. No program; no condition. -/
import Derived.Test.YtdedanoelobdaaaDoorPkJoin
namespace Go.Proofs.YtdedanoelobdaaaDoor

theorem joinAt_block {k : UInt8} {e : Int} {n i : Nat} {f : Fr} (h : f.OK) : joinAt k e n i f.block = (open Classical in if f.kind = k ∧ f.epoch = e ∧ f.index = i ∧ (f.data.length = 112 ∨ i + 1 = n) ∧ (f.data ≠ [] ∨ i = 0) then some f.data else none) := by
  unfold joinAt
  rw [decOf_block h]
theorem joinFrom_bad {k : UInt8} {e : Int} {n : Nat} : ∀ (bs : List (List UInt8)) (i j : Nat) (hj : j < bs.length), joinAt k e n (i + j) bs[j] = none → joinFrom k e n i bs = none
  | [], _, _, hj, _ => by simp at hj
  | b :: bs, i, 0, _, h => by
    simp only [List.getElem_cons_zero, Nat.add_zero] at h
    simp only [joinFrom, h]
  | b :: bs, i, j + 1, hj, h => by
    have := joinFrom_bad bs (i + 1) j (by simpa using hj) (by simpa [Nat.add_assoc, Nat.add_comm 1] using h)
    simp only [joinFrom, this]
    cases joinAt k e n i b <;> rfl
theorem joinOf_bad {k : UInt8} {e : Int} {bs : List (List UInt8)} (j : Nat) (hj : j < bs.length) (h : joinAt k e bs.length j bs[j] = none) : joinOf bs k e = none := by
  unfold joinOf
  split
  · rfl
  · exact joinFrom_bad bs 0 j hj (by simpa using h)
theorem blocksOf_length (k : UInt8) (e : Int) : ∀ (cs : List (List UInt8)) (i : Nat), (blocksOf k e i cs).length = cs.length
  | [], _ => rfl
  | c :: cs, i => by simp [blocksOf, blocksOf_length k e cs (i + 1)]
theorem chunks_pos (d : List UInt8) : 0 < (chunks d).length := by
  by_cases h : d.length ≤ 112
  · rw [chunks_short h]; simp
  · rw [chunks_long h]; simp
theorem chunks_head (d : List UInt8) : ∃ c cs, chunks d = c :: cs ∧ c.length ≤ 112 := by
  by_cases h : d.length ≤ 112
  · exact ⟨d, [], chunks_short h, h⟩
  · exact ⟨_, _, chunks_long h, by simp; omega⟩
theorem join_chunks {k : UInt8} {e : Int} (hk : goodKind k) (he : goodEpoch e) {n : Nat} (hn : n ≤ 65536) : ∀ (m : Nat) (d : List UInt8), d.length ≤ m → ∀ i, i + (chunks d).length = n → (d = [] → i = 0) → joinFrom k e n i (blocksOf k e i (chunks d)) = some d := by
  intro m
  induction m with
  | zero =>
    intro d hd i hi h0
    have : d = [] := List.eq_nil_of_length_eq_zero (by omega)
    subst this
    rw [chunks_short (by simp)] at hi ⊢
    simp only [List.length_singleton] at hi
    simp only [blocksOf, joinFrom]
    rw [joinAt_block (f := ⟨k, e, i, []⟩) ⟨hk, he.1, he.2, by simp, by simp only; omega, by simp⟩, if_pos ⟨rfl, rfl, rfl, .inr hi, .inr (h0 rfl)⟩]
    rfl
  | succ m ih =>
    intro d hd i hi h0
    by_cases h : d.length ≤ 112
    · rw [chunks_short h] at hi ⊢
      simp only [List.length_singleton] at hi
      simp only [blocksOf, joinFrom]
      rw [joinAt_block (f := ⟨k, e, i, d⟩) ⟨hk, he.1, he.2, by simp, by simp only; omega, h⟩, if_pos ⟨rfl, rfl, rfl, .inr hi, (by by_cases h1 : d = []; exact .inr (h0 h1); exact .inl h1)⟩]
      simp
    · rw [chunks_long h] at hi ⊢
      simp only [List.length_cons] at hi
      simp only [blocksOf, joinFrom]
      have hp := chunks_pos (d.drop 112)
      have hl : (d.take 112).length = 112 := by simp; omega
      rw [joinAt_block (f := ⟨k, e, i, d.take 112⟩) ⟨hk, he.1, he.2, by simp, by simp only; omega, by simp only; omega⟩, if_pos ⟨rfl, rfl, rfl, .inl hl, .inl (fun h => by simp only at h; rw [h] at hl; cases hl)⟩]
      simp only
      rw [ih (d.drop 112) (by simp; omega) (i + 1) (by omega) (fun h1 => by
        have : (d.drop 112).length = 0 := by rw [h1]; rfl
        simp at this; omega)]
      simp
theorem join_split {k : UInt8} {e : Int} (hk : goodKind k) (he : goodEpoch e) {d : List UInt8} (hn : (chunks d).length ≤ 65536) : joinOf (blocksOf k e 0 (chunks d)) k e = some d := by
  have hl := blocksOf_length k e (chunks d) 0
  unfold joinOf
  rw [if_neg (fun h => by rw [h] at hl; have := chunks_pos d; simp at hl; omega), hl]
  exact join_chunks hk he hn _ d (Nat.le_refl _) 0 (by omega) (fun _ => rfl)
/-- Blocks of another kind, or of another epoch, behind others. -/
theorem join_mixed {k k' : UInt8} {e e' : Int} (hk' : goodKind k') (he' : goodEpoch e') (hne : k' ≠ k ∨ e' ≠ e) (ps : List (List UInt8)) (d : List UInt8) : joinOf (ps ++ blocksOf k' e' 0 (chunks d)) k e = none := by
  obtain ⟨c, cs, hc, hl⟩ := chunks_head d
  rw [hc]
  simp only [blocksOf]
  refine joinOf_bad ps.length (by simp) ?_
  rw [List.getElem_append_right (Nat.le_refl _)]
  simp only [Nat.sub_self, List.getElem_cons_zero]
  rw [joinAt_block (f := ⟨k', e', ((0 : Nat) : Int), c⟩) ⟨hk', he'.1, he'.2, by simp, by simp, hl⟩, if_neg]
  rintro ⟨h1, h2, _⟩
  rcases hne with h | h
  · exact h h1
  · exact h h2
end Go.Proofs.YtdedanoelobdaaaDoor
