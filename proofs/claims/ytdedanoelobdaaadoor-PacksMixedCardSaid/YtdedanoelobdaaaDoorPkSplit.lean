/- WHAT THIS FILE PROVES: the contract of the program's packs.Split: a text's blocks, or the error. -/
import Derived.Test.YtdedanoelobdaaaDoorPkEach
namespace Go.Proofs.YtdedanoelobdaaaDoor
open Go.RowKit Go.Proofs

theorem chunks_count (d : List UInt8) : ((chunks d).length : Int) = cntI d.length := by
  suffices h : ∀ n (d : List UInt8), d.length ≤ n → ((chunks d).length : Int) = cntI d.length from h _ d (Nat.le_refl _)
  intro n
  induction n with
  | zero =>
    intro d hd
    have : d = [] := List.eq_nil_of_length_eq_zero (by omega)
    subst this
    rw [chunks_short (by simp)]
    decide
  | succ n ih =>
    intro d hd
    by_cases h : d.length ≤ 112
    · rw [chunks_short h]
      unfold cntI
      rw [if_neg (by omega)]
      simp only [List.length_singleton]
      omega
    · rw [chunks_long h]
      have := ih (d.drop 112) (by simp; omega)
      simp only [List.length_cons, List.length_drop] at this ⊢
      unfold cntI at this ⊢
      rw [if_neg (by omega)] at this ⊢
      omega

/-- Split's error. -/
noncomputable def splitErr (k : UInt8) (e : Int) (d : List UInt8) : Int := open Classical in
  if 65536 < cntI d.length then 3 else if goodKind k ∧ goodEpoch e then 0 else 2

set_option maxRecDepth 100000 in
set_option maxHeartbeats 2000000 in
theorem split_any (k : UInt8) (e : Int) (d : List UInt8) (hdl : d.length ≤ 1099511627776) (w : World) (ht : TabIn w) :
    Calls Tryd.prog 15 #[.int .u8 k.toNat, .int .i64 e, .string (S d)] w fun e' w' => Below w.heap.size w w' ∧
      ((splitErr k e d ≠ 0 ∧ e' = .returned (.tuple #[.slice none 0 0, .int .i64 (splitErr k e d)])) ∨
       (splitErr k e d = 0 ∧ ∃ v, e' = .returned (.tuple #[v, .int .i64 0]) ∧ Row w.heap.size v (blocksOf k e 0 (chunks d)) w')) := by
  have hcc := chunks_count d
  by_cases hc : 65536 < cntI d.length
  · have he : splitErr k e d = 3 := by unfold splitErr; rw [if_pos hc]
    rw [he]
    have hcnt := count_any d.length (by omega) (by omega)
    generalize cntI d.length = c at *
    clear hcc
    go_enter Tryd.func15, Tryd.ntmps15
    go_wp2_with (go_at_call 52; refine (hcnt _).mono ?_; rintro e w' ⟨rfl, rfl⟩)
    go_ret2
    exact ⟨Below.refl _ _, .inl ⟨by decide, rfl⟩⟩
  · have hcnt := count_any d.length (by omega) (by omega)
    by_cases hg : goodKind k ∧ goodEpoch e
    · have he : splitErr k e d = 0 := by unfold splitErr; rw [if_neg hc, if_pos hg]
      rw [he]
      have heach := each_ok w.heap.size w.heap.size k e hg.1 hg.2 (.slice none 0 0) d (by omega) hdl
      generalize cntI d.length = c at *
      clear hcc
      have HE := Lib.hid heach
      clear heach
      go_enter Tryd.func15, Tryd.ntmps15
      go_wp2_with (go_at_call 52; refine (hcnt _).mono ?_; rintro e w' ⟨rfl, rfl⟩)
      have hb1 := below_alloc (Below.refl w.heap.size w) (.cells #[.int .u8 k.toNat, .int .i64 e, .slice none 0 0] 96)
      have hT : 3 < w.heap.size := by
        obtain ⟨t, fr, ht⟩ := ht
        exact (Array.getElem?_eq_some_iff.1 ht).1
      refine (HE.out _ ⟨Blk.new w 96 [_, _, _], World.ownsRow_nil _ _ _ _, Nat.le_refl _⟩ (ht.below hb1) hb1.size hT).mono ?_
      rintro e' w2 ⟨rfl, ⟨v', hp⟩, hb2⟩
      have hbl := hb1.trans hb2
      clear hb1 hb2 HE ht
      obtain ⟨o, cap, rfl⟩ := hp.row.form
      generalize hB : blocksOf k e 0 (chunks d) = bs at *
      have HB := Lib.hid hB
      clear hB
      have c2 := (hp.blk.cell 2).trans rfl
      go_wp2
      go_ret2
      exact ⟨hbl, .inr ⟨trivial, _, rfl, by rw [HB.out]; exact hp.row⟩⟩
    · have he : splitErr k e d = 2 := by unfold splitErr; rw [if_neg hc, if_neg hg]
      rw [he]
      have heach := each_err w.heap.size w.heap.size k e hg (.slice none 0 0) d hdl
      generalize cntI d.length = c at *
      clear hcc
      have HE := Lib.hid heach
      clear heach
      go_enter Tryd.func15, Tryd.ntmps15
      go_wp2_with (go_at_call 52; refine (hcnt _).mono ?_; rintro e w' ⟨rfl, rfl⟩)
      have hb1 := below_alloc (Below.refl w.heap.size w) (.cells #[.int .u8 k.toNat, .int .i64 e, .slice none 0 0] 96)
      refine (HE.out _ ⟨Blk.new w 96 [_, _, _], World.ownsRow_nil _ _ _ _, Nat.le_refl _⟩).mono ?_
      rintro e' w2 ⟨rfl, hb2⟩
      have hbl := below_then hb1 hb2
      clear hb1 hb2 HE ht
      go_wp2
      go_ret2
      exact ⟨hbl, .inl ⟨by decide, rfl⟩⟩
end Go.Proofs.YtdedanoelobdaaaDoor
