/- WHAT THIS FILE PROVES: the contract of the program's frames.bare: a block without its marks, if it has them all. -/
import Derived.Test.YtdedanoelobdaaaDoorFrEnc
namespace Go.Proofs.YtdedanoelobdaaaDoor
open Go.RowKit Go.Proofs Go.Shelf
attribute [local go_sem] Oper.semAt_some wide_fn wide_depth
attribute [local simp] wide_fn wide_depth

/-- The first k sectors without their marks. -/
def bares (l : List UInt8) (k : Nat) : List UInt8 := (List.range k).flatMap fun j => (part l 32 j).take 31
theorem bares_succ (l : List UInt8) (k : Nat) : bares l (k + 1) = bares l k ++ (part l 32 k).take 31 := by
  simp [bares, List.range_succ, List.flatMap_append]
theorem bares_len {l : List UInt8} (h : l.length = 128) : ∀ k, k ≤ 4 → (bares l k).length = 31 * k := by
  intro k
  induction k with
  | zero => intro _; rfl
  | succ k ih =>
    intro hk
    rw [bares_succ]
    simp [ih (by omega), part_len (l := l) (long := 32) (k := k) (by omega) (by omega)]
    omega
/-- The first k sectors have their marks. -/
def marked (l : List UInt8) (k : Nat) : Prop := ∀ j, j < k → (part l 32 j).drop 31 = [165]

def baI (l : List UInt8) (B b bs bl r2 r3 : Nat) (w0 : World) (k : Nat) (W : World) : Prop :=
  encI (bares l) B b bs bl w0 k W ∧ marked l k ∧ Blk W r2 9 [.string (S [])] ∧ Blk W r3 4 [.bool false] ∧ (r2 ≠ b ∧ r3 ≠ b ∧ r2 ≠ bs ∧ r3 ≠ bs ∧ r2 ≠ r3 ∧ w0.heap.size ≤ r2 ∧ w0.heap.size ≤ r3)
def baIx (l : List UInt8) (r2 r3 : Nat) (w0 : World) (c : Code) (W : World) : Prop :=
  c = .ret ∧ ¬ marked l 4 ∧ Below w0.heap.size w0 W ∧ Blk W r2 9 [.string (S [])] ∧ Blk W r3 4 [.bool false]
theorem baI_own {l : List UInt8} {B b bs bl r2 r3 : Nat} {w0 : World} {k N : Nat} (hN : w0.heap.size ≤ N) : OwnFrom N (fun (_ : Unit) => baI l B b bs bl r2 r3 w0 k) := fun s W W' row ⟨h1, h2, h3, h4, h5⟩ hg hr =>
  ⟨encI_own hN s W W' row h1 hg hr, h2, blk_own s W W' row h3 hg hr, blk_own s W W' row h4 hg hr, h5⟩
theorem baIx_own {l : List UInt8} {r2 r3 : Nat} {w0 : World} {c : Code} {N : Nat} (hN : w0.heap.size ≤ N) : OwnFrom N (fun (_ : Unit) => baIx l r2 r3 w0 c) := fun s W W' row ⟨h1, h2, h3, h4, h5⟩ hg hr =>
  ⟨h1, h2, ownFrom_below (Nat.le_refl _) hN s W W' row h3 hg hr, blk_own s W W' row h4 hg hr, blk_own s W W' row h5 hg hr⟩
theorem baI_set {l : List UInt8} {B b bs bl r2 r3 : Nat} {w0 : World} (k : Nat) (W : World) (v : Value) (h : baI l B b bs bl r2 r3 w0 k W) : baI l B b bs bl r2 r3 w0 k (W.setCell ⟨bs, 0, none⟩ v) :=
  ⟨encI_set k W v h.1, h.2.1, h.2.2.1.far (p := ⟨bs, 0, none⟩) h.2.2.2.2.2.2.1 v, h.2.2.2.1.far (p := ⟨bs, 0, none⟩) h.2.2.2.2.2.2.2.1 v, h.2.2.2.2⟩

/-- What bare says of a text. -/
noncomputable def bareOf (l : List UInt8) : List UInt8 × Bool := open Classical in if l.length = 128 ∧ marked l 4 then (bares l 4, true) else ([], false)

set_option maxRecDepth 100000 in
set_option maxHeartbeats 2000000 in
theorem bare_any (l : List UInt8) (w : World) : Calls Tryd.prog 83 #[.string (S l)] w (Ret w (.tuple #[.string (S (bareOf l).1), .bool (bareOf l).2])) := by
  by_cases hlen : l.length = 128
  · refine callsIn_wide (n := 5).1 ?_
    refine callsIn_of_wp_marks Tryd.func83 rfl trivial ?_
    simp only [Tryd.ntmps83, List.size_toArray, List.length_cons, List.length_nil, Nat.reduceAdd, Nat.reduceSub, Array.replicate_succ, Array.replicate_zero, List.push_toArray, List.append_toArray, List.nil_append, List.cons_append]
    gi_wp2_with (gi_at_call 72; refine (callsIn_wide.2 (sectors_any l 32 _)).mono ?_; rintro e w3 ⟨rfl, rfl⟩)
    have a1 := Blk.new w 9 [.string (S [])]
    have hb1 := below_alloc (Below.refl w.heap.size w) (.cells #[.string (S [])] 9)
    have z1 : (w.alloc (.cells #[.string (S [])] 9)).heap.size = w.heap.size + 1 := by simp
    simp only [S_nil] at a1 hb1 z1
    simp only [List.toArray] at a1
    generalize w.alloc (.cells #[.string { data := #[] }] 9) = w1 at *
    have a2 := Blk.new w1 4 [.bool false]
    have hb2 := below_alloc hb1 (.cells #[.bool false] 4)
    have z2 : (w1.alloc (.cells #[.bool false] 4)).heap.size = w1.heap.size + 1 := by simp
    replace a1 := a1.alloc (.cells #[.bool false] 4)
    simp only [List.toArray] at a2
    generalize w1.alloc (.cells #[.bool false] 4) = w2 at *
    have a3 := isB_new w2 w2.heap.size (Nat.le_refl _)
    have hb3 := below_alloc hb2 (.cells #[.pointer none, .slice none 0 0] 101)
    have z3 : (w2.alloc (.cells #[.pointer none, .slice none 0 0] 101)).heap.size = w2.heap.size + 1 := by simp
    replace a1 := a1.alloc (.cells #[.pointer none, .slice none 0 0] 101)
    replace a2 := a2.alloc (.cells #[.pointer none, .slice none 0 0] 101)
    generalize w2.alloc (.cells #[.pointer none, .slice none 0 0] 101) = w3 at *
    have a4 := Blk.new w3 9 [.string (S l)]
    have hb4 := below_alloc hb3 (.cells #[.string (S l)] 9)
    have z4 : (w3.alloc (.cells #[.string (S l)] 9)).heap.size = w3.heap.size + 1 := by simp
    replace a1 := a1.alloc (.cells #[.string (S l)] 9)
    replace a2 := a2.alloc (.cells #[.string (S l)] 9)
    replace a3 := (isB_own w2.heap.size w2.heap.size 0 []).alloc (s := ()) (.cells #[.string (S l)] 9) a3
    simp only [List.toArray] at a4
    generalize w3.alloc (.cells #[.string (S l)] 9) = w4 at *
    have a5 := Blk.new w4 3 [.int .i64 32]
    have hb5 := below_alloc hb4 (.cells #[.int .i64 32] 3)
    have z5 : (w4.alloc (.cells #[.int .i64 32] 3)).heap.size = w4.heap.size + 1 := by simp
    replace a1 := a1.alloc (.cells #[.int .i64 32] 3)
    replace a2 := a2.alloc (.cells #[.int .i64 32] 3)
    replace a4 := a4.alloc (.cells #[.int .i64 32] 3)
    replace a3 := (isB_own w2.heap.size w2.heap.size 0 []).alloc (s := ()) (.cells #[.int .i64 32] 3) a3
    simp only [List.toArray] at a5
    generalize w4.alloc (.cells #[.int .i64 32] 3) = w5 at *
    generalize w1.heap.size = n1 at *
    subst z1
    generalize w2.heap.size = n2 at *
    subst z2
    generalize w3.heap.size = n3 at *
    subst z3
    generalize w4.heap.size = n4 at *
    subst z4
    refine wpIn_sectors rfl (by omega) trivial (w.heap.size + 1 + 1 + 1) (w.heap.size + 1 + 1 + 1 + 1) (by omega) (by omega) (by omega) rfl l 32 (by omega) (by omega) hlen a4 a5 rfl
      (baI l (w.heap.size + 1 + 1) (w.heap.size + 1 + 1) (w.heap.size + 1 + 1 + 1) (w.heap.size + 1 + 1 + 1 + 1) w.heap.size (w.heap.size + 1) w) (baIx l w.heap.size (w.heap.size + 1) w) (fun k => baI_own (by omega)) (fun c => baIx_own (by omega)) baI_set
      ⟨⟨a3, hb5, ⟨_, a4⟩, ⟨_, a5⟩, ⟨by omega, by omega, by omega, by omega, by omega⟩, by omega⟩, by intro j hj; omega, a1, a2, ⟨by omega, by omega, by omega, by omega, by omega, by omega, by omega⟩⟩ ?round ?done ?stop
    case round =>
      intro lp k W hk
      simp only [sVal]
      have hpl : (part l 32 k).length = 32 := part_len (by omega) hk
      generalize hp : part l 32 k = pt at *
      have HP := Lib.hid hp
      clear hp
      gi_wp2
      refine ⟨trivial, ?_⟩
      intro W2 hW2
      have h1 := hW2.1.1
      have h7 := hW2.1.2.2.2.2.2
      have hml := bares_len hlen k (by omega)
      have c1 := (hW2.2.2.1.cell 0).trans rfl
      have c2 := (hW2.2.2.2.1.cell 0).trans rfl
      have f1 := hW2.2.2.1.frozen 0
      have f2 := hW2.2.2.2.1.frozen 0
      gi_wp2_with (fail)
      · rename_i hx
        have hnm : ¬ marked l 4 := fun hm => by
          have := hm k hk
          rw [HP.out] at this
          rw [List.take_of_length_le (by simp; omega), this] at hx
          simp at hx
        have hk1 : KeepsOthers W2 ((W2.setCell ⟨w.heap.size, 0, none⟩ (.string { data := #[] })).setCell ⟨w.heap.size + 1, 0, none⟩ (.bool false)) := (KeepsOthers.setCell _ _ _).trans (KeepsOthers.setCell _ _ _)
        have r2 := (hW2.2.2.1.set_ 0 (.string { data := #[] })).far (p := ⟨w.heap.size + 1, 0, none⟩) (by simp) (.bool false)
        have r3 := (hW2.2.2.2.1.far (p := ⟨w.heap.size, 0, none⟩) (by simp) (.string { data := #[] })).set_ 0 (.bool false)
        exact ⟨hk1, rfl, hnm, (hW2.1.2.1.setCell (p := ⟨w.heap.size, 0, none⟩) (Nat.le_refl _) _).setCell (p := ⟨w.heap.size + 1, 0, none⟩) (by simp) _, r2, r3⟩
      · rename_i _ hx _ _
        refine (CallsIn.inRound lp (callsIn_wide.2 (write_any _ _ _ (pt.take 31) _ h1 (by simp; omega) h7))).mono ?_
        rintro e W3 ⟨rfl, i1, i2, i3⟩
        gi_wp2
        have hm : marked l (k + 1) := fun j hj => by
          rcases Nat.lt_or_ge j k with hj' | hj'
          · exact hW2.2.1 j hj'
          · have : j = k := by omega
            subst this
            rw [HP.out]
            rw [List.take_of_length_le (by simp; omega)] at hx
            simpa using hx
        have hp := encI_post (Ix := baIx l w.heap.size (w.heap.size + 1) w) (a := { tmps := #[], defers := [] }) hW2.1 i3 i2 (by rw [bares_succ, HP.out]; exact i1)
        exact ⟨hp.1, hp.2.1, hp.2.2.1, hp.2.2.2, hm, blk_others hW2.2.2.1 i3 hW2.2.2.2.2.1 (by decide), blk_others hW2.2.2.2.1 i3 hW2.2.2.2.2.2.1 (by decide), hW2.2.2.2.2⟩
    case done =>
      rintro D W hD ⟨⟨h1, h2, _, _, h5, h7⟩, hm, hr2, hr3, hn⟩ hK
      gi_wp2_with (gi_at_call 56; refine (callsIn_wide.2 (string_any _ _ _ W h1 h7)).mono ?_)
      rintro e W3 ⟨rfl, i1, i2⟩
      have hK3 := kept_deferred i2 h1 hK rfl
      have r2 := blk_others hr2 i2 hn.1 (by decide)
      have r3 := blk_others hr3 i2 hn.2.1 (by decide)
      have hs3 := i1.size
      have hbe := h2.trans (i1.mono h5.2.2.2.2)
      clear hr2 hr3 h1 h2 i1 i2
      have c1 := (r2.cell 0).trans rfl
      have c2 := (r3.cell 0).trans rfl
      have f1 := r2.frozen 0
      have f2 := r3.frozen 0
      gi_wp2_with (fail)
      have hl' : bareOf l = (bares l 4, true) := by unfold bareOf; rw [if_pos ⟨hlen, hm⟩]
      have q2 := (r2.set_ 0 (.string (S (bares l 4)))).far (p := ⟨w.heap.size + 1, 0, none⟩) (by simp) (.bool true)
      have q3 := (r3.far (p := ⟨w.heap.size, 0, none⟩) (by simp) (.string (S (bares l 4)))).set_ 0 (.bool true)
      have hbf := (hbe.setCell (p := ⟨w.heap.size, 0, none⟩) (Nat.le_refl _) (.string (S (bares l 4)))).setCell (p := ⟨w.heap.size + 1, 0, none⟩) (by simp) (.bool true)
      have hK4 := ((KeepsOthers.setCell W3 ⟨w.heap.size, 0, none⟩ (.string (S (bares l 4)))).trans (KeepsOthers.setCell _ ⟨w.heap.size + 1, 0, none⟩ (.bool true))).same D _ hK3 rfl
      generalize (W3.setCell ⟨w.heap.size, 0, none⟩ (.string (S (bares l 4)))).setCell ⟨w.heap.size + 1, 0, none⟩ (.bool true) = W4 at *
      refine ⟨by simp, .inl ⟨_, _, rfl, run_takeDeferred hK4, ?_⟩⟩
      have hg := grownBy_putObj' W4 D (.deferred none)
      have d2 := ((q2.grown hg (by simp; omega)).cell 0).trans rfl
      have d3 := ((q3.grown hg (by simp; omega)).cell 0).trans rfl
      refine ⟨.tuple #[.string (S (bares l 4)), .bool true], ?_, by rw [hl'], hbf.trans (belowK_b (w := w) (Nat.le_refl _) _ D _ _ (by omega) hK4 rfl rfl)⟩
      simp [results, Tryd.f83, go_sem, d2, d3]
    case stop =>
      rintro D W hD ⟨_, hm, h2, r2, r3⟩ hK
      gi_wp2
      have hl' : bareOf l = ([], false) := by unfold bareOf; rw [if_neg (fun h => hm h.2)]
      refine ⟨by simp, .inl ⟨_, _, rfl, run_takeDeferred hK, ?_⟩⟩
      have hg := grownBy_putObj' W D (.deferred none)
      have d2 := ((r2.grown hg (by simp; omega)).cell 0).trans rfl
      have d3 := ((r3.grown hg (by simp; omega)).cell 0).trans rfl
      refine ⟨.tuple #[.string (S []), .bool false], ?_, by rw [hl'], h2.trans (belowK_b (w := w) (Nat.le_refl _) _ D _ _ (by omega) hK rfl rfl)⟩
      simp [results, Tryd.f83, go_sem, d2, d3]
  · have hl' : bareOf l = ([], false) := by unfold bareOf; rw [if_neg (fun h => hlen h.1)]
    rw [hl']
    go_enter Tryd.func83, Tryd.ntmps83
    go_wp2
    have a1 := (Blk.new w 9 [.string (S [])]).alloc (.cells #[.bool false] 4)
    have a2 := Blk.new (w.alloc (.cells #[.string { data := #[] }] 9)) 4 [.bool false]
    have c1 := (a1.cell 0).trans rfl
    have c2 := (a2.cell 0).trans rfl
    simp only [S_nil, List.toArray, World.size_alloc] at c1 c2
    simp [bodyPost, results, Tryd.f83, go_sem, c1, c2]
    exact ⟨rfl, below_alloc (below_alloc (Below.refl _ _) _) _⟩
end Go.Proofs.YtdedanoelobdaaaDoor
