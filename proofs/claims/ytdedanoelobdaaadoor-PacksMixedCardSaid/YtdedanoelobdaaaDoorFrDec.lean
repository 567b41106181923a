/- WHAT THIS FILE PROVES: the contract of the program's frames.Decode: the frame that a block is, or none. -/
import Derived.Test.YtdedanoelobdaaaDoorFrBare
import Derived.Test.YtdedanoelobdaaaDoorFrPlain
import Derived.Test.YtdedanoelobdaaaDoorWordsGet
namespace Go.Proofs.YtdedanoelobdaaaDoor
open Go.RowKit Go.Proofs
attribute [local go_sem] calm calmUpon

def frZero : Value := .agg #[.int .u8 0, .int .i64 0, .int .i64 0, .string (S [])]
theorem getD_at (l : List UInt8) (i : Nat) (h : i < l.length) : l[i] = l.getD i 0 := by
  rw [List.getD_eq_getElem?_getD, List.getElem?_eq_getElem h]; rfl
theorem get_n (l : List UInt8) (at_ n : Int) (hn : n = 1 ∨ n = 2 ∨ n = 4) (h0 : 0 ≤ at_) (h1 : at_ + n ≤ l.length) (hl : (l.length : Int) ≤ 9223372036854775807) (w : World) :
    Calls Tryd.prog 84 #[.string (S l), .int .i64 at_, .int .i64 n] w fun e w' => e = .returned (.tuple #[.int .i64 (unbe ((l.drop at_.toNat).take n.toNat) : Nat), .int .i64 (at_ + n), .bool true]) ∧ w = w' := by
  rcases hn with rfl | rfl | rfl
  · exact get1 l at_ h0 h1 hl w
  · exact get2 l at_ h0 h1 hl w
  · exact get4 l at_ h0 h1 hl w
noncomputable def decVal (l : List UInt8) : Value := match decOf l with
  | some f => .tuple #[f.val, .int .i64 0]
  | none => .tuple #[frZero, .int .i64 10]

theorem alloc_blk {w w' : World} (hb : Below w.heap.size w w') (t : TypeId) (cs : List Value) : ∃ b, Value.pointer (some ⟨w'.heap.size, 0, none⟩) = .pointer (some ⟨b, 0, none⟩) ∧ w.heap.size ≤ b ∧ Blk (w'.alloc (.cells cs.toArray t)) b t cs :=
  ⟨_, rfl, hb.size, Blk.new _ _ _⟩

theorem Blk.set4 {w : World} {g : Nat} {t : TypeId} {a b c d : Value} (h : Blk w g t [a, b, c, d]) (x y z u : Value) :
    Blk ((((w.setCell ⟨g, 0, none⟩ x).setCell ⟨g, 1, none⟩ y).setCell ⟨g, 2, none⟩ z).setCell ⟨g, 3, none⟩ u) g t [x, y, z, u] := (((h.set_ 0 x).set_ 1 y).set_ 2 z).set_ 3 u
theorem below_set4 {w0 w : World} {g B : Nat} (h : Below B w0 w) (hg : B ≤ g) (x y z u : Value) :
    Below B w0 ((((w.setCell ⟨g, 0, none⟩ x).setCell ⟨g, 1, none⟩ y).setCell ⟨g, 2, none⟩ z).setCell ⟨g, 3, none⟩ u) :=
  (((h.setCell (p := ⟨g, 0, none⟩) hg x).setCell (p := ⟨g, 1, none⟩) hg y).setCell (p := ⟨g, 2, none⟩) hg z).setCell (p := ⟨g, 3, none⟩) hg u

set_option maxRecDepth 100000 in
set_option maxHeartbeats 2000000 in
theorem decode_any (l : List UInt8) (w : World) (ht : TabIn w) : Calls Tryd.prog 39 #[.string (S l)] w (Ret w (decVal l)) := by
  have hbare := bare_any l
  obtain ⟨s, ok, hso⟩ : ∃ s ok, bareOf l = (s, ok) := ⟨_, _, rfl⟩
  rw [hso] at hbare
  have hA := Blk.new w 49 [.int .u8 0, .int .i64 0, .int .i64 0, .string { data := #[] }]
  have hb0 := below_alloc (Below.refl w.heap.size w) (.cells #[.int .u8 0, .int .i64 0, .int .i64 0, .string { data := #[] }] 49)
  have hz0 : (w.alloc (.cells #[.int .u8 0, .int .i64 0, .int .i64 0, .string { data := #[] }] 49)).heap.size = w.heap.size + 1 := by simp
  cases ok with
  | false =>
    have hd : decVal l = .tuple #[frZero, .int .i64 10] := by unfold decVal; rw [decOf_bad l (by rw [hso])]
    rw [hd]
    go_enter Tryd.func39, Tryd.ntmps39
    go_wp2_with (go_at_call 83; refine (hbare _).mono ?_)
    rintro e w1 ⟨rfl, hb1⟩
    replace hA := hA.on hb1
    have hw1 := below_then hb0 hb1
    clear hb0 hb1 hz0 ht hbare
    have c0 := (hA.cell 0).trans rfl
    have c1 := (hA.cell 1).trans rfl
    have c2 := (hA.cell 2).trans rfl
    have c3 := (hA.cell 3).trans rfl
    have f0 := hA.frozen 0
    have f1 := hA.frozen 1
    have f2 := hA.frozen 2
    have f3 := hA.frozen 3
    go_wp2
    have hq := hA.set4 (.int .u8 0) (.int .i64 0) (.int .i64 0) (.string { data := #[] })
    have hbq := below_set4 hw1 (Nat.le_refl _) (.int .u8 0) (.int .i64 0) (.int .i64 0) (.string { data := #[] })
    clear c0 c1 c2 c3 f0 f1 f2 f3 hA hw1
    generalize World.setCell _ _ _ = w4 at *
    have d0 := (hq.cell 0).trans rfl
    have d1 := (hq.cell 1).trans rfl
    have d2 := (hq.cell 2).trans rfl
    have d3 := (hq.cell 3).trans rfl
    simp [bodyPost, results, Tryd.f39, go_sem, d0, d1, d2, d3]
    exact ⟨rfl, hbq⟩
  | true =>
    have hlen := (bareOf_true hso).2.1
    have hdt := decOf_true hso
    have hbig := decOf_big hso
    have h7 : s[7]'(by omega) = s.getD 7 0 := getD_at s _ (by omega)
    have h0 : s[0]'(by omega) = s.getD 0 0 := getD_at s _ (by omega)
    have hrf : readFr s = ⟨s.getD 0 0, unbe (s.tail.take 4), unbe ((s.drop 5).take 2), (s.drop 12).take (s.getD 7 0).toNat⟩ := by rw [readFr, List.drop_one]
    generalize s.getD 7 0 = n7 at *
    generalize s.getD 0 0 = k0 at *
    have hn7 := n7.toNat_lt
    by_cases hb : 112 < n7.toNat
    · have hd : decVal l = .tuple #[frZero, .int .i64 10] := by unfold decVal; rw [hbig hb]
      rw [hd]
      clear hdt hbig hrf hso hd h0
      go_enter Tryd.func39, Tryd.ntmps39
      go_wp2_with (go_at_call 83; refine (hbare _).mono ?_)
      rintro e w1 ⟨rfl, hb1⟩
      replace hA := hA.on hb1
      have hw1 := below_then hb0 hb1
      clear hb0 hb1 hz0 ht hbare
      have c0 := (hA.cell 0).trans rfl
      have c1 := (hA.cell 1).trans rfl
      have c2 := (hA.cell 2).trans rfl
      have c3 := (hA.cell 3).trans rfl
      have f0 := hA.frozen 0
      have f1 := hA.frozen 1
      have f2 := hA.frozen 2
      have f3 := hA.frozen 3
      go_wp2
      have hq := hA.set4 (.int .u8 0) (.int .i64 0) (.int .i64 0) (.string { data := #[] })
      have hbq := below_set4 hw1 (Nat.le_refl _) (.int .u8 0) (.int .i64 0) (.int .i64 0) (.string { data := #[] })
      clear c0 c1 c2 c3 f0 f1 f2 f3 hA hw1
      generalize World.setCell _ _ _ = w4 at *
      have d0 := (hq.cell 0).trans rfl
      have d1 := (hq.cell 1).trans rfl
      have d2 := (hq.cell 2).trans rfl
      have d3 := (hq.cell 3).trans rfl
      simp [bodyPost, results, Tryd.f39, go_sem, d0, d1, d2, d3]
      exact ⟨rfl, hbq⟩
    · go_enter Tryd.func39, Tryd.ntmps39
      go_wp2_with (go_at_call 83; refine (hbare _).mono ?_)
      rintro e w1 ⟨rfl, hb1⟩
      replace hA := hA.on hb1
      have hw1 := below_then hb0 hb1
      replace ht := ht.below hw1
      clear hb0 hb1 hz0 hbare hbig
      go_wp2
      have q1 := IntWalk.i64_in (n7.toNat : Int) ⟨by omega, by omega⟩
      have q2 := IntWalk.i64_in (12 + (n7.toNat : Int)) ⟨by omega, by omega⟩
      have q3 : (12 + (n7.toNat : Int)) ≤ 124 := by omega
      have q4 : 0 ≤ (12 + (n7.toNat : Int)) := by omega
      have q5 : 12 ≤ (12 + (n7.toNat : Int)) := by omega
      have q6 : (12 + (n7.toNat : Int)).toNat - 12 = n7.toNat := by omega
      refine wp_region_rel 10 [] [(6, fun v W => ∃ b, v = .pointer (some ⟨b, 0, none⟩) ∧ w1.heap.size ≤ b ∧ Blk W b 49 [.int .u8 0, .int .i64 0, .int .i64 0, .string { data := #[] }])] [] (by kernel_rfl) (by kernel_rfl) (by decide) (by kernel_rfl) (by simp) (by rfl) ?_ ?_
      · intro p hp; simp only [List.mem_singleton] at hp; subst hp
        rintro v W W' hb ⟨b, rfl, hle, h⟩
        exact ⟨b, rfl, hle, h.on hb⟩
      simp only [List.take_succ_cons, List.take_zero]
      repeat (refine head_step rfl rfl rfl (fun K hK => ?_); go_simp; refine hK _ ?_; clear hK K)
      refine head_rel rfl (relAt_plain0 rfl fun ρ n => ?_) (fun K hK => ?_)
      · go_simp
        exact ⟨⟨n.ok.size, Blk.new _ _ [_, _, _, _]⟩, below_alloc (Below.refl _ _) _⟩
      go_simp
      refine hK _ ?_
      clear hK K
      refine head_nil ?_
      intro n
      simp only [finT]
      rintro v ⟨g, rfl, hg, hG⟩
      have hAn := hA.on n.ok
      have hn1 := n.ok
      have hwn := below_then hw1 n.ok
      have hwz := hA.lt
      clear hA hw1
      generalize n.W = w2 at *
      have c0 := (hG.cell 0).trans rfl
      have c1 := (hG.cell 1).trans rfl
      have c2 := (hG.cell 2).trans rfl
      have c3 := (hG.cell 3).trans rfl
      have f0 := hG.frozen 0
      have f1 := hG.frozen 1
      have f2 := hG.frozen 2
      have f3 := hG.frozen 3
      go_wp2_with (fail)
      simp only [normalOnly]
      have hG3 := hG.set4 (.int .u8 k0.toNat) (.int .i64 0) (.int .i64 0) (.string (S (List.take n7.toNat (List.drop 12 s))))
      have hg0 : w.heap.size < g := by omega
      have hw3 := below_set4 hwn (Nat.le_of_lt hg0) (.int .u8 k0.toNat) (.int .i64 0) (.int .i64 0) (.string (S (List.take n7.toNat (List.drop 12 s))))
      have hb3 := (below_set4 hn1 hg (.int .u8 k0.toNat) (.int .i64 0) (.int .i64 0) (.string (S (List.take n7.toNat (List.drop 12 s)))))
      have hA3 := (((hAn.far (p := ⟨g, 0, none⟩) (by simp; omega) (.int .u8 k0.toNat)).far (p := ⟨g, 1, none⟩) (by simp; omega) (.int .i64 0)).far (p := ⟨g, 2, none⟩) (by simp; omega) (.int .i64 0)).far (p := ⟨g, 3, none⟩) (by simp; omega) (.string (S (List.take n7.toNat (List.drop 12 s))))
      clear c0 c1 c2 c3 f0 f1 f2 f3 hG hwn hAn hn1 q1 q2 q3 q4 q5 q6
      generalize World.setCell _ _ _ = w3 at *
      have c0 := (hG3.cell 0).trans rfl
      have c1 := (hG3.cell 1).trans rfl
      have c2 := (hG3.cell 2).trans rfl
      have c3 := (hG3.cell 3).trans rfl
      have f0 := hG3.frozen 0
      have f1 := hG3.frozen 1
      have f2 := hG3.frozen 2
      have f3 := hG3.frozen 3
      go_wp2_with (go_at_call 84; refine (get_n s _ _ (by simp) (by simp) (by rw [hlen]; decide) (by rw [hlen]; decide) _).mono ?_; rintro e w' ⟨rfl, rfl⟩)
      generalize unbe (List.take 4 s.tail) = E at *
      generalize unbe (List.take 2 (List.drop 5 s)) = I at *
      have hdl : (List.take n7.toNat (List.drop 12 s)).length ≤ 112 := by simp; omega
      generalize List.take n7.toNat (List.drop 12 s) = d at *
      have hG4 := (hG3.set_ 1 (.int .i64 E)).set_ 2 (.int .i64 I)
      have hw4 := (hw3.setCell (p := ⟨g, 1, none⟩) (Nat.le_of_lt hg0) (.int .i64 E)).setCell (p := ⟨g, 2, none⟩) (Nat.le_of_lt hg0) (.int .i64 I)
      have ht4 := ht.below ((hb3.setCell (p := ⟨g, 1, none⟩) hg (.int .i64 E)).setCell (p := ⟨g, 2, none⟩) hg (.int .i64 I))
      have hA4 := (hA3.far (p := ⟨g, 1, none⟩) (by simp; omega) (.int .i64 E)).far (p := ⟨g, 2, none⟩) (by simp; omega) (.int .i64 I)
      clear c0 c1 c2 c3 f0 f1 f2 f3 hG3 hw3 hb3 ht hA3
      generalize (w3.setCell ⟨g, 1, none⟩ (.int .i64 E)).setCell ⟨g, 2, none⟩ (.int .i64 I) = w4 at *
      refine (check_any ⟨k0, E, I, d⟩ (by simp only; omega) w4).mono ?_
      rintro e w5 ⟨rfl, hb5⟩
      have hA5 := hA4.on hb5
      have hG5 := hG4.on hb5
      have ht5 := ht4.below hb5
      have hw5 := below_then hw4 hb5
      clear ht4 hA4 hG4 hw4 hb5
      have c0 := (hG5.cell 0).trans rfl
      have c1 := (hG5.cell 1).trans rfl
      have c2 := (hG5.cell 2).trans rfl
      have c3 := (hG5.cell 3).trans rfl
      by_cases hok : Fr.OK ⟨k0, E, I, d⟩
      · have herr := Fr.err_ok hok
        go_wp2_with (go_at_call 73; refine (text_ok ⟨k0, E, I, d⟩ hok _ ht5).mono ?_)
        rintro e w6 ⟨rfl, hb6⟩
        have hG6 := hG5.on hb6
        have hA6 := hA5.on hb6
        have hw6 := below_then hw5 hb6
        clear hG5 hA5 ht5 hw5 hb6 c0 c1 c2 c3
        by_cases htx : Fr.text ⟨k0, E, I, d⟩ = s
        · have hd : decVal l = .tuple #[.agg #[.int .u8 k0.toNat, .int .i64 E, .int .i64 I, .string (S d)], .int .i64 0] := by
            unfold decVal; rw [hdt, hrf, if_pos ⟨hok, htx⟩]; rfl
          rw [htx]
          clear hdt hrf hso
          have c0 := (hG6.cell 0).trans rfl
          have c1 := (hG6.cell 1).trans rfl
          have c2 := (hG6.cell 2).trans rfl
          have c3 := (hG6.cell 3).trans rfl
          have f0 := hA6.frozen 0
          have f1 := hA6.frozen 1
          have f2 := hA6.frozen 2
          have f3 := hA6.frozen 3
          have e0 := (hA6.cell 0).trans rfl
          have e1 := (hA6.cell 1).trans rfl
          have e2 := (hA6.cell 2).trans rfl
          have e3 := (hA6.cell 3).trans rfl
          have hgn : g ≠ w.heap.size := by omega
          go_wp2
          have hq := hA6.set4 (.int .u8 k0.toNat) (.int .i64 E) (.int .i64 I) (.string (S d))
          have hbq := below_set4 hw6 (Nat.le_refl _) (.int .u8 k0.toNat) (.int .i64 E) (.int .i64 I) (.string (S d))
          clear e0 e1 e2 e3 c0 c1 c2 c3 f0 f1 f2 f3 hA6 hw6
          generalize World.setCell _ _ _ = w7 at *
          have d0 := (hq.cell 0).trans rfl
          have d1 := (hq.cell 1).trans rfl
          have d2 := (hq.cell 2).trans rfl
          have d3 := (hq.cell 3).trans rfl
          simp [bodyPost, results, Tryd.f39, go_sem, d0, d1, d2, d3]
          exact ⟨by rw [hd], hbq⟩
        · have hd : decVal l = .tuple #[frZero, .int .i64 10] := by
            unfold decVal; rw [hdt, hrf, if_neg (fun h => htx h.2)]
          generalize Fr.text ⟨k0, E, I, d⟩ = tx at *
          have htx' : (tx == s) = false := beq_eq_false_iff_ne.2 htx
          clear hdt hrf hso hG6
          have c0 := (hA6.cell 0).trans rfl
          have c1 := (hA6.cell 1).trans rfl
          have c2 := (hA6.cell 2).trans rfl
          have c3 := (hA6.cell 3).trans rfl
          have f0 := hA6.frozen 0
          have f1 := hA6.frozen 1
          have f2 := hA6.frozen 2
          have f3 := hA6.frozen 3
          go_wp2
          have hq := hA6.set4 (.int .u8 0) (.int .i64 0) (.int .i64 0) (.string { data := #[] })
          have hbq := below_set4 hw6 (Nat.le_refl _) (.int .u8 0) (.int .i64 0) (.int .i64 0) (.string { data := #[] })
          clear c0 c1 c2 c3 f0 f1 f2 f3 hA6 hw6
          generalize World.setCell _ _ _ = w7 at *
          have d0 := (hq.cell 0).trans rfl
          have d1 := (hq.cell 1).trans rfl
          have d2 := (hq.cell 2).trans rfl
          have d3 := (hq.cell 3).trans rfl
          simp [bodyPost, results, Tryd.f39, go_sem, d0, d1, d2, d3]
          exact ⟨by rw [hd]; rfl, hbq⟩
      · have herr : Fr.err ⟨k0, E, I, d⟩ ≠ 0 := fun h => hok (Fr.ok_err h)
        have hd : decVal l = .tuple #[frZero, .int .i64 10] := by
          unfold decVal; rw [hdt, hrf, if_neg (fun h => hok h.1)]
        generalize Fr.err ⟨k0, E, I, d⟩ = er at *
        clear hdt hrf hso hG5 c0 c1 c2 c3 ht5
        have hA6 := hA5
        have hw6 := hw5
        clear hA5 hw5
        have c0 := (hA6.cell 0).trans rfl
        have c1 := (hA6.cell 1).trans rfl
        have c2 := (hA6.cell 2).trans rfl
        have c3 := (hA6.cell 3).trans rfl
        have f0 := hA6.frozen 0
        have f1 := hA6.frozen 1
        have f2 := hA6.frozen 2
        have f3 := hA6.frozen 3
        go_wp2
        have hq := hA6.set4 (.int .u8 0) (.int .i64 0) (.int .i64 0) (.string { data := #[] })
        have hbq := below_set4 hw6 (Nat.le_refl _) (.int .u8 0) (.int .i64 0) (.int .i64 0) (.string { data := #[] })
        clear c0 c1 c2 c3 f0 f1 f2 f3 hA6 hw6
        generalize World.setCell _ _ _ = w7 at *
        have d0 := (hq.cell 0).trans rfl
        have d1 := (hq.cell 1).trans rfl
        have d2 := (hq.cell 2).trans rfl
        have d3 := (hq.cell 3).trans rfl
        simp [bodyPost, results, Tryd.f39, go_sem, d0, d1, d2, d3]
        exact ⟨by rw [hd]; rfl, hbq⟩
end Go.Proofs.YtdedanoelobdaaaDoor
