/- WHAT THIS FILE PROVES: the contract of sealingwaxlaw06.does: true. -/
import Derived.Test.YtdedanoelobdaaaDoorMixPlain
import Derived.Test.YtdedanoelobdaaaDoorLawBlock
namespace Go.Proofs.YtdedanoelobdaaaDoor
open Go.RowKit Go.Proofs
attribute [local go_sem] calm calmUpon

theorem relAt_plain2 {P : Program} {ops : Array Oper} {w0 : World} {T : List (Tmp × VRel)} {V : VRel} {o : Oper} {a : Act} (s t : Tmp) {x y : Value} (hg : o.guard = none) (hs : (o.looksAt ops).contains s = true) (ht : (o.looksAt ops).contains t = true) (hl : look T s = none) (hl' : look T t = none)
    (hx : a.tmps.getD s undef = x) (hy : a.tmps.getD t undef = y)
    (h : ∀ (ρ : Operand → Value) (n : Aft w0), ρ (.tmp s) = x → ρ (.tmp t) = y → calmUpon P n.W V ((execOp ρ o).run P n.W)) : relAt P ops w0 T V o a := fun a' n _ hk => by
  rw [if_pos (by simp [Region.wanted, hg])]
  refine h a'.eval n ?_ ?_
  · have := hk s (by simpa using hs)
    unfold Knows at this
    rw [hl] at this
    rw [← hx]; exact this
  · have := hk t (by simpa using ht)
    unfold Knows at this
    rw [hl'] at this
    rw [← hy]; exact this
theorem relAt_rel1a {P : Program} {ops : Array Oper} {w0 : World} {T : List (Tmp × VRel)} {V : VRel} {o : Oper} {a : Act} (s : Tmp) {V' : VRel} (hg : o.guard = none) (hs : (o.looksAt ops).contains s = true) (hl : look T s = some V')
    (h : ∀ (a' : Act) (n : Aft w0) (v : Value), a'.eval (.tmp s) = v → V' v n.W → calmUpon P n.W V ((execOp a'.eval o).run P n.W)) : relAt P ops w0 T V o a := fun a' n _ hk => by
  rw [if_pos (by simp [Region.wanted, hg])]
  refine h a' n _ rfl ?_
  have := hk s (by simpa using hs)
  unfold Knows at this
  rw [hl] at this
  exact this
theorem Row.le {B B' : Nat} {v : Value} {bs : List (List UInt8)} {w : World} (h : Row B v bs w) (hb : B' ≤ B) : Row B' v bs w :=
  ⟨h.1, h.2.imp id fun ⟨g, cap, cur, hv, hg, r⟩ => ⟨g, cap, cur, hv, Nat.le_trans hb hg, r⟩⟩
theorem split_ok (k : UInt8) (e : Int) (d : List UInt8) (hdl : d.length ≤ 7340032) (hk : goodKind k) (he : goodEpoch e) (w : World) (ht : TabIn w) :
    Calls Tryd.prog 15 #[.int .u8 k.toNat, .int .i64 e, .string (S d)] w fun e' w' => ∃ v, e' = .returned (.tuple #[v, .int .i64 0]) ∧ Row w.heap.size v (blocksOf k e 0 (chunks d)) w' ∧ Below w.heap.size w w' := by
  have h0 : splitErr k e d = 0 := by
    unfold splitErr
    rw [if_neg (by unfold cntI; rw [if_neg (by omega)]; omega), if_pos ⟨hk, he⟩]
  refine (split_any k e d (by omega) w ht).mono ?_
  rintro e' w' ⟨hb, ⟨hne, _⟩ | ⟨_, v, rfl, hr⟩⟩
  · exact absurd h0 hne
  · exact ⟨v, rfl, hr, hb⟩
theorem Row.shown {B : Nat} {v : Value} {b : List UInt8} {bs : List (List UInt8)} {w : World} (h : Row B v (b :: bs) w) : ∃ g cap, v = .slice (some ⟨g, 0, none⟩) (b :: bs).length cap ∧ (b :: bs).length ≤ cap ∧ B ≤ g ∧ g < w.heap.size := by
  rcases h.2 with ⟨_, hn⟩ | ⟨g, cap, cur, hv, hB, hg, hc, _⟩
  · simp at hn
  · exact ⟨g, cap, hv, hc, hB, (Array.getElem?_eq_some_iff.1 hg).1⟩
theorem Row.firsts {B : Nat} {g cap : Nat} {bs : List (List UInt8)} {w : World} (h : Row B (.slice (some ⟨g, 0, none⟩) bs.length cap) bs w) (m : Nat) (hm : m ≤ bs.length) : Row B (.slice (some ⟨g, 0, none⟩) m cap) (bs.take m) w := by
  have hl : (bs.take m).length = m := by simp; omega
  refine ⟨by simp, .inr ?_⟩
  rcases h.2 with ⟨hv, _⟩ | ⟨g', cap', cur, hv, hB, hg, hc, hm', hs, ht⟩
  · cases hv
  · injection hv with h1 h2 h3
    injection h1 with h1
    injection h1 with h1
    subst h1; subst h3
    refine ⟨g, cap, cur, by rw [hl], hB, hg, by rw [hl]; omega, hm', hs, ?_⟩
    have : SV (bs.take m) = (SV bs).take m := by simp [SV]
    rw [this, ← ht, List.take_take, hl]
    congr 1
    omega
theorem Row.cellAt {B : Nat} {g cap : Nat} {bs : List (List UInt8)} {w : World} (h : Row B (.slice (some ⟨g, 0, none⟩) bs.length cap) bs w) (i : Nat) (hi : i < bs.length) : w.cell? ⟨g, i, none⟩ = some (.string (S bs[i])) := by
  rw [World.ownsRow.cellAt h i (by omega)]
  simp [SV, List.getElem?_eq_getElem hi]
theorem Row.new (w : World) (B : Nat) (hB : B ≤ w.heap.size) (bs : List (List UInt8)) (hm : bs.length ≤ maxLen) : Row B (.slice (some ⟨w.heap.size, 0, none⟩) bs.length bs.length) bs (w.alloc (.cells (SV bs).toArray 9)) :=
  ⟨by simp, .inr ⟨w.heap.size, bs.length, (SV bs).toArray, rfl, hB, heap_alloc_new _ _, Nat.le_refl _, hm, by simp, by simp [SV, List.take_of_length_le]⟩⟩

theorem join_to (k : UInt8) (e : Int) (bs : List (List UInt8)) (hbl : bs.length ≤ 1000000) {x : List UInt8} {er : Int} (hx : joinVal bs k e = .tuple #[.string (S x), .int .i64 er]) (v : Value) (B : Nat) (w : World) (hr : Row B v bs w) (ht : TabIn w) :
    Calls Tryd.prog 16 #[v, .int .u8 k.toNat, .int .i64 e] w (Ret w (.tuple #[.string (S x), .int .i64 er])) := by
  rw [← hx]; exact join_any k e bs hbl v B w hr ht
theorem joinVal_some {bs : List (List UInt8)} {k : UInt8} {e : Int} {x : List UInt8} (h : joinOf bs k e = some x) : joinVal bs k e = .tuple #[.string (S x), .int .i64 0] := by unfold joinVal; rw [h]
theorem joinVal_none {bs : List (List UInt8)} {k : UInt8} {e : Int} (h : joinOf bs k e = none) : joinVal bs k e = .tuple #[.string (S []), .int .i64 10] := by unfold joinVal; rw [h]

theorem g80 : goodKind 80 := .inr (.inl rfl)
theorem g68 : goodKind 68 := .inl rfl
theorem ge1 : goodEpoch 1 := ⟨by decide, by decide⟩

set_option maxRecDepth 100000 in
set_option maxHeartbeats 4000000 in
theorem does06 (w : World) (ht : TabIn w) : Calls Tryd.prog 17 #[] w (Ret w (.bool true)) := by
  have hbl := block_any [97, 98, 99] (by decide)
  have hlen := blockText_len [97, 98, 99]
  generalize blockText [97, 98, 99] = bt at *
  have hx : (List.take 113 bt).length = 113 := by simp; omega
  -- the two blocks
  have hch : chunks (List.take 113 bt) = [(List.take 113 bt).take 112, (List.take 113 bt).drop 112] := by
    rw [chunks_long (by omega), chunks_short (by simp; omega)]
  have hJ1 := joinVal_some (join_split g80 ge1 (d := List.take 113 bt) (by rw [hch]; simp))
  have hsp := split_ok 80 1 (List.take 113 bt) (by omega) g80 ge1
  rw [hch] at hJ1 hsp
  simp only [blocksOf] at hJ1 hsp
  have o0 : Fr.OK ⟨80, 1, ((0 : Nat) : Int), (List.take 113 bt).take 112⟩ := ⟨g80, ge1.1, ge1.2, by simp, by simp, by simp; omega⟩
  have o1 : Fr.OK ⟨80, 1, ((0 + 1 : Nat) : Int), (List.take 113 bt).drop 112⟩ := ⟨g80, ge1.1, ge1.2, by simp, by simp, by simp; omega⟩
  generalize hb0 : Fr.block ⟨80, 1, ((0 : Nat) : Int), (List.take 113 bt).take 112⟩ = b0 at *
  generalize hb1 : Fr.block ⟨80, 1, ((0 + 1 : Nat) : Int), (List.take 113 bt).drop 112⟩ = b1 at *
  have hJ2 : joinVal [b0] 80 1 = .tuple #[.string (S ((List.take 113 bt).take 112)), .int .i64 0] := joinVal_some (by
    unfold joinOf
    rw [if_neg (by simp)]
    simp only [joinFrom, ← hb0]
    rw [joinAt_block o0, if_pos ⟨rfl, rfl, rfl, .inr rfl, .inr rfl⟩]
    simp)
  have hJ3 : joinVal [b1, b0] 80 1 = .tuple #[.string (S []), .int .i64 10] := joinVal_none (joinOf_bad 0 (by simp) (by
    simp only [List.getElem_cons_zero, ← hb1]
    rw [joinAt_block o1, if_neg]
    rintro ⟨_, _, h, _⟩
    simp at h))
  have hJ4 : joinVal [] 80 1 = .tuple #[.string (S []), .int .i64 10] := joinVal_none (by simp [joinOf])
  have hJ5 : joinVal [b0, b1] 68 1 = .tuple #[.string (S []), .int .i64 10] := joinVal_none (joinOf_bad 0 (by simp) (by
    simp only [List.getElem_cons_zero, ← hb0]
    rw [joinAt_block o0, if_neg]
    rintro ⟨h, _⟩
    exact absurd (show (80 : UInt8) = 68 from h) (by decide)))
  have K1 := Lib.hid (join_to 80 1 [b0, b1] (by simp) hJ1)
  have K2 := Lib.hid (join_to 80 1 [b0] (by simp) hJ2)
  have K3 := Lib.hid (join_to 80 1 [b1, b0] (by simp) hJ3)
  have K4 := Lib.hid (join_to 80 1 [] (by simp) hJ4)
  have K5 := Lib.hid (join_to 68 1 [b0, b1] (by simp) hJ5)
  clear hJ1 hJ2 hJ3 hJ4 hJ5 hch o0 o1 hb0 hb1
  have HS := Lib.hid hsp
  clear hsp
  go_enter Tryd.func17, Tryd.ntmps17
  go_wp2_with (go_at_call 57; refine (hbl _).mono ?_)
  rintro e w1 ⟨rfl, hb1⟩
  have ht1 := ht.below hb1
  clear hbl
  go_wp2_with (go_at_call 15; refine (HS.out _ ht1).mono ?_)
  rintro e w2 ⟨v, rfl, hr2, hb2⟩
  have hbw := below_then hb1 hb2
  have ht2 := ht1.below hb2
  obtain ⟨g, cap, rfl, hcap, _, hg⟩ := hr2.shown
  have hrow : Row 0 (.slice (some ⟨g, 0, none⟩) 2 cap) [b0, b1] w2 := Row.le hr2 (Nat.zero_le _)
  have hcap2 : 2 ≤ cap := hcap
  clear hr2 hcap hb1 hb2 ht1 ht HS
  simp only [List.length_cons, List.length_nil]
  go_wp2_with (go_at_call 16; refine (K1.out _ _ _ hrow ht2).mono ?_)
  rintro e w3 ⟨rfl, hb3⟩
  have hrow3 := hrow.on hb3
  have ht3 := ht2.below hb3
  have hbw3 := below_then hbw hb3
  have hcap1 : 1 ≤ (cap : Int) := by omega
  clear hrow ht2 hbw hb3 K1
  go_wp2_with (go_at_call 16; refine (K2.out _ _ _ (hrow3.firsts 1 (by simp)) ht3).mono ?_)
  rintro e w4 ⟨rfl, hb4⟩
  have hrow4 := hrow3.on hb4
  have ht4 := ht3.below hb4
  have hbw4 := below_then hbw3 hb4
  clear hrow3 ht3 hbw3 hb4 K2
  have c0 := aft_cell (hrow4.cellAt 0 (by simp))
  have c1 := aft_cell (hrow4.cellAt 1 (by simp))
  go_wp2_with (fail)
  refine wp_region_rel 13 [] [(46, fun v W => Row 0 v [b1, b0] W)] [(47, .tuple #[.string (S []), .int .i64 10])] (by kernel_rfl) (by kernel_rfl) (by decide) (by kernel_rfl) (by simp) (by rfl) ?_ ?_
  · intro p hp; simp only [List.mem_singleton] at hp; subst hp
    exact fun v W W' hb h => h.on hb
  simp only [List.take_succ_cons, List.take_zero]
  repeat (refine head_step rfl rfl rfl (fun K hK => ?_); go_simp; refine hK _ ?_; clear hK K)
  refine head_rel rfl (relAt_plain2 42 45 (x := .string (S b1)) (y := .string (S b0)) rfl rfl rfl rfl rfl rfl rfl fun ρ n h1 h2 => ?_) (fun K hK => ?_)
  · go_simp
    exact ⟨Row.new n.W 0 (Nat.zero_le _) [b1, b0] (by simp [maxLen]), below_alloc (Below.refl _ _) _⟩
  go_simp
  refine hK _ ?_
  clear hK K
  refine head_eq rfl rfl (relAt_rel1a 46 rfl rfl rfl fun a' n v hv hρ => ?_) (fun K hK => ?_)
  · simp only [Act.eval] at hv
    go_simp
    exact calm_ret (K3.out _ _ _ hρ (ht4.below n.ok))
  go_simp
  refine hK _ ?_
  clear hK K
  repeat (refine head_step rfl rfl rfl (fun K hK => ?_); go_simp; refine hK _ ?_; clear hK K)
  refine head_nil ?_
  intro n
  simp only [finT]
  intro v hv
  refine wpList_nil ?_
  simp only [normalOnly]
  have hrow5 := hrow4.on n.ok
  have ht5 := ht4.below n.ok
  have hbw5 := below_then hbw4 n.ok
  clear hrow4 ht4 hbw4 c0 c1 K3
  generalize n.W = w5 at *
  go_wp2_with (go_at_call 16; refine (K4.out _ 0 _ (World.ownsRow_nil _ _ _ _) ht5).mono ?_)
  rintro e w6 ⟨rfl, hb6⟩
  have hrow6 := hrow5.on hb6
  have ht6 := ht5.below hb6
  have hbw6 := below_then hbw5 hb6
  clear hrow5 ht5 hbw5 hb6 K4
  go_wp2_with (go_at_call 16; refine (K5.out _ _ _ hrow6 ht6).mono ?_)
  rintro e w7 ⟨rfl, hb7⟩
  have hbw7 := below_then hbw6 hb7
  clear hrow6 ht6 hbw6 hb7 K5
  have hc0 := count_any 0 (by decide) (by decide)
  have hc1 := count_any 112 (by decide) (by decide)
  have hc2 := count_any 113 (by decide) (by decide)
  have hc3 := count_any (-1) (by decide) (by decide)
  rw [show cntI 0 = 1 from by decide] at hc0
  rw [show cntI 112 = 1 from by decide] at hc1
  rw [show cntI 113 = 2 from by decide] at hc2
  rw [show cntI (-1) = 0 from by decide] at hc3
  have H0 := Lib.hid hc0
  have H1 := Lib.hid hc1
  have H2 := Lib.hid hc2
  have H3 := Lib.hid hc3
  clear hc0 hc1 hc2 hc3
  go_wp2_with (go_at_call 52; refine (H0.out _).mono ?_)
  rintro e w' ⟨rfl, rfl⟩
  go_wp2_with (go_at_call 52; refine (H1.out _).mono ?_)
  rintro e w' ⟨rfl, rfl⟩
  go_wp2_with (go_at_call 52; refine (H2.out _).mono ?_)
  rintro e w' ⟨rfl, rfl⟩
  go_wp2_with (go_at_call 52; refine (H3.out _).mono ?_)
  rintro e w' ⟨rfl, rfl⟩
  go_wp2
  go_ret
  exact ⟨rfl, hbw7⟩
end Go.Proofs.YtdedanoelobdaaaDoor
