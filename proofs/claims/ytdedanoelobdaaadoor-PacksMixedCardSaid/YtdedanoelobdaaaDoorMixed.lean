/- WHAT THIS FILE PROVES: the walk of sealingwaxlaw06.PacksMixed: true at every two texts. -/
import Derived.Test.YtdedanoelobdaaaDoorDoes06
namespace Go.Proofs.YtdedanoelobdaaaDoor
open Go.RowKit Go.Proofs

/-- append(x, y...) of two rows of strings. -/
theorem wpList_cat {ops : Array Oper} {rest : List Oper} {o : Oper} {a : Act} {Q : Exit → Act → World → Prop} {w : World} (hgd : o.guard = none) (s x : Operand)
    (ho : o.op = .call { callee := .builtin .append, args := #[s, x], argTypes := #[22, 22] }) (B : Nat) (v : Value) (ps qs : List (List UInt8)) (hs : a.eval s = v) (hv : Row B v ps w)
    (B' g cap : Nat) (hx : a.eval x = .slice (some ⟨g, 0, none⟩) qs.length cap) (hu : Row B' (.slice (some ⟨g, 0, none⟩) qs.length cap) qs w) (hlen : ps.length + qs.length ≤ 1000000) (hB : B ≤ w.heap.size)
    (h : ∀ v' w', Row B v' (ps ++ qs) w' → w.grownBy w' v.ownBlock → wpList Tryd.prog ops Q rest (a.put o.dst v') w') : wpList Tryd.prog ops Q (o :: rest) a w := by
  obtain ⟨i0, hi, hz0, hz1, hz2⟩ := info_parts infoStr
  refine wpList_append_own w hgd s x 22 ho B 9 i0 _ 1 16 uStrs hi hz0 hz1 hz2 rfl (by omega) v _ _ hs hv ⟨g, 0, none⟩ qs.length cap (SV qs) hx (by simp) (World.ownsRow.cells hu rfl) ?_ (by unfold maxLen; omega) (by omega) hB ?_
  · intro u hu
    simp only [SV, List.mem_map] at hu
    obtain ⟨b, _, rfl⟩ := hu
    rfl
  · intro v' w' h1 h2 _
    refine h v' w' ?_ h2
    unfold Row
    rw [SV_append, List.length_append]
    exact h1
theorem Row.grown {B B' : Nat} {v u : Value} {ps qs : List (List UInt8)} {w w' : World} (h : Row B v ps w) (hg : w.grownBy w' u.ownBlock) (hu : Row B' u qs w) (hlt : ∀ g, v.ownBlock = some g → g < B') : Row B v ps w' :=
  h.keep fun g hg' => hg.block g (h.lt hg') fun e => by
    have := (World.ownsRow.lt hu g e.symm).1
    have := hlt g hg'
    omega
theorem below_grown {B : Nat} {u : Value} {qs : List (List UInt8)} {a w w' : World} (h : Below B a w) (hB : B ≤ w.heap.size) (hg : w.grownBy w' u.ownBlock) (hu : Row B u qs w) : Below B a w' :=
  h.grown hg hB fun k e => (World.ownsRow.lt hu k e).1

theorem Row.shows {B : Nat} {v : Value} {bs : List (List UInt8)} {w : World} (h : Row B v bs w) (hne : bs ≠ []) : ∃ g cap, v = .slice (some ⟨g, 0, none⟩) bs.length cap := by
  rcases h.2 with ⟨_, hn⟩ | ⟨g, cap, cur, hv, _⟩
  · exact absurd (List.eq_nil_of_length_eq_zero hn) hne
  · exact ⟨g, cap, hv⟩

set_option maxRecDepth 100000 in
set_option maxHeartbeats 4000000 in
theorem mixed_any (t o : List UInt8) (w : World) (ht : TabIn w) : Calls Tryd.prog 3 #[.string (S t), .string (S o)] w (Ret w (.bool true)) := by
  by_cases hb : 1000 < t.length ∨ 1000 < o.length
  · have h2 : 1000 < (t.length : Int) ∨ (¬ 1000 < (t.length : Int) ∧ 1000 < (o.length : Int)) := by omega
    clear hb ht
    rcases h2 with h | ⟨h, h'⟩
    all_goals
      go_enter Tryd.func3, Tryd.ntmps3
      go_wp2
      go_ret
      exact ⟨rfl, Below.refl _ _⟩
  · have ge5 : goodEpoch 5 := ⟨by decide, by decide⟩
    have ge6 : goodEpoch 6 := ⟨by decide, by decide⟩
    have lt : ∀ d : List UInt8, d.length ≤ 1000 → (chunks d).length ≤ 9 := fun d hd => by
      have := chunks_count d
      unfold cntI at this
      rw [if_neg (by omega)] at this
      omega
    have l1 := lt t (by omega)
    have l2 := lt o (by omega)
    have q1 := blocksOf_length 80 5 (chunks t) 0
    have q2 := blocksOf_length 80 6 (chunks o) 0
    have q3 := blocksOf_length 68 5 (chunks o) 0
    have hS1 := split_ok 80 5 t (by omega) g80 ge5
    have hS2 := split_ok 80 6 o (by omega) g80 ge6
    have hS3 := split_ok 68 5 o (by omega) g68 ge5
    have hJ1 := joinVal_none (join_mixed (k := 80) (e := 5) g80 ge6 (.inr (by decide)) (blocksOf 80 5 0 (chunks t)) o)
    have hJ2 := joinVal_none (join_mixed (k := 80) (e := 5) g68 ge5 (.inl (by decide)) (blocksOf 80 5 0 (chunks t)) o)
    have hJ3 := joinVal_none (join_mixed (k := 68) (e := 5) g80 ge5 (.inl (by decide)) (blocksOf 68 5 0 (chunks o)) t)
    have n1 : blocksOf 80 5 0 (chunks t) ≠ [] := fun h => by rw [h] at q1; have := chunks_pos t; simp at q1; omega
    have n2 : blocksOf 80 6 0 (chunks o) ≠ [] := fun h => by rw [h] at q2; have := chunks_pos o; simp at q2; omega
    have n3 : blocksOf 68 5 0 (chunks o) ≠ [] := fun h => by rw [h] at q3; have := chunks_pos o; simp at q3; omega
    rw [← q1] at l1
    have l3 : (blocksOf 68 5 0 (chunks o)).length ≤ 9 := by omega
    rw [← q2] at l2
    clear q1 q2 q3 lt ge5 ge6
    generalize blocksOf 80 5 0 (chunks t) = as1 at *
    generalize blocksOf 80 6 0 (chunks o) = as2 at *
    generalize blocksOf 68 5 0 (chunks o) = as3 at *
    have K1 := Lib.hid (join_to 80 5 (as1 ++ as2) (by simp; omega) hJ1)
    have K2 := Lib.hid (join_to 80 5 (as1 ++ as3) (by simp; omega) hJ2)
    have K3 := Lib.hid (join_to 68 5 (as3 ++ as1) (by simp; omega) hJ3)
    have S1 := Lib.hid hS1
    have S2 := Lib.hid hS2
    have S3 := Lib.hid hS3
    have t1 : t.length ≤ 1000 := by omega
    have t2 : o.length ≤ 1000 := by omega
    clear hJ1 hJ2 hJ3 hS1 hS2 hS3 hb
    go_enter Tryd.func3, Tryd.ntmps3
    go_wp2_with (go_at_call 15; refine (S1.out _ ht).mono ?_)
    rintro e w1 ⟨v1, rfl, r1, hb1⟩
    have ht1 := ht.below hb1
    clear S1 ht
    go_wp2_with (go_at_call 15; refine (S2.out _ ht1).mono ?_)
    rintro e w2 ⟨v2, rfl, r2, hb2⟩
    have ht2 := ht1.below hb2
    replace r1 := r1.on hb2
    clear S2 ht1
    go_wp2_with (go_at_call 15; refine (S3.out _ ht2).mono ?_)
    rintro e w3 ⟨v3, rfl, r3, hb3⟩
    have htw := ht2.below hb3
    replace r1 := r1.on hb3
    replace r2 := r2.on hb3
    have hbw := below_then (below_then hb1 hb2) hb3
    clear S3 ht2 hb1 hb2 hb3
    obtain ⟨g1, cap1, rfl⟩ := r1.shows n1
    obtain ⟨g2, cap2, rfl⟩ := r2.shows n2
    obtain ⟨g3, cap3, rfl⟩ := r3.shows n3
    have hza : (w3.alloc (.cells #[] 9)).heap.size = w3.heap.size + 1 := by simp
    have hea : Row w3.heap.size (.slice (some ⟨w3.heap.size, 0, none⟩) 0 0) [] (w3.alloc (.cells #[] 9)) := Row.new w3 w3.heap.size (Nat.le_refl _) [] (by simp [maxLen])
    have haa := below_alloc (Below.refl w3.heap.size w3) (.cells #[] 9)
    have R1a := r1.on haa
    have R2a := r2.on haa
    have R3a := r3.on haa
    have p1a : ∀ g, (Value.slice (some ⟨g1, 0, none⟩) as1.length cap1).ownBlock = some g → g < w3.heap.size := fun g h => r1.lt h
    have p2a : ∀ g, (Value.slice (some ⟨g2, 0, none⟩) as2.length cap2).ownBlock = some g → g < w3.heap.size := fun g h => r2.lt h
    have p3a : ∀ g, (Value.slice (some ⟨g3, 0, none⟩) as3.length cap3).ownBlock = some g → g < w3.heap.size := fun g h => r3.lt h
    clear r1 r2 r3
    go_wp2_with (at_builtin; refine wpList_cat rfl _ _ rfl w3.heap.size _ [] as1 rfl hea _ _ _ rfl R1a (by simp; omega) (by omega) ?_)
    intro ua xa hua hga
    have hsa := hga.size
    replace R1a := R1a.grown hga hea p1a
    replace R2a := R2a.grown hga hea p2a
    replace R3a := R3a.grown hga hea p3a
    replace haa := below_grown haa (by omega) hga hea
    clear hga hea
    obtain ⟨o1, c1, rfl⟩ := hua.form
    go_wp2_with (at_builtin; refine wpList_cat rfl _ _ rfl w3.heap.size _ as1 as2 rfl hua _ _ _ rfl R2a (by omega) (by omega) ?_)
    intro ua ya hva hga
    have r1 := R1a.grown hga hua p1a
    have r2 := R2a.grown hga hua p2a
    have r3 := R3a.grown hga hua p3a
    replace haa := below_grown haa (by omega) hga hua
    have hbw := below_then hbw haa
    have htw := htw.below haa
    clear hga hua R1a R2a R3a p1a p2a p3a hza hsa haa
    obtain ⟨o2, c2, rfl⟩ := hva.form
    rw [List.length_append] at hva ⊢
    go_wp2_with (go_at_call 16; refine (K1.out _ _ _ hva htw).mono ?_)
    rintro e w4 ⟨rfl, hba⟩
    replace r1 := r1.on hba
    replace r2 := r2.on hba
    replace r3 := r3.on hba
    have htw := htw.below hba
    have hbw := below_then hbw hba
    clear hva hba K1
    have hzb : (w4.alloc (.cells #[] 9)).heap.size = w4.heap.size + 1 := by simp
    have heb : Row w4.heap.size (.slice (some ⟨w4.heap.size, 0, none⟩) 0 0) [] (w4.alloc (.cells #[] 9)) := Row.new w4 w4.heap.size (Nat.le_refl _) [] (by simp [maxLen])
    have hab := below_alloc (Below.refl w4.heap.size w4) (.cells #[] 9)
    have R1b := r1.on hab
    have R2b := r2.on hab
    have R3b := r3.on hab
    have p1b : ∀ g, (Value.slice (some ⟨g1, 0, none⟩) as1.length cap1).ownBlock = some g → g < w4.heap.size := fun g h => r1.lt h
    have p2b : ∀ g, (Value.slice (some ⟨g2, 0, none⟩) as2.length cap2).ownBlock = some g → g < w4.heap.size := fun g h => r2.lt h
    have p3b : ∀ g, (Value.slice (some ⟨g3, 0, none⟩) as3.length cap3).ownBlock = some g → g < w4.heap.size := fun g h => r3.lt h
    clear r1 r2 r3
    go_wp2_with (at_builtin; refine wpList_cat rfl _ _ rfl w4.heap.size _ [] as1 rfl heb _ _ _ rfl R1b (by simp; omega) (by omega) ?_)
    intro ub xb hub hgb
    have hsb := hgb.size
    replace R1b := R1b.grown hgb heb p1b
    replace R2b := R2b.grown hgb heb p2b
    replace R3b := R3b.grown hgb heb p3b
    replace hab := below_grown hab (by omega) hgb heb
    clear hgb heb
    obtain ⟨o1, c1, rfl⟩ := hub.form
    go_wp2_with (at_builtin; refine wpList_cat rfl _ _ rfl w4.heap.size _ as1 as3 rfl hub _ _ _ rfl R3b (by omega) (by omega) ?_)
    intro ub yb hvb hgb
    have r1 := R1b.grown hgb hub p1b
    have r2 := R2b.grown hgb hub p2b
    have r3 := R3b.grown hgb hub p3b
    replace hab := below_grown hab (by omega) hgb hub
    have hbw := below_then hbw hab
    have htw := htw.below hab
    clear hgb hub R1b R2b R3b p1b p2b p3b hzb hsb hab
    obtain ⟨o2, c2, rfl⟩ := hvb.form
    rw [List.length_append] at hvb ⊢
    go_wp2_with (go_at_call 16; refine (K2.out _ _ _ hvb htw).mono ?_)
    rintro e w5 ⟨rfl, hbb⟩
    replace r1 := r1.on hbb
    replace r2 := r2.on hbb
    replace r3 := r3.on hbb
    have htw := htw.below hbb
    have hbw := below_then hbw hbb
    clear hvb hbb K2
    have hzc : (w5.alloc (.cells #[] 9)).heap.size = w5.heap.size + 1 := by simp
    have hec : Row w5.heap.size (.slice (some ⟨w5.heap.size, 0, none⟩) 0 0) [] (w5.alloc (.cells #[] 9)) := Row.new w5 w5.heap.size (Nat.le_refl _) [] (by simp [maxLen])
    have hac := below_alloc (Below.refl w5.heap.size w5) (.cells #[] 9)
    have R1c := r1.on hac
    have R2c := r2.on hac
    have R3c := r3.on hac
    have p1c : ∀ g, (Value.slice (some ⟨g1, 0, none⟩) as1.length cap1).ownBlock = some g → g < w5.heap.size := fun g h => r1.lt h
    have p2c : ∀ g, (Value.slice (some ⟨g2, 0, none⟩) as2.length cap2).ownBlock = some g → g < w5.heap.size := fun g h => r2.lt h
    have p3c : ∀ g, (Value.slice (some ⟨g3, 0, none⟩) as3.length cap3).ownBlock = some g → g < w5.heap.size := fun g h => r3.lt h
    clear r1 r2 r3
    go_wp2_with (at_builtin; refine wpList_cat rfl _ _ rfl w5.heap.size _ [] as3 rfl hec _ _ _ rfl R3c (by simp; omega) (by omega) ?_)
    intro uc xc huc hgc
    have hsc := hgc.size
    replace R1c := R1c.grown hgc hec p1c
    replace R2c := R2c.grown hgc hec p2c
    replace R3c := R3c.grown hgc hec p3c
    replace hac := below_grown hac (by omega) hgc hec
    clear hgc hec
    obtain ⟨o1, c1, rfl⟩ := huc.form
    go_wp2_with (at_builtin; refine wpList_cat rfl _ _ rfl w5.heap.size _ as3 as1 rfl huc _ _ _ rfl R1c (by omega) (by omega) ?_)
    intro uc yc hvc hgc
    have r1 := R1c.grown hgc huc p1c
    have r2 := R2c.grown hgc huc p2c
    have r3 := R3c.grown hgc huc p3c
    replace hac := below_grown hac (by omega) hgc huc
    have hbw := below_then hbw hac
    have htw := htw.below hac
    clear hgc huc R1c R2c R3c p1c p2c p3c hzc hsc hac
    obtain ⟨o2, c2, rfl⟩ := hvc.form
    rw [List.length_append] at hvc ⊢
    go_wp2_with (go_at_call 16; refine (K3.out _ _ _ hvc htw).mono ?_)
    rintro e w6 ⟨rfl, hbc⟩
    replace r1 := r1.on hbc
    replace r2 := r2.on hbc
    replace r3 := r3.on hbc
    have htw := htw.below hbc
    have hbw := below_then hbw hbc
    clear hvc hbc K3
    have hdoes := does06 w6 htw
    go_wp2_with (go_at_call 17; refine hdoes.mono ?_)
    rintro e w7 ⟨rfl, hb7⟩
    go_wp2
    go_ret
    exact ⟨rfl, below_then hbw hb7⟩
end Go.Proofs.YtdedanoelobdaaaDoor
