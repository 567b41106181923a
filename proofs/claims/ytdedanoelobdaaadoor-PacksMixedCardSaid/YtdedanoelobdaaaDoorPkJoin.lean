/- WHAT THIS FILE PROVES: the contract of the program's packs.Join: the text of a row of blocks, or none. -/
import Derived.Test.YtdedanoelobdaaaDoorPkSplit
namespace Go.Proofs.YtdedanoelobdaaaDoor
open Go.RowKit Go.Proofs

/-- The text of the i-th of n blocks, if it may be. -/
noncomputable def joinAt (k : UInt8) (e : Int) (n i : Nat) (b : List UInt8) : Option (List UInt8) := open Classical in
  match decOf b with
  | none => none
  | some f => if f.kind = k ∧ f.epoch = e ∧ f.index = i ∧ (f.data.length = 112 ∨ i + 1 = n) ∧ (f.data ≠ [] ∨ i = 0) then some f.data else none
noncomputable def joinFrom (k : UInt8) (e : Int) (n : Nat) : Nat → List (List UInt8) → Option (List UInt8)
  | _, [] => some []
  | i, b :: bs => match joinAt k e n i b with
    | none => none
    | some d => (joinFrom k e n (i + 1) bs).map (d ++ ·)
/-- The text of the blocks, or none. -/
noncomputable def joinOf (bs : List (List UInt8)) (k : UInt8) (e : Int) : Option (List UInt8) := if bs = [] then none else joinFrom k e bs.length 0 bs
noncomputable def joinVal (bs : List (List UInt8)) (k : UInt8) (e : Int) : Value := match joinOf bs k e with
  | some t => .tuple #[.string (S t), .int .i64 0]
  | none => .tuple #[.string (S []), .int .i64 10]
theorem joinFrom_drop {k : UInt8} {e : Int} {n i : Nat} {bs : List (List UInt8)} (hi : i < bs.length) : joinFrom k e n i (bs.drop i) = match joinAt k e n i bs[i] with
    | none => none
    | some d => (joinFrom k e n (i + 1) (bs.drop (i + 1))).map (d ++ ·) := by
  rw [List.drop_eq_getElem_cons hi]; rfl
theorem joinAt_len {k : UInt8} {e : Int} {n i : Nat} {b d : List UInt8} (h : joinAt k e n i b = some d) : d.length ≤ 112 := by
  unfold joinAt at h
  split at h
  · cases h
  · rename_i f hf
    split at h
    · cases h
      exact (decOf_some hf).1.data
    · cases h

theorem isB_on {B b : Nat} {l : List UInt8} {W W' : World} (h : IsB B b l W) (hb : Below W.heap.size W W') : IsB B b l W' :=
  isB_grown h (row := none) ⟨hb.os, hb.tape, hb.output, hb.size, fun k hk _ => hb.block k hk⟩ (fun _ e => by cases e)

set_option maxRecDepth 100000 in
set_option maxHeartbeats 2000000 in
theorem join_nil (k : UInt8) (e : Int) (v : Value) (B : Nat) (w : World) (hr : Row B v [] w) : Calls Tryd.prog 16 #[v, .int .u8 k.toNat, .int .i64 e] w (Ret w (joinVal [] k e)) := by
  obtain ⟨o, cap, rfl⟩ := hr.form
  have hv : joinVal [] k e = .tuple #[.string (S []), .int .i64 10] := by simp [joinVal, joinOf]
  rw [hv]
  simp only [List.length_nil]
  clear hr hv
  go_enter Tryd.func16, Tryd.ntmps16
  go_wp2
  go_ret2
  exact ⟨rfl, below_alloc (Below.refl _ _) _⟩

set_option maxRecDepth 100000 in
set_option maxHeartbeats 4000000 in
theorem join_any (k : UInt8) (e : Int) (bs : List (List UInt8)) (hbl : bs.length ≤ 1000000) (v : Value) (B : Nat) (w : World) (hr : Row B v bs w) (ht : TabIn w) :
    Calls Tryd.prog 16 #[v, .int .u8 k.toNat, .int .i64 e] w (Ret w (joinVal bs k e)) := by
  by_cases h0 : bs = []
  · subst h0; exact join_nil k e v B w hr
  have hpos : 0 < bs.length := List.length_pos_iff.2 h0
  have hj : joinOf bs k e = joinFrom k e bs.length 0 bs := by unfold joinOf; rw [if_neg h0]
  obtain ⟨g, cap, rfl⟩ : ∃ g cap, v = .slice (some ⟨g, 0, none⟩) bs.length cap := by
    rcases hr.2 with ⟨_, hn⟩ | ⟨g, cap, cur, hv, _⟩
    · omega
    · exact ⟨g, cap, hv⟩
  have hglt := hr.lt (g := g) rfl
  have hcells : ∀ i (hi : i < bs.length), w.cell? ⟨g, i, none⟩ = some (.string (S bs[i])) := fun i hi => by
    rw [World.ownsRow.cellAt hr i (by omega)]
    simp [SV, List.getElem?_eq_getElem hi]
  clear hr h0
  have HC := Lib.hid hcells
  clear hcells
  obtain ⟨n, hn⟩ : ∃ n, n = bs.length := ⟨_, rfl⟩
  rw [← hn] at hj hbl hpos ⊢
  have HN := Lib.hid hn
  have HJ := Lib.hid hj
  clear hn hj
  have hn0 : ((n : Int) == 0) = false := beq_eq_false_iff_ne.2 (by omega)
  go_enter Tryd.func16, Tryd.ntmps16
  go_wp2
  have hI := isB_new w w.heap.size (Nat.le_refl _)
  have hb1 := below_alloc (Below.refl w.heap.size w) (.cells #[.pointer none, .slice none 0 0] 101)
  generalize w.alloc (.cells #[.pointer none, .slice none 0 0] 101) = w1 at *
  go_loopw [20] (fun t wr => ∃ (i : Nat) (pre : List UInt8), i ≤ n ∧ t = .int .i64 i ∧ joinFrom k e n 0 bs = (joinFrom k e n i (bs.drop i)).map (pre ++ ·) ∧ pre.length ≤ 112 * i ∧ IsB w.heap.size w.heap.size pre wr ∧ Below w.heap.size w wr) (fun t _ => n - (intOf t).toNat)
  case atStart => exact ⟨0, [], by omega, rfl, by simp, by simp, hI, hb1⟩
  case round =>
    obtain ⟨i, pre, hi, rfl, hpre, hpl, hI, hb⟩ := hrel
    have HP := Lib.hid hpre
    clear hpre
    have htr := ht.below hb
    have hBr := hb.size
    by_cases hlt : i < n
    · have hib : i < bs.length := by rw [← HN.out]; exact hlt
      have hc := (hb.cell (p := ⟨g, i, none⟩) hglt).trans (HC.out i hib)
      have hd := decode_any bs[i] wr htr
      have hjd := joinFrom_drop (k := k) (e := e) (n := n) hib
      have hjl : ∀ f, decOf bs[i] = some f → f.data.length ≤ 112 := fun f h => (decOf_some h).1.data
      unfold decVal frZero at hd
      unfold joinAt at hjd
      generalize bs[i] = b at *
      generalize decOf b = od at *
      have wn := IntWalk.i64_in ((n : Int) - 1) ⟨by omega, by omega⟩
      have HD := Lib.hid hd
      clear hd
      cases od with
      | none =>
        have hv : joinVal bs k e = .tuple #[.string (S []), .int .i64 10] := by
          unfold joinVal; rw [HJ.out, HP.out, hjd]; rfl
        clear hjd hjl
        go_wp2_with (go_at_call 39; refine (HD.out).mono ?_; rintro e' w2 ⟨rfl, hb2⟩)
        have hbw := hb.trans (hb2.mono hBr)
        clear HD HC HN HJ HP hI hb hb1 htr hc ht
        go_wp2
        go_ret2
        exact ⟨by rw [hv]; rfl, below_alloc hbw _⟩
      | some f =>
        obtain ⟨fk, fe, fi, fd⟩ := f
        have hfl := hjl _ rfl
        simp only [Fr.val] at HD hjd hfl
        by_cases hgood : fk = k ∧ fe = e ∧ fi = i ∧ (fd.length = 112 ∨ i + 1 = n) ∧ (fd ≠ [] ∨ i = 0)
        · rw [if_pos hgood] at hjd
          obtain ⟨rfl, rfl, rfl, h4, h5⟩ := hgood
          have HJD := Lib.hid hjd
          clear hjd hjl
          by_cases hl : fd.length = 112
          · have hne : ¬ fd = [] := fun h => by rw [h] at hl; cases hl
            have e2 : ((fd.length : Int) == 112) = true := beq_iff_eq.2 (by omega)
            clear h4 h5 hl
            go_wp2_with (go_at_call 39; refine (HD.out).mono ?_; rintro e' w2 ⟨rfl, hb2⟩)
            have hI2 := isB_on (isB_on hI hb2) (below_alloc (Below.refl _ _) (.cells #[.int .u8 fk.toNat, .int .i64 fe, .int .i64 i, .string (S fd)] 49))
            have hbw := hb.trans ((below_alloc hb2 (.cells #[.int .u8 fk.toNat, .int .i64 fe, .int .i64 i, .string (S fd)] 49)).mono hBr)
            refine (write_any w.heap.size w.heap.size pre fd _ hI2 (by first | omega | (simp only [List.length_nil]; omega)) hbw.size).mono ?_
            rintro e2 w3 ⟨rfl, hI3, hb3, _⟩
            clear hI hb2 hb1 hI2 hc HD htr
            go_wp2
            go_roundw
            case rel =>
              refine ⟨i + 1, _, by omega, by go_num, ?_, ?_, hI3, hbw.trans hb3⟩
              · rw [HP.out, HJD.out]
                simp [Option.map_map, Function.comp_def]
              · simp; omega
            case measure => simp [intOf]; omega
          · have hin : i + 1 = n := h4.resolve_left hl
            have e1 : ((i : Int) == (n : Int) - 1) = true := beq_iff_eq.2 (by omega)
            have e2 : ((fd.length : Int) == 112) = false := beq_eq_false_iff_ne.2 (by omega)
            clear h4 hl hin
            by_cases hne : fd = []
            · subst hne
              have hi0 : ¬ 0 < i := by
                rcases h5 with h5 | h5
                · exact absurd rfl h5
                · omega
              clear h5
              go_wp2_with (go_at_call 39; refine (HD.out).mono ?_; rintro e' w2 ⟨rfl, hb2⟩)
              have hI2 := isB_on (isB_on hI hb2) (below_alloc (Below.refl _ _) (.cells #[.int .u8 fk.toNat, .int .i64 fe, .int .i64 i, .string (S [])] 49))
              have hbw := hb.trans ((below_alloc hb2 (.cells #[.int .u8 fk.toNat, .int .i64 fe, .int .i64 i, .string (S [])] 49)).mono hBr)
              refine (write_any w.heap.size w.heap.size pre [] _ hI2 (by first | omega | (simp only [List.length_nil]; omega)) hbw.size).mono ?_
              rintro e2 w3 ⟨rfl, hI3, hb3, _⟩
              clear hI hb2 hb1 hI2 hc HD htr
              go_wp2
              go_roundw
              case rel =>
                refine ⟨i + 1, _, by omega, by go_num, ?_, ?_, hI3, hbw.trans hb3⟩
                · rw [HP.out, HJD.out]
                  simp [Option.map_map, Function.comp_def]
                · simp; omega
              case measure => simp [intOf]; omega
            · clear h5
              go_wp2_with (go_at_call 39; refine (HD.out).mono ?_; rintro e' w2 ⟨rfl, hb2⟩)
              have hI2 := isB_on (isB_on hI hb2) (below_alloc (Below.refl _ _) (.cells #[.int .u8 fk.toNat, .int .i64 fe, .int .i64 i, .string (S fd)] 49))
              have hbw := hb.trans ((below_alloc hb2 (.cells #[.int .u8 fk.toNat, .int .i64 fe, .int .i64 i, .string (S fd)] 49)).mono hBr)
              refine (write_any w.heap.size w.heap.size pre fd _ hI2 (by first | omega | (simp only [List.length_nil]; omega)) hbw.size).mono ?_
              rintro e2 w3 ⟨rfl, hI3, hb3, _⟩
              clear hI hb2 hb1 hI2 hc HD htr
              go_wp2
              go_roundw
              case rel =>
                refine ⟨i + 1, _, by omega, by go_num, ?_, ?_, hI3, hbw.trans hb3⟩
                · rw [HP.out, HJD.out]
                  simp [Option.map_map, Function.comp_def]
                · simp; omega
              case measure => simp [intOf]; omega
        · rw [if_neg hgood] at hjd
          have hv : joinVal bs k e = .tuple #[.string (S []), .int .i64 10] := by
            unfold joinVal; rw [HJ.out, HP.out, hjd]; rfl
          clear hjd hjl
          have h5 : fk ≠ k ∨ (fk = k ∧ fe ≠ e) ∨ (fk = k ∧ fe = e ∧ fi ≠ i) ∨ (fk = k ∧ fe = e ∧ fi = i ∧ fd.length ≠ 112 ∧ i + 1 ≠ n) ∨ (fk = k ∧ fe = e ∧ fi = i ∧ (fd.length = 112 ∨ i + 1 = n) ∧ fd = [] ∧ i ≠ 0) := by
            by_cases a1 : fk = k
            · by_cases a2 : fe = e
              · by_cases a3 : fi = i
                · by_cases a4 : fd.length = 112 ∨ i + 1 = n
                  · by_cases a5 : fd ≠ [] ∨ i = 0
                    · exact absurd ⟨a1, a2, a3, a4, a5⟩ hgood
                    · exact .inr (.inr (.inr (.inr ⟨a1, a2, a3, a4, by simpa using fun h => a5 (.inl h), fun h => a5 (.inr h)⟩)))
                  · exact .inr (.inr (.inr (.inl ⟨a1, a2, a3, fun h => a4 (.inl h), fun h => a4 (.inr h)⟩)))
                · exact .inr (.inr (.inl ⟨a1, a2, a3⟩))
              · exact .inr (.inl ⟨a1, a2⟩)
            · exact .inl a1
          clear hgood
          rcases h5 with h | ⟨rfl, h⟩ | ⟨rfl, rfl, h⟩ | ⟨rfl, rfl, rfl, h1, h2⟩ | ⟨rfl, rfl, rfl, h0, rfl, h2⟩
          · have q1 : ¬ (fk.toNat : Int) = k.toNat := fun h' => h (UInt8.toNat.inj (by omega))
            go_wp2_with (go_at_call 39; refine (HD.out).mono ?_; rintro e' w2 ⟨rfl, hb2⟩)
            go_ret2
            exact ⟨by rw [hv]; rfl, below_alloc (hb.trans (hb2.mono hBr)) _⟩
          · have q1 : ¬ fe = e := h
            go_wp2_with (go_at_call 39; refine (HD.out).mono ?_; rintro e' w2 ⟨rfl, hb2⟩)
            go_ret2
            exact ⟨by rw [hv]; rfl, below_alloc (hb.trans (hb2.mono hBr)) _⟩
          · have q1 : ¬ fi = (i : Int) := h
            go_wp2_with (go_at_call 39; refine (HD.out).mono ?_; rintro e' w2 ⟨rfl, hb2⟩)
            go_ret2
            exact ⟨by rw [hv]; rfl, below_alloc (hb.trans (hb2.mono hBr)) _⟩
          · have q1 : ¬ (fd.length : Int) = 112 := by omega
            have q2 : ¬ (i : Int) = (n : Int) - 1 := by omega
            go_wp2_with (go_at_call 39; refine (HD.out).mono ?_; rintro e' w2 ⟨rfl, hb2⟩)
            go_ret2
            exact ⟨by rw [hv]; rfl, below_alloc (hb.trans (hb2.mono hBr)) _⟩
          · have q3 : 0 < i := by omega
            have q4 : i + 1 = n := by simpa using h0
            have HQ := Lib.hid q4
            clear q4 h0
            go_wp2_with (go_at_call 39; refine (HD.out).mono ?_; rintro e' w2 ⟨rfl, hb2⟩)
            all_goals have q4 := HQ.out
            all_goals first
              | (exfalso; omega)
              | (go_ret2; exact ⟨by rw [hv]; rfl, below_alloc (hb.trans (hb2.mono hBr)) _⟩)
    · have hin : i = n := by omega
      subst hin
      have hv : joinVal bs k e = .tuple #[.string (S pre), .int .i64 0] := by
        unfold joinVal
        rw [HJ.out, HP.out, List.drop_eq_nil_of_le (by rw [← HN.out]; omega)]
        simp [joinFrom]
      clear HJ HP HN HC ht htr
      go_wp2_with (go_at_call 56; refine (string_any _ _ _ _ hI hBr).mono ?_)
      rintro e' w2 ⟨rfl, hb2, _⟩
      go_wp2
      go_ret2
      exact ⟨by rw [hv]; rfl, hb.trans hb2⟩
end Go.Proofs.YtdedanoelobdaaaDoor
