/- WHAT THIS FILE PROVES: the contract of the program's frames.text at a frame that may be. -/
import Derived.Test.YtdedanoelobdaaaDoorFrCheck
import Derived.Test.YtdedanoelobdaaaDoorRelLaw
namespace Go.Proofs.YtdedanoelobdaaaDoor
open Go.RowKit Go.Proofs
attribute [local go_sem] calm calmUpon

/-- A frame's text, without marks. -/
def Fr.head8 (f : Fr) : List UInt8 := [f.kind] ++ be 4 f.epoch.toNat ++ be 2 f.index.toNat ++ be 1 f.data.length
def Fr.text (f : Fr) : List UInt8 := f.head8 ++ (be 4 (crc (f.head8 ++ f.data)) ++ f.data) ++ List.replicate (112 - f.data.length) 0

theorem blk_stab {t : TypeId} {cs : List Value} {n c : Nat} : ∀ (v : Value) (W W' : World), Below W.heap.size W W' → (∃ b, v = .slice (some ⟨b, 0, none⟩) n c ∧ Blk W b t cs) → ∃ b, v = .slice (some ⟨b, 0, none⟩) n c ∧ Blk W' b t cs :=
  fun _ _ _ hb ⟨b, hv, h⟩ => ⟨b, hv, h.on hb⟩

theorem build1 (w : World) (x : Int) : (Instr.buildSlice 44 1 #[(0, .int .u8 x)]).run Tryd.prog w = .ok (.slice (some ⟨w.heap.size, 0, none⟩) 1 1) (w.alloc (.cells #[.int .u8 x] 5)) := by kernel_rfl
theorem str_blk (w : World) (b : Nat) (k : UInt8) (h : Blk w b 5 [.int .u8 k.toNat]) : (convert 44 9 (.slice (some ⟨b, 0, none⟩) 1 1)).run Tryd.prog w = .ok (.string (S [k])) w := by
  have := bytes_str w b [(k.toNat : Int)] 1 fun i hi => by rw [h.cell]; match i, hi with | 0, _ => rfl
  simpa [strOf] using this

theorem repeatL_one (c : Nat) : Lib.repeatL [0] c = List.replicate c (0 : UInt8) := by
  induction c with
  | zero => rfl
  | succ c ih => rw [Lib.repeatL, ih]; rfl
theorem repeat0 (c : Nat) (hc : c ≤ 1000) (w : World) : Calls Tryd.prog 110 #[.string { data := #[0] }, .int .i64 c] w (Ret w (.string (S (List.replicate c 0)))) := by
  have h := Tryd.strings_Repeat (S [0]) c w (by omega) (by simp; omega)
  rw [S_data, repeatL_one] at h
  exact h

set_option maxRecDepth 100000 in
set_option maxHeartbeats 1000000 in
theorem text_ok (f : Fr) (h : f.OK) (w : World) (ht : TabIn w) : Calls Tryd.prog 73 #[f.val] w (Ret w (.string (S f.text))) := by
  obtain ⟨k, e, i, d⟩ := f
  obtain ⟨hk, h1, h2, h3, h4, h5⟩ := h
  simp only [Fr.val] at *
  go_enter Tryd.func73, Tryd.ntmps73
  go_wp2
  have hB := Blk.new w 49 [.int .u8 k.toNat, .int .i64 e, .int .i64 i, .string (S d)]
  have hb0 := below_alloc (Below.refl w.heap.size w) (.cells #[.int .u8 k.toNat, .int .i64 e, .int .i64 i, .string (S d)] 49)
  have hbw : w.heap.size < (w.alloc (.cells #[.int .u8 k.toNat, .int .i64 e, .int .i64 i, .string (S d)] 49)).heap.size := by simp
  simp only [List.toArray] at hB
  generalize w.alloc (.cells #[.int .u8 k.toNat, .int .i64 e, .int .i64 i, .string (S d)] 49) = w1 at *
  have c0 := aft_cell ((hB.cell 0).trans rfl)
  have c1 := aft_cell ((hB.cell 1).trans rfl)
  have c2 := aft_cell ((hB.cell 2).trans rfl)
  have c3 := aft_cell ((hB.cell 3).trans rfl)
  refine wp_region_rel 18 [] [(6, fun v W => ∃ b, v = .slice (some ⟨b, 0, none⟩) 1 1 ∧ Blk W b 5 [.int .u8 k.toNat])] [(7, .string (S [k]))] (by kernel_rfl) (by kernel_rfl) (by decide) (by kernel_rfl) (by simp) (by rfl) ?_ ?_
  · intro p hp; simp only [List.mem_singleton] at hp; subst hp; exact blk_stab
  simp only [List.take_succ_cons, List.take_zero]
  repeat (refine head_step rfl rfl rfl (fun K hK => ?_); go_simp; refine hK _ ?_; clear hK K)
  refine head_rel rfl (relAt_plain1 5 (x := .int .u8 k.toNat) rfl rfl rfl rfl fun ρ n hρ => ?_) (fun K hK => ?_)
  · simp only [execOp, hρ, List.map_toArray, List.map_cons, List.map_nil, Sem.run_bind, build1, Result.andThen_ok, Sem.run_pure, calmUpon]
    exact ⟨⟨_, rfl, Blk.new _ _ [_]⟩, below_alloc (Below.refl _ _) _⟩
  go_simp
  refine hK _ ?_
  clear hK K
  refine head_eq rfl rfl (relAt_rel1 6 rfl rfl rfl fun ρ n hρ => ?_) (fun K hK => ?_)
  · obtain ⟨b, hv, hb⟩ := hρ
    simp only [execOp, hv, Sem.run_bind, str_blk _ _ _ hb, Result.andThen_ok, Sem.run_pure, calmUpon]
    exact ⟨trivial, Below.refl _ _⟩
  go_simp
  refine hK _ ?_
  clear hK K
  repeat (refine head_step rfl rfl rfl (fun K hK => ?_); go_simp; refine hK _ ?_; clear hK K)
  refine head_step rfl rfl rfl (fun K hK => ?_)
  go_simp
  apply Exists.intro
  refine ⟨fun n => ?_, hK _ ?_⟩
  · exact calm_ret (put4 _ (by omega) (by omega) _)
  clear hK K
  repeat (refine head_step rfl rfl rfl (fun K hK => ?_); go_simp; refine hK _ ?_; clear hK K)
  refine head_step rfl rfl rfl (fun K hK => ?_)
  go_simp
  apply Exists.intro
  refine ⟨fun n => ?_, hK _ ?_⟩
  · exact calm_ret (put2 _ (by omega) (by omega) _)
  clear hK K
  repeat (refine head_step rfl rfl rfl (fun K hK => ?_); go_simp; refine hK _ ?_; clear hK K)
  refine head_step rfl rfl rfl (fun K hK => ?_)
  go_simp
  apply Exists.intro
  refine ⟨fun n => ?_, hK _ ?_⟩
  · exact calm_ret (put1 _ (by omega) (by omega) _)
  clear hK K
  repeat (refine head_step rfl rfl rfl (fun K hK => ?_); go_simp; refine hK _ ?_; clear hK K)
  refine head_nil ?_
  intro n
  simp only [finT]
  rintro v ⟨b, rfl, hb⟩
  refine wpList_nil ?_
  simp only [normalOnly]
  have hn := n.ok
  have hB2 := hB.on hn
  have hbn := below_then hb0 hn
  have ht2 := ht.below hbn
  clear c0 c1 c2 c3 hn hB ht hb0
  generalize n.W = w2 at *
  go_wp2_with (fail)
  have c3 := aft_cell ((hB2.cell 3).trans rfl)
  have hh : (⟨k, e, i, d⟩ : Fr).head8 = k :: (be 4 e.toNat ++ (be 2 i.toNat ++ be 1 d.length)) := by simp [Fr.head8]
  have q1 : ¬ 9223372036854775807 < 8 + d.length := by omega
  have q2 : ¬ 9223372036854775807 < 4 + d.length := by omega
  have q3 : ¬ 9223372036854775807 < 8 + (4 + d.length) := by omega
  have hlen : (k :: (be 4 e.toNat ++ (be 2 i.toNat ++ (be 1 d.length ++ d)))).length = 8 + d.length := by simp; omega
  have hcr := crc_lt (k :: (be 4 e.toNat ++ (be 2 i.toNat ++ (be 1 d.length ++ d))))
  have hw := IntWalk.i64_in (crc (k :: (be 4 e.toNat ++ (be 2 i.toNat ++ (be 1 d.length ++ d)))) : Int) ⟨by omega, by omega⟩
  generalize hC : crc (k :: (be 4 e.toNat ++ (be 2 i.toNat ++ (be 1 d.length ++ d)))) = C at *
  have HC := Lib.hid hC
  clear hC
  refine wp_region_rel 12 [] [] [] (by kernel_rfl) (by kernel_rfl) (by decide) (by kernel_rfl) (by simp) (by rfl) (by simp) ?_
  simp only [List.take_succ_cons, List.take_zero]
  repeat (refine head_step rfl rfl rfl (fun K hK => ?_); go_simp; refine hK _ ?_; clear hK K)
  refine head_step rfl rfl rfl (fun K hK => ?_)
  go_simp
  apply Exists.intro
  refine ⟨fun n => ?_, hK _ ?_⟩
  · have hsum := sum_any (k :: (be 4 e.toNat ++ (be 2 i.toNat ++ (be 1 d.length ++ d)))) (by rw [hlen]; omega) n.W (ht2.below n.ok); rw [HC.out] at hsum; exact calm_ret hsum
  clear hK K
  repeat (refine head_step rfl rfl rfl (fun K hK => ?_); go_simp; refine hK _ ?_; clear hK K)
  refine head_step rfl rfl rfl (fun K hK => ?_)
  go_simp
  apply Exists.intro
  refine ⟨fun n => ?_, hK _ ?_⟩
  · exact calm_ret (put4 _ (by omega) (by omega) _)
  clear hK K
  repeat (refine head_step rfl rfl rfl (fun K hK => ?_); go_simp; refine hK _ ?_; clear hK K)
  refine head_nil ?_
  intro n
  simp only [finT]
  go_wp2_with (fail)
  simp only [normalOnly]
  have hb3 := below_then hbn n.ok
  generalize n.W = w3 at *
  have q4 : ¬ 9223372036854775807 < 12 + d.length := by omega
  have q5 : ¬ 9223372036854775807 < 4 + (2 + (1 + (4 + d.length))) + 1 + (112 - d.length) := by omega
  go_wp2_with (fail)
  rw [show (124 - (4 + (2 + (1 + (4 + (d.length : Int)))) + 1)) = ((112 - d.length : Nat) : Int) from by omega]
  refine (repeat0 (112 - d.length) (by omega) w3).mono ?_
  rintro e2 w4 ⟨rfl, hb4⟩
  go_wp2
  go_ret
  refine ⟨?_, below_then hb3 hb4⟩
  refine ret_string ?_
  simp only [Fr.text, hh, ← HC.out]
  simp
end Go.Proofs.YtdedanoelobdaaaDoor
