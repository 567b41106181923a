/- WHAT THIS FILE PROVES: contracts of the program's package words (numbers and texts as bytes) where the program calls it: sizes 1, 2, 4 and 8, numbers that fit. -/
import Derived.Test.YtdedanoelobdaaaDoorProg
import Derived.Test.YtdedanoelobdaaaDoorBase
import Derived.ProofKit
import Derived.Handy
import Derived.WalkLawsBesides
import Derived.WalkSpells
import Derived.Laws.BytesArg
import Derived.KernelRfl
namespace Go.Proofs.YtdedanoelobdaaaDoor
open Go.RowKit Go.Proofs

theorem idx4_0 (w : World) : (Instr.index 195 (.agg #[.int .i64 1, .int .i64 2, .int .i64 4, .int .i64 8]) (.int .i64 0)).run Tryd.prog w = .ok (.int .i64 1) w := by kernel_rfl
theorem idx4_1 (w : World) : (Instr.index 195 (.agg #[.int .i64 1, .int .i64 2, .int .i64 4, .int .i64 8]) (.int .i64 1)).run Tryd.prog w = .ok (.int .i64 2) w := by kernel_rfl
theorem idx4_2 (w : World) : (Instr.index 195 (.agg #[.int .i64 1, .int .i64 2, .int .i64 4, .int .i64 8]) (.int .i64 2)).run Tryd.prog w = .ok (.int .i64 4) w := by kernel_rfl
theorem idx4_3 (w : World) : (Instr.index 195 (.agg #[.int .i64 1, .int .i64 2, .int .i64 4, .int .i64 8]) (.int .i64 3)).run Tryd.prog w = .ok (.int .i64 8) w := by kernel_rfl

set_option maxRecDepth 100000 in
set_option maxHeartbeats 400000 in
theorem size_yes (n : Int) (hn : n = 1 ∨ n = 2 ∨ n = 4 ∨ n = 8) (w : World) : Calls Tryd.prog 99 #[.int .i64 n] w fun e w' => e = .returned (.bool true) ∧ w = w' := by
  have h0 := idx4_0
  have h1 := idx4_1
  have h2 := idx4_2
  have h3 := idx4_3
  rcases hn with rfl | rfl | rfl | rfl
  all_goals
    go_enter Tryd.func99, Tryd.ntmps99
    go_wp2
    refine wp_loop_rounds 4 ?_
    repeat (rw [rounds_succ]; go_wp2)
    go_ret
    exact ⟨rfl, rfl⟩

theorem bytes_str (w : World) (g : Nat) (xs : List Int) (cap : Nat) (h : ∀ i, i < xs.length → w.cell? ⟨g, 0 + i, none⟩ = some (.int .u8 (xs.getD i 0))) :
    (convert 44 9 (.slice (some ⟨g, 0, none⟩) xs.length cap)).run Tryd.prog w = .ok (.string (S (strOf xs))) w :=
  run_convert_bytes_arg w 44 5 (by kernel_rfl) (by kernel_rfl) g 0 xs.length cap xs rfl h _ (by kernel_rfl)

theorem mk1 (w : World) : (Instr.makeSlice 44 (.int .i64 1) (.int .i64 1)).run Tryd.prog w = .ok (.slice (some ⟨w.heap.size, 0, none⟩) 1 1) (w.alloc (.cells #[.int .u8 0] 5)) := by kernel_rfl
theorem mk2 (w : World) : (Instr.makeSlice 44 (.int .i64 2) (.int .i64 2)).run Tryd.prog w = .ok (.slice (some ⟨w.heap.size, 0, none⟩) 2 2) (w.alloc (.cells #[.int .u8 0, .int .u8 0] 5)) := by kernel_rfl
theorem mk4 (w : World) : (Instr.makeSlice 44 (.int .i64 4) (.int .i64 4)).run Tryd.prog w = .ok (.slice (some ⟨w.heap.size, 0, none⟩) 4 4) (w.alloc (.cells #[.int .u8 0, .int .u8 0, .int .u8 0, .int .u8 0] 5)) := by kernel_rfl
theorem mk8 (w : World) : (Instr.makeSlice 44 (.int .i64 8) (.int .i64 8)).run Tryd.prog w = .ok (.slice (some ⟨w.heap.size, 0, none⟩) 8 8) (w.alloc (.cells #[.int .u8 0, .int .u8 0, .int .u8 0, .int .u8 0, .int .u8 0, .int .u8 0, .int .u8 0, .int .u8 0] 5)) := by kernel_rfl

theorem str1 (w : World) (a : Int) : (convert 44 9 (.slice (some ⟨w.heap.size, 0, none⟩) 1 1)).run Tryd.prog (w.alloc (.cells #[.int .u8 a] 5)) = .ok (.string (S (strOf [a]))) (w.alloc (.cells #[.int .u8 a] 5)) :=
  bytes_str _ w.heap.size [a] 1 fun i hi => by
    have := (Blk.new w 5 [.int .u8 a]).cell (0 + i)
    rw [this]; match i, hi with | 0, _ => rfl
theorem str2 (w : World) (a b : Int) : (convert 44 9 (.slice (some ⟨w.heap.size, 0, none⟩) 2 2)).run Tryd.prog (w.alloc (.cells #[.int .u8 a, .int .u8 b] 5)) = .ok (.string (S (strOf [a, b]))) (w.alloc (.cells #[.int .u8 a, .int .u8 b] 5)) :=
  bytes_str _ w.heap.size [a, b] 2 fun i hi => by
    have := (Blk.new w 5 [.int .u8 a, .int .u8 b]).cell (0 + i)
    rw [this]; match i, hi with | 0, _ => rfl | 1, _ => rfl
theorem str4 (w : World) (a b c d : Int) : (convert 44 9 (.slice (some ⟨w.heap.size, 0, none⟩) 4 4)).run Tryd.prog (w.alloc (.cells #[.int .u8 a, .int .u8 b, .int .u8 c, .int .u8 d] 5)) = .ok (.string (S (strOf [a, b, c, d]))) (w.alloc (.cells #[.int .u8 a, .int .u8 b, .int .u8 c, .int .u8 d] 5)) :=
  bytes_str _ w.heap.size [a, b, c, d] 4 fun i hi => by
    have := (Blk.new w 5 [.int .u8 a, .int .u8 b, .int .u8 c, .int .u8 d]).cell (0 + i)
    rw [this]; match i, hi with | 0, _ => rfl | 1, _ => rfl | 2, _ => rfl | 3, _ => rfl
theorem str8 (w : World) (a b c d e f g h : Int) : (convert 44 9 (.slice (some ⟨w.heap.size, 0, none⟩) 8 8)).run Tryd.prog (w.alloc (.cells #[.int .u8 a, .int .u8 b, .int .u8 c, .int .u8 d, .int .u8 e, .int .u8 f, .int .u8 g, .int .u8 h] 5)) = .ok (.string (S (strOf [a, b, c, d, e, f, g, h]))) (w.alloc (.cells #[.int .u8 a, .int .u8 b, .int .u8 c, .int .u8 d, .int .u8 e, .int .u8 f, .int .u8 g, .int .u8 h] 5)) :=
  bytes_str _ w.heap.size [a, b, c, d, e, f, g, h] 8 fun i hi => by
    have := (Blk.new w 5 [.int .u8 a, .int .u8 b, .int .u8 c, .int .u8 d, .int .u8 e, .int .u8 f, .int .u8 g, .int .u8 h]).cell (0 + i)
    rw [this]; match i, hi with | 0, _ => rfl | 1, _ => rfl | 2, _ => rfl | 3, _ => rfl | 4, _ => rfl | 5, _ => rfl | 6, _ => rfl | 7, _ => rfl

theorem u8_of {a : Int} {n : Nat} (h : a = ((n % 256 : Nat) : Int)) : UInt8.ofNat a.toNat = UInt8.ofNat n := by
  subst h
  apply UInt8.toNat.inj
  simp
  omega

set_option maxRecDepth 100000 in
set_option maxHeartbeats 400000 in
theorem put4 (n : Int) (h0 : 0 ≤ n) (h1 : n < 4294967296) (w : World) : Calls Tryd.prog 58 #[.int .i64 n, .int .i64 4] w (Ret w (.string (S (be 4 n.toNat)))) := by
  have hd : n / 4294967296 ≤ 0 := by omega
  have hm := mk4
  have hs := str4
  go_enter Tryd.func58, Tryd.ntmps58
  go_wp2_with (go_at_call 99; refine (size_yes _ (by simp) _).mono ?_; rintro e w' ⟨rfl, rfl⟩)
  refine wp_loop_rounds 5 ?_
  repeat (rw [rounds_succ]; go_wp2)
  go_ret
  refine ⟨ret_string ?_, below_alloc (Below.refl _ _) _⟩
  simp only [be, strOf, List.map, List.nil_append, List.cons_append]
  rw [u8_of (a := n / 16777216) (n := n.toNat / 256 / 256 / 256) (by omega), u8_of (a := n / 65536 % 256) (n := n.toNat / 256 / 256) (by omega), u8_of (a := n / 256 % 256) (n := n.toNat / 256) (by omega), u8_of (a := n % 256) (n := n.toNat) (by omega)]

set_option maxRecDepth 100000 in
set_option maxHeartbeats 400000 in
theorem put2 (n : Int) (h0 : 0 ≤ n) (h1 : n < 65536) (w : World) : Calls Tryd.prog 58 #[.int .i64 n, .int .i64 2] w (Ret w (.string (S (be 2 n.toNat)))) := by
  have hd : n / 65536 ≤ 0 := by omega
  have hm := mk2
  have hs := str2
  go_enter Tryd.func58, Tryd.ntmps58
  go_wp2_with (go_at_call 99; refine (size_yes _ (by simp) _).mono ?_; rintro e w' ⟨rfl, rfl⟩)
  refine wp_loop_rounds 3 ?_
  repeat (rw [rounds_succ]; go_wp2)
  go_ret
  refine ⟨ret_string ?_, below_alloc (Below.refl _ _) _⟩
  simp only [be, strOf, List.map, List.nil_append, List.cons_append]
  rw [u8_of (a := n / 256) (n := n.toNat / 256) (by omega), u8_of (a := n % 256) (n := n.toNat) (by omega)]

set_option maxRecDepth 100000 in
set_option maxHeartbeats 400000 in
theorem put1 (n : Int) (h0 : 0 ≤ n) (h1 : n < 256) (w : World) : Calls Tryd.prog 58 #[.int .i64 n, .int .i64 1] w (Ret w (.string (S (be 1 n.toNat)))) := by
  have hd : n / 256 ≤ 0 := by omega
  have hm := mk1
  have hs := str1
  go_enter Tryd.func58, Tryd.ntmps58
  go_wp2_with (go_at_call 99; refine (size_yes _ (by simp) _).mono ?_; rintro e w' ⟨rfl, rfl⟩)
  refine wp_loop_rounds 2 ?_
  repeat (rw [rounds_succ]; go_wp2)
  go_ret
  refine ⟨ret_string ?_, below_alloc (Below.refl _ _) _⟩
  simp only [be, strOf, List.map, List.nil_append]

set_option maxRecDepth 100000 in
set_option maxHeartbeats 800000 in
theorem put8 (n : Int) (h0 : 0 ≤ n) (h1 : n < 9223372036854775808) (w : World) : Calls Tryd.prog 58 #[.int .i64 n, .int .i64 8] w (Ret w (.string (S (be 8 n.toNat)))) := by
  have hm := mk8
  have hs := str8
  go_enter Tryd.func58, Tryd.ntmps58
  go_wp2_with (go_at_call 99; refine (size_yes _ (by simp) _).mono ?_; rintro e w' ⟨rfl, rfl⟩)
  refine wp_loop_rounds 9 ?_
  repeat (rw [rounds_succ]; go_wp2)
  go_ret
  refine ⟨ret_string ?_, below_alloc (Below.refl _ _) _⟩
  simp only [be, strOf, List.map, List.nil_append, List.cons_append]
  rw [u8_of (a := n / 72057594037927936) (n := n.toNat / 256 / 256 / 256 / 256 / 256 / 256 / 256) (by omega), u8_of (a := n / 281474976710656 % 256) (n := n.toNat / 256 / 256 / 256 / 256 / 256 / 256) (by omega),
    u8_of (a := n / 1099511627776 % 256) (n := n.toNat / 256 / 256 / 256 / 256 / 256) (by omega), u8_of (a := n / 4294967296 % 256) (n := n.toNat / 256 / 256 / 256 / 256) (by omega),
    u8_of (a := n / 16777216 % 256) (n := n.toNat / 256 / 256 / 256) (by omega), u8_of (a := n / 65536 % 256) (n := n.toNat / 256 / 256) (by omega), u8_of (a := n / 256 % 256) (n := n.toNat / 256) (by omega), u8_of (a := n % 256) (n := n.toNat) (by omega)]
end Go.Proofs.YtdedanoelobdaaaDoor
