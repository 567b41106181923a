/- WHAT THIS FILE PROVES: contracts of words.Get, words.GetHash, words.PutHash where the program calls them. -/
import Derived.Test.YtdedanoelobdaaaDoorWords
namespace Go.Proofs.YtdedanoelobdaaaDoor
open Go.RowKit Go.Proofs

set_option maxRecDepth 100000 in
set_option maxHeartbeats 400000 in
theorem there_yes (l : List UInt8) (at_ k : Int) (h0 : 0 ≤ at_) (h1 : at_ ≤ l.length) (h2 : k ≤ l.length - at_) (hl : (l.length : Int) ≤ 9223372036854775807) (w : World) :
    Calls Tryd.prog 117 #[.string (S l), .int .i64 at_, .int .i64 k] w fun e w' => e = .returned (.bool true) ∧ w = w' := by
  go_enter Tryd.func117, Tryd.ntmps117
  go_wp2
  go_ret
  exact ⟨by simp, rfl⟩
set_option maxRecDepth 100000 in
set_option maxHeartbeats 400000 in
theorem there_no (l : List UInt8) (at_ k : Int) (h : at_ < 0 ∨ (l.length : Int) < at_ ∨ (l.length : Int) - at_ < k) (hl : (l.length : Int) ≤ 9223372036854775807) (w : World) :
    Calls Tryd.prog 117 #[.string (S l), .int .i64 at_, .int .i64 k] w fun e w' => e = .returned (.bool false) ∧ w = w' := by
  by_cases h0 : 0 ≤ at_
  · by_cases h1 : at_ ≤ l.length
    · have h2 : (l.length : Int) - at_ < k := by omega
      go_enter Tryd.func117, Tryd.ntmps117
      go_wp2
      go_ret
      exact ⟨by simp [h2], rfl⟩
    · have h2 : (l.length : Int) < at_ := by omega
      go_enter Tryd.func117, Tryd.ntmps117
      go_wp2
      go_ret
      exact ⟨by simp, rfl⟩
  · have h2 : at_ < 0 := by omega
    go_enter Tryd.func117, Tryd.ntmps117
    go_wp2
    go_ret
    exact ⟨by simp, rfl⟩


theorem or8 (x y : Int) (h0 : 0 ≤ x) (h1 : x < 36028797018963968) (h2 : 0 ≤ y) (h3 : y < 256) : bits .or .u64 (x * 256) y = x * 256 + y := by
  obtain ⟨n, rfl⟩ := Int.eq_ofNat_of_zero_le h0
  obtain ⟨m, rfl⟩ := Int.eq_ofNat_of_zero_le h2
  have e1 : ((n : Int) * 256) = ((n * 256 : Nat) : Int) := by omega
  rw [e1]
  have h := Nat.shiftLeft_add_eq_or_of_lt (i := 8) (b := m) (by omega) n
  rw [Nat.shiftLeft_eq] at h
  rw [u64_or_nat (n * 256) m (by omega) (by omega), ← h]
  omega
theorem or0 (y : Int) (h2 : 0 ≤ y) (h3 : y < 256) : bits .or .u64 0 y = y := by
  have := or8 0 y (by omega) (by omega) h2 h3
  simpa using this
@[go_sem] theorem S_getElem (l : List UInt8) (i : Nat) (h : i < (S l).size) : (S l)[i]'h = l[i]'(by simpa using h) := by simp [S, ByteArray.getElem_eq_getElem_data]

theorem take_at1 (l : List UInt8) (a : Nat) (h : a + 1 ≤ l.length) : (l.drop a).take 1 = [l[a]'(by omega)] := by
  apply List.ext_getElem
  · simp; omega
  · intro i h1 h2
    simp at h2
    match i, h2 with
    | 0, _ => simp
set_option maxRecDepth 100000 in
set_option maxHeartbeats 400000 in
theorem get1 (l : List UInt8) (at_ : Int) (h0 : 0 ≤ at_) (h1 : at_ + 1 ≤ l.length) (hl : (l.length : Int) ≤ 9223372036854775807) (w : World) :
    Calls Tryd.prog 84 #[.string (S l), .int .i64 at_, .int .i64 1] w fun e w' => e = .returned (.tuple #[.int .i64 (unbe ((l.drop at_.toNat).take 1) : Nat), .int .i64 (at_ + 1), .bool true]) ∧ w = w' := by
  obtain ⟨a, rfl⟩ := Int.eq_ofNat_of_zero_le h0
  have b0 : a < l.length := by omega
  have t0 := (l[a]).toNat_lt
  have hq : (((l[a]).toNat : Int)) / 9223372036854775808 ≤ 0 := by omega
  have hw : wrap64 (((l[a]).toNat : Int)) = ((l[a]).toNat : Int) := by unfold wrap64; omega
  have hx : (((l[a]).toNat : Int)) = (unbe ((l.drop a).take 1) : Nat) := by rw [take_at1 l a (by omega)]; simp [unbe]
  have HX := Lib.hid hx
  clear hx
  have e0 := or0 ((l[a]).toNat : Int) (by omega) (by omega)
  go_enter Tryd.func84, Tryd.ntmps84
  go_wp2_with (first | (go_at_call 99; refine (size_yes _ (by simp) _).mono ?_; rintro e w' ⟨rfl, rfl⟩) | (go_at_call 117; refine (there_yes l _ _ h0 (by omega) (by omega) hl _).mono ?_; rintro e w' ⟨rfl, rfl⟩))
  refine wp_loop_rounds 2 ?_
  repeat (rw [rounds_succ]; go_wp2)
  go_ret3
  refine ⟨?_, rfl⟩
  simp only [Int.toNat_natCast]
  rw [← HX.out]
  rfl

theorem take_at2 (l : List UInt8) (a : Nat) (h : a + 2 ≤ l.length) : (l.drop a).take 2 = [l[a]'(by omega), l[a + 1]'(by omega)] := by
  apply List.ext_getElem
  · simp; omega
  · intro i h1 h2
    simp at h2
    match i, h2 with
    | 0, _ => simp
    | 1, _ => simp
set_option maxRecDepth 100000 in
set_option maxHeartbeats 400000 in
theorem get2 (l : List UInt8) (at_ : Int) (h0 : 0 ≤ at_) (h1 : at_ + 2 ≤ l.length) (hl : (l.length : Int) ≤ 9223372036854775807) (w : World) :
    Calls Tryd.prog 84 #[.string (S l), .int .i64 at_, .int .i64 2] w fun e w' => e = .returned (.tuple #[.int .i64 (unbe ((l.drop at_.toNat).take 2) : Nat), .int .i64 (at_ + 2), .bool true]) ∧ w = w' := by
  obtain ⟨a, rfl⟩ := Int.eq_ofNat_of_zero_le h0
  have b0 : a < l.length := by omega
  have b1 : a + 1 < l.length := by omega
  have t0 := (l[a]).toNat_lt
  have t1 := (l[a + 1]).toNat_lt
  have hq : (((l[a]).toNat : Int) * 256 + ((l[a + 1]).toNat : Int)) / 9223372036854775808 ≤ 0 := by omega
  have hw : wrap64 (((l[a]).toNat : Int) * 256 + ((l[a + 1]).toNat : Int)) = ((l[a]).toNat : Int) * 256 + ((l[a + 1]).toNat : Int) := by unfold wrap64; omega
  have hx : (((l[a]).toNat : Int) * 256 + ((l[a + 1]).toNat : Int)) = (unbe ((l.drop a).take 2) : Nat) := by rw [take_at2 l a (by omega)]; simp [unbe]
  have HX := Lib.hid hx
  clear hx
  have e0 := or0 ((l[a]).toNat : Int) (by omega) (by omega)
  have e1 := or8 (((l[a]).toNat : Int)) ((l[a + 1]).toNat : Int) (by omega) (by omega) (by omega) (by omega)
  go_enter Tryd.func84, Tryd.ntmps84
  go_wp2_with (first | (go_at_call 99; refine (size_yes _ (by simp) _).mono ?_; rintro e w' ⟨rfl, rfl⟩) | (go_at_call 117; refine (there_yes l _ _ h0 (by omega) (by omega) hl _).mono ?_; rintro e w' ⟨rfl, rfl⟩))
  refine wp_loop_rounds 3 ?_
  repeat (rw [rounds_succ]; go_wp2)
  go_ret3
  refine ⟨?_, rfl⟩
  simp only [Int.toNat_natCast]
  rw [← HX.out]
  rfl

theorem take_at4 (l : List UInt8) (a : Nat) (h : a + 4 ≤ l.length) : (l.drop a).take 4 = [l[a]'(by omega), l[a + 1]'(by omega), l[a + 2]'(by omega), l[a + 3]'(by omega)] := by
  apply List.ext_getElem
  · simp; omega
  · intro i h1 h2
    simp at h2
    match i, h2 with
    | 0, _ => simp
    | 1, _ => simp
    | 2, _ => simp
    | 3, _ => simp
set_option maxRecDepth 100000 in
set_option maxHeartbeats 400000 in
theorem get4 (l : List UInt8) (at_ : Int) (h0 : 0 ≤ at_) (h1 : at_ + 4 ≤ l.length) (hl : (l.length : Int) ≤ 9223372036854775807) (w : World) :
    Calls Tryd.prog 84 #[.string (S l), .int .i64 at_, .int .i64 4] w fun e w' => e = .returned (.tuple #[.int .i64 (unbe ((l.drop at_.toNat).take 4) : Nat), .int .i64 (at_ + 4), .bool true]) ∧ w = w' := by
  obtain ⟨a, rfl⟩ := Int.eq_ofNat_of_zero_le h0
  have b0 : a < l.length := by omega
  have b1 : a + 1 < l.length := by omega
  have b2 : a + 2 < l.length := by omega
  have b3 : a + 3 < l.length := by omega
  have t0 := (l[a]).toNat_lt
  have t1 := (l[a + 1]).toNat_lt
  have t2 := (l[a + 2]).toNat_lt
  have t3 := (l[a + 3]).toNat_lt
  have hq : (((((l[a]).toNat : Int) * 256 + ((l[a + 1]).toNat : Int)) * 256 + ((l[a + 2]).toNat : Int)) * 256 + ((l[a + 3]).toNat : Int)) / 9223372036854775808 ≤ 0 := by omega
  have hw : wrap64 (((((l[a]).toNat : Int) * 256 + ((l[a + 1]).toNat : Int)) * 256 + ((l[a + 2]).toNat : Int)) * 256 + ((l[a + 3]).toNat : Int)) = ((((l[a]).toNat : Int) * 256 + ((l[a + 1]).toNat : Int)) * 256 + ((l[a + 2]).toNat : Int)) * 256 + ((l[a + 3]).toNat : Int) := by unfold wrap64; omega
  have hx : (((((l[a]).toNat : Int) * 256 + ((l[a + 1]).toNat : Int)) * 256 + ((l[a + 2]).toNat : Int)) * 256 + ((l[a + 3]).toNat : Int)) = (unbe ((l.drop a).take 4) : Nat) := by rw [take_at4 l a (by omega)]; simp [unbe]
  have HX := Lib.hid hx
  clear hx
  have e0 := or0 ((l[a]).toNat : Int) (by omega) (by omega)
  have e1 := or8 (((l[a]).toNat : Int)) ((l[a + 1]).toNat : Int) (by omega) (by omega) (by omega) (by omega)
  have e2 := or8 (((l[a]).toNat : Int) * 256 + ((l[a + 1]).toNat : Int)) ((l[a + 2]).toNat : Int) (by omega) (by omega) (by omega) (by omega)
  have e3 := or8 ((((l[a]).toNat : Int) * 256 + ((l[a + 1]).toNat : Int)) * 256 + ((l[a + 2]).toNat : Int)) ((l[a + 3]).toNat : Int) (by omega) (by omega) (by omega) (by omega)
  go_enter Tryd.func84, Tryd.ntmps84
  go_wp2_with (first | (go_at_call 99; refine (size_yes _ (by simp) _).mono ?_; rintro e w' ⟨rfl, rfl⟩) | (go_at_call 117; refine (there_yes l _ _ h0 (by omega) (by omega) hl _).mono ?_; rintro e w' ⟨rfl, rfl⟩))
  refine wp_loop_rounds 5 ?_
  repeat (rw [rounds_succ]; go_wp2)
  go_ret3
  refine ⟨?_, rfl⟩
  simp only [Int.toNat_natCast]
  rw [← HX.out]
  rfl

set_option maxRecDepth 100000 in
set_option maxHeartbeats 400000 in
theorem get_no (l : List UInt8) (at_ k : Int) (hk : k = 1 ∨ k = 2 ∨ k = 4 ∨ k = 8) (h : at_ < 0 ∨ (l.length : Int) < at_ ∨ (l.length : Int) - at_ < k) (hl : (l.length : Int) ≤ 9223372036854775807) (w : World) :
    Calls Tryd.prog 84 #[.string (S l), .int .i64 at_, .int .i64 k] w fun e w' => e = .returned (.tuple #[.int .i64 0, .int .i64 0, .bool false]) ∧ w = w' := by
  go_enter Tryd.func84, Tryd.ntmps84
  go_wp2_with (first | (go_at_call 99; refine (size_yes _ hk _).mono ?_; rintro e w' ⟨rfl, rfl⟩) | (go_at_call 117; refine (there_no l _ _ h hl _).mono ?_; rintro e w' ⟨rfl, rfl⟩))
  go_ret3
  exact ⟨rfl, rfl⟩
end Go.Proofs.YtdedanoelobdaaaDoor
