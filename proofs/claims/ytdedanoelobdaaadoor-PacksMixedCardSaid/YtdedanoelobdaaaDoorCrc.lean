/- WHAT THIS FILE PROVES: contracts of the program's package sums (CRC-32), its table lying as the program's text lays it. -/
import Derived.Test.YtdedanoelobdaaaDoorWordsGet
import Derived.Laws.BitsAllLaws
namespace Go.Proofs.YtdedanoelobdaaaDoor
open Go.RowKit Go.Proofs

/-- The table of four bits. -/
def crcTab : List Nat := [0, 498536548, 997073096, 651767980, 1994146192, 1802195444, 1303535960, 1342533948, 3988292384, 4027552580, 3604390888, 3412177804, 2607071920, 2262029012, 2685067896, 3183342108]
def tabAt (k : Nat) : Nat := crcTab.getD k 0
def crcNib (r : Nat) : Nat := (r / 16) ^^^ tabAt (r % 16)
def crcByte (r : Nat) (c : UInt8) : Nat := crcNib (crcNib (r ^^^ c.toNat))
def crcRun (r : Nat) (l : List UInt8) : Nat := l.foldl crcByte r
/-- CRC-32. -/
def crc (l : List UInt8) : Nat := 4294967295 - crcRun 4294967295 l

theorem crcTab_lt (k : Nat) : tabAt k < 4294967296 := by
  unfold tabAt crcTab
  match k with
  | 0 | 1 | 2 | 3 | 4 | 5 | 6 | 7 | 8 | 9 | 10 | 11 | 12 | 13 | 14 | 15 => decide
  | n + 16 => simp
theorem crcNib_lt {r : Nat} (h : r < 4294967296) : crcNib r < 4294967296 := Nat.xor_lt_two_pow (n := 32) (by omega) (crcTab_lt _)
theorem crcByte_lt {r : Nat} (h : r < 4294967296) (c : UInt8) : crcByte r c < 4294967296 :=
  crcNib_lt (crcNib_lt (Nat.xor_lt_two_pow (n := 32) h (by have := c.toNat_lt; omega)))
theorem crcRun_lt {r : Nat} (h : r < 4294967296) (l : List UInt8) : crcRun r l < 4294967296 := by
  unfold crcRun
  induction l generalizing r with
  | nil => exact h
  | cons c l ih => exact ih (crcByte_lt h c)
theorem crc_lt (l : List UInt8) : crc l < 4294967296 := by unfold crc; omega
theorem crcRun_snoc (r : Nat) (l : List UInt8) (c : UInt8) : crcRun r (l ++ [c]) = crcByte (crcRun r l) c := by simp [crcRun]

/-- The table lies as the text lays it. -/
def TabIn (w : World) : Prop := ∃ t fr, w.heap[3]? = some (.cells (crcTab.map fun (n : Nat) => Value.int .u32 (n : Int)).toArray t fr)
theorem TabIn.below {w w' : World} (h : TabIn w) (hb : Below w.heap.size w w') : TabIn w' := by
  obtain ⟨t, fr, h⟩ := h
  refine ⟨t, fr, ?_⟩
  rw [hb.block _ ?_]
  · exact h
  · rcases Nat.lt_or_ge 3 w.heap.size with hlt | hge
    · exact hlt
    · rw [Array.getElem?_eq_none hge] at h; cases h
theorem TabIn.cell {w : World} (h : TabIn w) (k : Nat) (hk : k < 16) : w.cell? ⟨3, k, none⟩ = some (.int .u32 (tabAt k : Nat)) := by
  obtain ⟨t, fr, h⟩ := h
  simp only [World.cell?, h]
  have hl : crcTab.length = 16 := rfl
  simp [tabAt, List.getD, List.getElem?_eq_getElem (show k < crcTab.length by omega)]

theorem snoc_take (l : List UInt8) (k : Nat) (h : k < l.length) : l.take (k + 1) = l.take k ++ [l[k]] := by
  rw [List.take_succ_eq_append_getElem h]

/-- A string turned into bytes of the call's own. -/
theorem conv_bytes (w : World) (l : List UInt8) : ∃ W1 cap, (convert 9 44 (.string (S l))).run Tryd.prog w = .ok (.slice (some ⟨w.heap.size, 0, none⟩) l.length cap) W1 ∧
    Below w.heap.size w W1 ∧ w.heap.size < W1.heap.size ∧ ∀ j, (h : j < l.length) → W1.cell? ⟨w.heap.size, j, none⟩ = some (.int .u8 (l[j]).toNat) := by
  refine ⟨Lib.bytesWorld w 5 (S l), _, by have := Lib.run_convert_string_bytes (P := Tryd.prog) w 9 44 5 (S l) (u := .string) (by kernel_rfl) (by kernel_rfl) (by kernel_rfl); rw [S_size] at this; exact this, ⟨rfl, rfl, rfl, ?_, ?_⟩, ?_, fun j h => ?_⟩
  · rw [Lib.bytesWorld_size]; omega
  · intro k hk; exact Lib.bytesWorld_at_old _ _ _ _ hk
  · rw [Lib.bytesWorld_size]; omega
  · rw [Lib.bytesWorld_cell _ _ _ _ (by simpa using h)]; simp [List.getD, List.getElem?_eq_getElem h]

theorem xor_max (n : Nat) (h : n < 4294967296) : 4294967295 ^^^ n = 4294967295 - n := by
  have h2 : (BitVec.ofNat 32 4294967295 ^^^ BitVec.ofNat 32 n) = ~~~ BitVec.ofNat 32 n := by
    rw [show BitVec.ofNat 32 4294967295 = BitVec.allOnes 32 from by decide, BitVec.allOnes_xor]
  have h3 := congrArg BitVec.toNat h2
  rw [BitVec.toNat_xor, BitVec.toNat_not] at h3
  simpa [Nat.mod_eq_of_lt h] using h3
theorem u32_not (n : Nat) (h : n < 4294967296) : bits .xor .u32 IntKind.u32.max (n : Int) = ((4294967295 - n : Nat) : Int) := by
  have := u32_xor_nat 4294967295 n (by omega) h
  rw [xor_max n h] at this
  exact this
theorem u32_low (n : Nat) (h : n < 4294967296) : bits .and .u32 (n : Int) 15 = ((n % 16 : Nat) : Int) := by
  have := u32_and_nat n 15 h (by omega)
  rw [show n &&& 15 = n % 16 from Nat.and_two_pow_sub_one_eq_mod n 4] at this
  exact this
theorem u32_nib (n : Nat) (h : n < 4294967296) : bits .xor .u32 ((n : Int) / 16) (tabAt (n % 16) : Nat) = (crcNib n : Nat) :=
  u32_xor_nat (n / 16) (tabAt (n % 16)) (by omega) (crcTab_lt _)

set_option maxRecDepth 100000 in
set_option maxHeartbeats 800000 in
theorem more_any (r0 : Nat) (hr0 : r0 < 4294967296) (l : List UInt8) (hl : l.length ≤ 1048576) (w : World) (ht : TabIn w) :
    Calls Tryd.prog 130 #[.int .u32 r0, .string (S l)] w (Ret w (.int .u32 ((4294967295 - crcRun (4294967295 - r0) l : Nat)))) := by
  obtain ⟨W1, cap, hcv, hb1, hsz, hc1⟩ := conv_bytes w l
  have ht1 := ht.below hb1
  have hn := u32_not r0 hr0
  have HR := Lib.hid hb1
  clear hb1
  go_enter Tryd.func130, Tryd.ntmps130
  go_wp2
  go_loop [5, 13] (fun r i => ∃ k : Nat, k ≤ l.length ∧ i = .int .i64 k ∧ r = .int .u32 (crcRun (4294967295 - r0) (l.take k) : Nat)) (fun _ i => l.length - (intOf i).toNat)
  case atStart => exact ⟨0, Nat.zero_le _, rfl, rfl⟩
  case round =>
    obtain ⟨k, hk, rfl, rfl⟩ := hrel
    have hR := crcRun_lt (r := 4294967295 - r0) (by omega) (l.take k)
    by_cases hlt : k < l.length
    · have hcell := hc1 k hlt
      have hstep : crcRun (4294967295 - r0) (l.take (k + 1)) = crcByte (crcRun (4294967295 - r0) (l.take k)) l[k] := by rw [snoc_take l k hlt, crcRun_snoc]
      have HS := Lib.hid hstep
      clear hc1 hstep
      generalize crcRun (4294967295 - r0) (l.take k) = R at *
      have hc := (l[k]).toNat_lt
      generalize l[k] = c at *
      have hX1 : R ^^^ c.toNat < 4294967296 := Nat.xor_lt_two_pow (n := 32) hR (by omega)
      have hX2 := crcNib_lt hX1
      have e1 := u32_xor_nat R c.toNat hR (by omega)
      have e2 := u32_low _ hX1
      have e3 := u32_nib _ hX1
      have e4 := u32_low _ hX2
      have e5 := u32_nib _ hX2
      have c1 := ht1.cell ((R ^^^ c.toNat) % 16) (by omega)
      have c2 := ht1.cell (crcNib (R ^^^ c.toNat) % 16) (by omega)
      have b1 : (R ^^^ c.toNat) % 16 < 16 := by omega
      have b2 : crcNib (R ^^^ c.toNat) % 16 < 16 := by omega
      clear ht1
      go_wp2
      go_round
      case rel => exact ⟨k + 1, by omega, by go_num, by rw [HS.out]; rfl⟩
      case measure => simp [intOf]; omega
    · go_wp2
      go_ret
      refine ⟨?_, HR.out⟩
      show Ending.returned (.int .u32 (bits .xor .u32 IntKind.u32.max (crcRun (4294967295 - r0) (l.take k) : Nat))) = _
      rw [u32_not _ hR, List.take_of_length_le (by omega)]

theorem sum_any (l : List UInt8) (hl : l.length ≤ 1048576) (w : World) (ht : TabIn w) : Calls Tryd.prog 109 #[.string (S l)] w (Ret w (.int .u32 (crc l : Nat))) := by
  go_enter Tryd.func109, Tryd.ntmps109
  go_wp2_with (go_at_call 130; refine (more_any 0 (by omega) l hl _ ht).mono ?_; rintro e w' ⟨rfl, hb⟩)
  go_ret
  exact ⟨rfl, hb⟩
end Go.Proofs.YtdedanoelobdaaaDoor
