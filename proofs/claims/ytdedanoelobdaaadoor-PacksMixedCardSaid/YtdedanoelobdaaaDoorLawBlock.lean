/- WHAT THIS FILE PROVES: the contract of the statements' own function Block: a text of 128 bytes. -/
import Derived.Test.YtdedanoelobdaaaDoorWordsGet
namespace Go.Proofs.YtdedanoelobdaaaDoor
open Go.RowKit Go.Proofs

/-- A text over and over, 128 bytes; of none: zero bytes. -/
def blockText (s : List UInt8) : List UInt8 := (List.range 128).map fun i => s.getD (i % s.length) 0
theorem blockText_len (s : List UInt8) : (blockText s).length = 128 := by simp [blockText]
def blockCells (s : List UInt8) (k : Nat) : List Value := (List.range 128).map fun i => if i < k then .int .u8 (s.getD (i % s.length) 0).toNat else .int .u8 0
def zCells (n : Nat) : List Value := List.replicate n (.int .u8 0)
theorem blockCells_zero (s : List UInt8) : blockCells s 0 = zCells 128 := by
  simp only [blockCells, zCells, Nat.not_lt_zero, if_false]
  rw [List.map_const', List.length_range]
theorem blockCells_set (s : List UInt8) (k : Nat) (hk : k < 128) : (blockCells s k).set k (.int .u8 (s.getD (k % s.length) 0).toNat) = blockCells s (k + 1) := by
  apply List.ext_getElem?
  intro i
  simp only [blockCells, List.getElem?_set, List.length_map, List.length_range, List.getElem?_map]
  by_cases h : i < 128
  · rw [List.getElem?_range h]
    by_cases hi : k = i
    · subst hi
      simp [hk]
    · rw [if_neg hi]
      simp only [Option.map_some]
      by_cases h2 : i < k
      · rw [if_pos h2, if_pos (by omega)]
      · rw [if_neg h2, if_neg (by omega)]
  · rw [if_neg (by omega)]
    simp [h]
theorem mk128 (w : World) : (Instr.makeSlice 44 (.int .i64 128) (.int .i64 128)).run Tryd.prog w = .ok (.slice (some ⟨w.heap.size, 0, none⟩) 128 128) (w.alloc (.cells (zCells 128).toArray 5)) := by kernel_rfl
theorem blk_str (w : World) (g : Nat) (l : List UInt8) (cap : Nat) (h : Blk w g 5 (l.map bV)) : (convert 44 9 (.slice (some ⟨g, 0, none⟩) l.length cap)).run Tryd.prog w = .ok (.string (S l)) w := by
  have := bytes_str w g (l.map fun x => (x.toNat : Int)) cap fun i hi => by
    rw [Nat.zero_add, h.cell]
    simp at hi
    simp [List.getElem?_eq_getElem hi, bV]
  simpa [strOf, Function.comp_def] using this

set_option maxRecDepth 100000 in
set_option maxHeartbeats 2000000 in
theorem block_any (s : List UInt8) (hs : s.length ≤ 1099511627776) (w : World) : Calls Tryd.prog 57 #[.string (S s)] w (Ret w (.string (S (blockText s)))) := by
  have hm := mk128
  have h0 := Blk.new w 5 (blockCells s 0)
  rw [blockCells_zero] at h0
  have hb0 := below_alloc (Below.refl w.heap.size w) (.cells (zCells 128).toArray 5)
  have hl0 : 0 < s.length ∨ s = [] := by
    by_cases h : s = []
    · exact .inr h
    · exact .inl (List.length_pos_iff.2 h)
  have z0 : (w.alloc (.cells (zCells 128).toArray 5)).heap.size = w.heap.size + 1 := by simp
  have HW := Lib.hid (show ∀ W, Blk W w.heap.size 5 ((blockText s).map bV) → (convert 44 9 (.slice (some ⟨w.heap.size, 0, none⟩) 128 128)).run Tryd.prog W = .ok (.string (S (blockText s))) W from fun W h => by
    have := blk_str W w.heap.size (blockText s) 128 h
    rwa [blockText_len] at this)
  rcases hl0 with hpos | rfl
  · have hnil : s.isEmpty = false := by cases s with | nil => cases hpos | cons _ _ => rfl
    have hfin : blockCells s 128 = (blockText s).map bV := by
      simp only [blockCells, blockText, List.map_map]
      apply List.map_congr_left
      intro i hi
      rw [List.mem_range] at hi
      rw [if_pos hi]; rfl
    have HF := Lib.hid hfin
    clear hfin
    go_enter Tryd.func57, Tryd.ntmps57
    go_wp2
    clear hm
    generalize w.alloc (.cells (zCells 128).toArray 5) = w1 at *
    rw [← blockCells_zero s] at h0
    go_loopw [4] (fun t wr => ∃ k : Nat, k ≤ 128 ∧ t = .int .i64 k ∧ Blk wr w.heap.size 5 (blockCells s k) ∧ Below w.heap.size w wr) (fun t _ => 128 - (intOf t).toNat)
    case atStart => exact ⟨0, by omega, rfl, h0, hb0⟩
    case round =>
      obtain ⟨k, hk, rfl, hB, hb⟩ := hrel
      by_cases hlt : k < 128
      · have hml : k % s.length < s.length := Nat.mod_lt _ hpos
        have hc := (hB.cell k).trans (show (blockCells s k)[k]? = some (.int .u8 0) by simp [blockCells, hlt])
        have hf := hB.frozen k
        have hB2 := hB.set_ k (.int .u8 (s.getD (k % s.length) 0).toNat)
        rw [blockCells_set s k hlt] at hB2
        have hg : s.getD (k % s.length) 0 = s[k % s.length] := by
          rw [List.getD_eq_getElem?_getD, List.getElem?_eq_getElem hml]; rfl
        rw [hg] at hB2
        have hb2 := hb.setCell (p := ⟨w.heap.size, k, none⟩) (Nat.le_refl _) (.int .u8 (s[k % s.length]).toNat)
        clear hB h0 hb0 z0 hg
        go_wp2
        go_roundw
        case rel => exact ⟨k + 1, by omega, by go_num, hB2, hb2⟩
        case measure => simp [intOf]; omega
      · have : k = 128 := by omega
        subst this
        rw [HF.out] at hB
        have hcv := HW.out wr hB
        clear hB h0 hb0 z0
        go_wp2
        go_ret
        exact ⟨rfl, hb⟩
  · have HF := Lib.hid (show zCells 128 = (blockText []).map bV from rfl)
    clear z0
    go_enter Tryd.func57, Tryd.ntmps57
    go_wp2
    clear hm
    generalize w.alloc (.cells (zCells 128).toArray 5) = w1 at *
    rw [HF.out] at h0
    clear HF
    generalize blockText [] = bt at *
    go_loopw [4] (fun t wr => t = .int .i64 0 ∧ Blk wr w.heap.size 5 (bt.map bV) ∧ Below w.heap.size w wr) (fun t _ => 128 - (intOf t).toNat)
    case atStart => exact ⟨rfl, h0, hb0⟩
    case round =>
      obtain ⟨rfl, hB, hb⟩ := hrel
      have hcv := HW.out wr hB
      clear hB h0 hb0 HW
      go_wp2
      go_ret
      exact ⟨rfl, hb⟩
end Go.Proofs.YtdedanoelobdaaaDoor
