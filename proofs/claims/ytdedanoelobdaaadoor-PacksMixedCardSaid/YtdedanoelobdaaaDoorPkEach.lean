/- WHAT THIS FILE PROVES: contracts of the program's packs.Count and packs.each (over pack.add). -/
import Derived.Test.YtdedanoelobdaaaDoorPkAdd
namespace Go.Proofs.YtdedanoelobdaaaDoor
open Go.RowKit Go.Proofs

/-- How many frames so many bytes take. -/
def cntI (n : Int) : Int := if n < 0 then 0 else max 1 (n / 112 + min 1 (n % 112))
set_option maxRecDepth 100000 in
set_option maxHeartbeats 400000 in
theorem count_any (n : Int) (h0 : -9223372036854775808 ≤ n) (h1 : n ≤ 9223372036854775807) (w : World) : Calls Tryd.prog 52 #[.int .i64 n] w fun e w' => e = .returned (.int .i64 (cntI n)) ∧ w = w' := by
  by_cases hn : n < 0
  · have : cntI n = 0 := by unfold cntI; rw [if_pos hn]
    rw [this]
    go_enter Tryd.func52, Tryd.ntmps52
    go_wp2
    go_ret
    exact ⟨rfl, rfl⟩
  · have he : cntI n = max 1 (n / 112 + min 1 (n % 112)) := by unfold cntI; rw [if_neg hn]
    obtain ⟨m, rfl⟩ := Int.eq_ofNat_of_zero_le (show 0 ≤ n by omega)
    have HE := Lib.hid he
    clear he
    go_enter Tryd.func52, Tryd.ntmps52
    go_wp2
    go_ret
    exact ⟨by rw [HE.out]; rfl, rfl⟩

/-- A text in parts of 112 bytes, one at least. -/
def chunks (d : List UInt8) : List (List UInt8) := if _ : d.length ≤ 112 then [d] else d.take 112 :: chunks (d.drop 112)
termination_by d.length
decreasing_by simp; omega
theorem chunks_short {d : List UInt8} (h : d.length ≤ 112) : chunks d = [d] := by rw [chunks, dif_pos h]
theorem chunks_long {d : List UInt8} (h : ¬ d.length ≤ 112) : chunks d = d.take 112 :: chunks (d.drop 112) := by rw [chunks, dif_neg h]
/-- The blocks of frames from the i-th on. -/
def blocksOf (k : UInt8) (e : Int) : Nat → List (List UInt8) → List (List UInt8)
  | _, [] => []
  | i, c :: cs => Fr.block ⟨k, e, i, c⟩ :: blocksOf k e (i + 1) cs
def goodKind (k : UInt8) : Prop := k = 68 ∨ k = 80 ∨ k = 83
def goodEpoch (e : Int) : Prop := 1 ≤ e ∧ e ≤ 1073741824

theorem TabIn.below' {B : Nat} {w w' : World} (h : TabIn w) (hT : 3 < B) (hb : Below B w w') : TabIn w' := by
  obtain ⟨t, fr, ht⟩ := h
  exact ⟨t, fr, (hb.block _ hT).trans ht⟩
def lenOf : Value → Nat | .string s => s.size | _ => 0

set_option maxRecDepth 100000 in
set_option maxHeartbeats 2000000 in
theorem each_ok (B g : Nat) (k : UInt8) (e : Int) (hk : goodKind k) (he : goodEpoch e) (v : Value) (d : List UInt8) (hd : (chunks d).length ≤ 65536) (hdl : d.length ≤ 1099511627776) (w : World) (hp : PackAt B g k e [] v w) (ht : TabIn w) (hBw : B ≤ w.heap.size) (hT : 3 < B) :
    Calls Tryd.prog 53 #[.string (S d), .func (.func 54) #[.pointer (some ⟨g, 0, none⟩)] #[]] w fun e' w' => e' = .returned (.int .i64 0) ∧ (∃ v', PackAt B g k e (blocksOf k e 0 (chunks d)) v' w') ∧ Below B w w' := by
  go_enter Tryd.func53, Tryd.ntmps53
  go_wp2
  go_loopw [0] (fun t wr => ∃ d' bs' v', t = .string (S d') ∧ PackAt B g k e bs' v' wr ∧ bs' ++ blocksOf k e bs'.length (chunks d') = blocksOf k e 0 (chunks d) ∧ bs'.length + (chunks d').length ≤ 65536 ∧ d'.length ≤ 1099511627776 ∧ Below B w wr) (fun t _ => lenOf t)
  case atStart => exact ⟨d, [], v, rfl, hp, rfl, by simpa using hd, hdl, Below.refl _ _⟩
  case round =>
    obtain ⟨d', bs', v', rfl, hp', hbs, hlen, hdl', hb⟩ := hrel
    have htr := ht.below' hT hb
    have hBr : B ≤ wr.heap.size := Nat.le_trans hBw hb.size
    have HB := Lib.hid hbs
    clear hbs
    by_cases hlt : d'.length ≤ 112
    · have hm : min (d'.length : Int) 112 = d'.length := by omega
      have hch := chunks_short hlt
      have hfr : Fr.OK ⟨k, e, bs'.length, d'⟩ := ⟨hk, he.1, he.2, by simp, by simp only [hch, List.length_singleton] at hlen; simp only; omega, hlt⟩
      have HC := Lib.hid hch
      clear hch
      go_wp2_with (go_at_call 54; refine (add_ok B g k e bs' v' d' _ hp' hfr htr hBr).mono ?_)
      rintro e' w2 ⟨rfl, ⟨v2, hp2⟩, hb2⟩
      go_wp2
      go_ret
      refine ⟨rfl, ⟨v2, ?_⟩, hb.trans hb2⟩
      rw [← HB.out, HC.out]
      exact hp2
    · have hm : min (d'.length : Int) 112 = 112 := by omega
      have hch := chunks_long hlt
      have hfr : Fr.OK ⟨k, e, bs'.length, d'.take 112⟩ := ⟨hk, he.1, he.2, by simp, by simp only [hch, List.length_cons] at hlen; simp only; omega, by simp; omega⟩
      have HC := Lib.hid hch
      clear hch
      go_wp2_with (go_at_call 54; refine (add_ok B g k e bs' v' (d'.take 112) _ hp' hfr htr hBr).mono ?_)
      rintro e' w2 ⟨rfl, ⟨v2, hp2⟩, hb2⟩
      go_wp2
      go_roundw
      case rel =>
        refine ⟨d'.drop 112, _, v2, by rw [List.take_of_length_le (by simp)], hp2, ?_, ?_, by simp; omega, hb.trans hb2⟩
        · rw [← HB.out, HC.out]
          simp [blocksOf]
        · rw [HC.out] at hlen
          simp at hlen ⊢
          omega
      case measure => simp [lenOf]; omega

set_option maxRecDepth 100000 in
set_option maxHeartbeats 2000000 in
theorem each_err (B g : Nat) (k : UInt8) (e : Int) (hk : ¬ (goodKind k ∧ goodEpoch e)) (v : Value) (d : List UInt8) (hdl : d.length ≤ 1099511627776) (w : World) (hp : PackAt B g k e [] v w) :
    Calls Tryd.prog 53 #[.string (S d), .func (.func 54) #[.pointer (some ⟨g, 0, none⟩)] #[]] w (Ret w (.int .i64 2)) := by
  have herr : ∀ c : List UInt8, (Fr.mk k e 0 c).err = 2 := fun c => by
    unfold Fr.err
    by_cases h1 : goodKind k
    · have h2 : ¬ goodEpoch e := fun h => hk ⟨h1, h⟩
      rw [if_neg (by rintro ⟨a, b, c⟩; rcases h1 with h | h | h <;> contradiction), if_pos]
      unfold goodEpoch at h2
      simp only
      omega
    · rw [if_pos]
      exact ⟨fun h => h1 (.inl h), fun h => h1 (.inr (.inl h)), fun h => h1 (.inr (.inr h))⟩
  have hadd : ∀ c : List UInt8, c.length ≤ 112 → Calls Tryd.prog 54 #[.pointer (some ⟨g, 0, none⟩), .string (S c)] w (Ret w (.int .i64 2)) := fun c hc => by
    have := add_err B g k e [] v c w hp (by omega) (by show (Fr.mk k e 0 c).err ≠ 0; rw [herr]; decide)
    rw [show (Fr.mk k e (([] : List (List UInt8)).length : Nat) c).err = 2 from herr c] at this
    exact this
  clear herr
  go_enter Tryd.func53, Tryd.ntmps53
  go_wp2
  go_loopw [0] (fun t wr => t = .string (S d) ∧ wr = w) (fun t _ => lenOf t)
  case atStart => exact ⟨rfl, rfl⟩
  case round =>
    obtain ⟨rfl, rfl⟩ := hrel
    by_cases hlt : d.length ≤ 112
    · have hm : min (d.length : Int) 112 = d.length := by omega
      go_wp2_with (go_at_call 54; refine (hadd d hlt).mono ?_)
      rintro e' w2 ⟨rfl, hb2⟩
      go_wp2
      go_ret
      exact ⟨rfl, hb2⟩
    · have hm : min (d.length : Int) 112 = 112 := by omega
      go_wp2_with (go_at_call 54; refine (hadd (d.take 112) (by simp; omega)).mono ?_)
      rintro e' w2 ⟨rfl, hb2⟩
      go_wp2
      go_ret
      exact ⟨rfl, hb2⟩
end Go.Proofs.YtdedanoelobdaaaDoor
