/- WHAT THIS FILE PROVES: contracts of the program's frames.check. -/
import Derived.Test.YtdedanoelobdaaaDoorBuilder
namespace Go.Proofs.YtdedanoelobdaaaDoor
open Go.RowKit Go.Proofs

/-- A frame. -/
structure Fr where
  kind : UInt8
  epoch : Int
  index : Int
  data : List UInt8
def Fr.val (f : Fr) : Value := .agg #[.int .u8 f.kind.toNat, .int .i64 f.epoch, .int .i64 f.index, .string (S f.data)]
/-- It may be. -/
structure Fr.OK (f : Fr) : Prop where
  kind : f.kind = 68 ∨ f.kind = 80 ∨ f.kind = 83
  e1 : 1 ≤ f.epoch
  e2 : f.epoch ≤ 1073741824
  i1 : 0 ≤ f.index
  i2 : f.index ≤ 65535
  data : f.data.length ≤ 112

set_option maxRecDepth 100000 in
set_option maxHeartbeats 400000 in
theorem check_ok (k : UInt8) (e i : Int) (d : List UInt8) (h : Fr.OK ⟨k, e, i, d⟩) (w : World) : Calls Tryd.prog 71 #[.agg #[.int .u8 k.toNat, .int .i64 e, .int .i64 i, .string (S d)]] w (Ret w (.int .i64 0)) := by
  obtain ⟨hk, h1, h2, h3, h4, h5⟩ := h
  simp only at hk h1 h2 h3 h4 h5
  rcases hk with rfl | rfl | rfl
  all_goals
    go_enter Tryd.func71, Tryd.ntmps71
    go_wp2
    go_ret
    exact ⟨rfl, below_alloc (Below.refl _ _) _⟩

/-- What check says of a frame. -/
def Fr.err (f : Fr) : Int :=
  if f.kind ≠ 68 ∧ f.kind ≠ 80 ∧ f.kind ≠ 83 then 2 else if f.epoch < 1 ∨ 1073741824 < f.epoch ∨ f.index < 0 ∨ 65535 < f.index then 2 else if 112 < f.data.length then 3 else 0

theorem kind_ne {k : UInt8} {n : Nat} (hn : n < 256) (h : k ≠ UInt8.ofNat n) : (k.toNat : Int) ≠ n := fun e => h (by
  apply UInt8.toNat.inj
  have : k.toNat = n := by omega
  rw [this]; simp; omega)

set_option maxRecDepth 100000 in
set_option maxHeartbeats 800000 in
theorem check_any (f : Fr) (hl : (f.data.length : Int) ≤ 9223372036854775807) (w : World) : Calls Tryd.prog 71 #[f.val] w (Ret w (.int .i64 f.err)) := by
  by_cases hk : f.kind ≠ 68 ∧ f.kind ≠ 80 ∧ f.kind ≠ 83
  · have k1 : ((f.kind.toNat : Int) == 68) = false := beq_eq_false_iff_ne.2 (kind_ne (n := 68) (by omega) hk.1)
    have k2 : ((f.kind.toNat : Int) == 80) = false := beq_eq_false_iff_ne.2 (kind_ne (n := 80) (by omega) hk.2.1)
    have k3 : ((f.kind.toNat : Int) == 83) = false := beq_eq_false_iff_ne.2 (kind_ne (n := 83) (by omega) hk.2.2)
    have he : f.err = 2 := by unfold Fr.err; rw [if_pos hk]
    rw [he]
    unfold Fr.val
    clear hk he
    go_enter Tryd.func71, Tryd.ntmps71
    go_wp2
    go_ret
    exact ⟨rfl, below_alloc (Below.refl _ _) _⟩
  · have hk' : f.kind = 68 ∨ f.kind = 80 ∨ f.kind = 83 := by
      by_cases a : f.kind = 68
      · exact .inl a
      · by_cases b : f.kind = 80
        · exact .inr (.inl b)
        · by_cases c : f.kind = 83
          · exact .inr (.inr c)
          · exact absurd ⟨a, b, c⟩ hk
    by_cases hr : f.epoch < 1 ∨ 1073741824 < f.epoch ∨ f.index < 0 ∨ 65535 < f.index
    · have he : f.err = 2 := by unfold Fr.err; rw [if_neg hk, if_pos hr]
      rw [he]
      unfold Fr.val
      obtain ⟨k, e, i, d⟩ := f
      simp only at hk' hr ⊢
      clear hk he hl
      have h4 : e < 1 ∨ (1 ≤ e ∧ 1073741824 < e) ∨ (1 ≤ e ∧ e ≤ 1073741824 ∧ i < 0) ∨ (1 ≤ e ∧ e ≤ 1073741824 ∧ 0 ≤ i ∧ 65535 < i) := by omega
      clear hr
      rcases hk' with rfl | rfl | rfl
      all_goals
        rcases h4 with h | ⟨h1, h⟩ | ⟨h1, h2, h⟩ | ⟨h1, h2, h3, h⟩
        all_goals
          go_enter Tryd.func71, Tryd.ntmps71
          go_wp2
          go_ret
          exact ⟨rfl, below_alloc (Below.refl _ _) _⟩
    · by_cases hd : 112 < f.data.length
      · have he : f.err = 3 := by unfold Fr.err; rw [if_neg hk, if_neg hr, if_pos hd]
        rw [he]
        unfold Fr.val
        obtain ⟨k, e, i, d⟩ := f
        simp only at hk' hr hd hl ⊢
        have h1 : 1 ≤ e := by omega
        have h2 : e ≤ 1073741824 := by omega
        have h3 : 0 ≤ i := by omega
        have h4 : i ≤ 65535 := by omega
        clear hk he hr
        rcases hk' with rfl | rfl | rfl
        all_goals
          go_enter Tryd.func71, Tryd.ntmps71
          go_wp2
          go_ret
          exact ⟨rfl, below_alloc (Below.refl _ _) _⟩
      · have he : f.err = 0 := by unfold Fr.err; rw [if_neg hk, if_neg hr, if_neg hd]
        rw [he]
        have hok : f.OK := ⟨hk', by omega, by omega, by omega, by omega, by omega⟩
        exact check_ok f.kind f.epoch f.index f.data hok w
theorem Fr.err_ok {f : Fr} (h : f.OK) : f.err = 0 := by
  obtain ⟨hk, h1, h2, h3, h4, h5⟩ := h
  unfold Fr.err
  rw [if_neg (by rintro ⟨a, b, c⟩; rcases hk with h | h | h <;> contradiction), if_neg (by omega), if_neg (by omega)]
theorem Fr.ok_err {f : Fr} (h : f.err = 0) : f.OK := by
  unfold Fr.err at h
  split at h
  · cases h
  · rename_i hk
    split at h
    · cases h
    · split at h
      · cases h
      · refine ⟨?_, by omega, by omega, by omega, by omega, by omega⟩
        by_cases a : f.kind = 68
        · exact .inl a
        · by_cases b : f.kind = 80
          · exact .inr (.inl b)
          · by_cases c : f.kind = 83
            · exact .inr (.inr c)
            · exact absurd ⟨a, b, c⟩ hk
end Go.Proofs.YtdedanoelobdaaaDoor
