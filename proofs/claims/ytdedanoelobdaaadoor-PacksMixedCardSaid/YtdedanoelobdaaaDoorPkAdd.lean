/- WHAT THIS FILE PROVES: rows of strings that a call owns; the contract of the program's pack.add: one block more, where the frame may be. -/
import Derived.Test.YtdedanoelobdaaaDoorFrDec
import Derived.Laws.AppendOwn
import Derived.Laws.AppendOwnNone
import Derived.Laws.OwnMore
namespace Go.Proofs.YtdedanoelobdaaaDoor
open Go.RowKit Go.Proofs
attribute [local go_sem] calm calmUpon

def SV (bs : List (List UInt8)) : List Value := bs.map fun b => .string (S b)
@[simp] theorem SV_length (bs : List (List UInt8)) : (SV bs).length = bs.length := by simp [SV]
theorem SV_append (a b : List (List UInt8)) : SV (a ++ b) = SV a ++ SV b := by simp [SV]
/-- v is a slice of just the strings bs, its cells in a block of its own from B on. -/
abbrev Row (B : Nat) (v : Value) (bs : List (List UInt8)) (w : World) : Prop := w.ownsRow B 9 1 v bs.length (SV bs)
theorem Row.keep {B : Nat} {v : Value} {bs : List (List UInt8)} {w w' : World} (h : Row B v bs w) (hk : ∀ g, v.ownBlock = some g → w'.heap[g]? = w.heap[g]?) : Row B v bs w' := by
  refine ⟨h.1, ?_⟩
  rcases h.2 with h2 | ⟨g, cap, cur, rfl, hb, hg, hr⟩
  · exact .inl h2
  · exact .inr ⟨g, cap, cur, rfl, hb, (hk g rfl).trans hg, hr⟩
theorem Row.lt {B : Nat} {v : Value} {bs : List (List UInt8)} {w : World} (h : Row B v bs w) {g : Nat} (hg : v.ownBlock = some g) : g < w.heap.size := (World.ownsRow.lt h g hg).2
theorem Row.below {B N : Nat} {v : Value} {bs : List (List UInt8)} {w w' : World} (h : Row B v bs w) (hb : Below N w w') (hN : w.heap.size ≤ N) : Row B v bs w' :=
  h.keep fun g hg => hb.block g (Nat.lt_of_lt_of_le (h.lt hg) hN)
theorem Row.on {B : Nat} {v : Value} {bs : List (List UInt8)} {w w' : World} (h : Row B v bs w) (hb : Below w.heap.size w w') : Row B v bs w' := h.below hb (Nat.le_refl _)
theorem Row.kind {B : Nat} {v : Value} {bs : List (List UInt8)} {w : World} (h : Row B v bs w) {g : Nat} (hg : v.ownBlock = some g) : ∃ c fz, w.heap[g]? = some (.cells c 9 fz) := by
  rcases h.2 with ⟨rfl, _⟩ | ⟨g', cap, cur, rfl, hb, hg', hr⟩
  · cases hg
  · cases hg; exact ⟨_, _, hg'⟩
theorem Row.far {B : Nat} {v : Value} {bs : List (List UInt8)} {w : World} (h : Row B v bs w) {p : Addr} {t : TypeId} {cs : List Value} (hp : Blk w p.block t cs) (ht : t ≠ 9) (u : Value) : Row B v bs (w.setCell p u) :=
  h.keep fun g hg => Below.heap_setCell _ _ _ _ fun e => by
    subst e
    obtain ⟨c, fz, hc⟩ := h.kind hg
    unfold Blk at hp
    rw [hc] at hp
    injection hp with hp
    injection hp with _ hp
    exact ht hp.symm
theorem Row.form {B : Nat} {v : Value} {bs : List (List UInt8)} {w : World} (h : Row B v bs w) : ∃ o cap, v = .slice o bs.length cap := by
  rcases h.2 with ⟨rfl, hn⟩ | ⟨g', cap, cur, rfl, _⟩
  · exact ⟨none, 0, by rw [hn]⟩
  · exact ⟨_, _, rfl⟩

theorem infoStr : (Tryd.prog.info? 9).map (fun i => (i.zero, i.size, i.bytes)) = some (some (.string ⟨#[]⟩), 1, 16) := by kernel_rfl
theorem uStrs : Tryd.prog.underlying 22 = some (.slice 9) := by kernel_rfl

/-- The pack p at block g: its kind, its epoch, its blocks so far. -/
structure PackAt (B g : Nat) (k : UInt8) (e : Int) (bs : List (List UInt8)) (v : Value) (w : World) : Prop where
  blk : Blk w g 96 [.int .u8 k.toNat, .int .i64 e, v]
  row : Row B v bs w
  le : B ≤ g

set_option maxRecDepth 100000 in
set_option maxHeartbeats 2000000 in
theorem add_err (B g : Nat) (k : UInt8) (e : Int) (bs : List (List UInt8)) (v : Value) (part : List UInt8) (w : World) (hp : PackAt B g k e bs v w) (hl : (part.length : Int) ≤ 9223372036854775807) (h : (Fr.mk k e bs.length part).err ≠ 0) :
    Calls Tryd.prog 54 #[.pointer (some ⟨g, 0, none⟩), .string (S part)] w (Ret w (.int .i64 (Fr.mk k e bs.length part).err)) := by
  have henc := encode_err ⟨k, e, bs.length, part⟩ h hl
  obtain ⟨o, cap, rfl⟩ := hp.row.form
  simp only [Fr.val] at henc
  generalize Fr.err _ = er at *
  go_enter Tryd.func54, Tryd.ntmps54
  go_wp2
  have c0 := aft_cell ((hp.blk.cell 0).trans rfl)
  have c1 := aft_cell ((hp.blk.cell 1).trans rfl)
  have c2 := aft_cell ((hp.blk.cell 2).trans rfl)
  refine wp_region_rel 21 [] [] [] (by kernel_rfl) (by kernel_rfl) (by decide) (by kernel_rfl) (by simp) (by rfl) (by simp) ?_
  simp only [List.take_succ_cons, List.take_zero]
  repeat (refine head_step rfl rfl rfl (fun K hK => ?_); go_simp; refine hK _ ?_; clear hK K)
  refine head_step rfl rfl rfl (fun K hK => ?_)
  go_simp
  apply Exists.intro
  refine ⟨fun n => ?_, hK _ ?_⟩
  · exact calm_ret (henc _)
  clear hK K
  repeat (refine head_step rfl rfl rfl (fun K hK => ?_); go_simp; refine hK _ ?_; clear hK K)
  refine head_nil ?_
  intro n
  simp only [finT]
  refine wpList_nil ?_
  simp only [normalOnly]
  have hb := n.ok
  generalize n.W = w2 at *
  go_wp2
  go_ret
  exact ⟨rfl, hb⟩

theorem PackAt.to {B g : Nat} {k : UInt8} {e : Int} {bs : List (List UInt8)} {v : Value} {w w' : World} (h : PackAt B g k e bs v w) (hb : Below w.heap.size w w') : PackAt B g k e bs v w' :=
  ⟨h.blk.on hb, h.row.on hb, h.le⟩

set_option maxRecDepth 100000 in
set_option maxHeartbeats 2000000 in
theorem add_ok (B g : Nat) (k : UInt8) (e : Int) (bs : List (List UInt8)) (v : Value) (part : List UInt8) (w : World) (hp : PackAt B g k e bs v w) (h : Fr.OK ⟨k, e, bs.length, part⟩) (ht : TabIn w) (hBw : B ≤ w.heap.size) :
    Calls Tryd.prog 54 #[.pointer (some ⟨g, 0, none⟩), .string (S part)] w fun e' w' => e' = .returned (.int .i64 0) ∧ (∃ v', PackAt B g k e (bs ++ [Fr.block ⟨k, e, bs.length, part⟩]) v' w') ∧ Below B w w' := by
  have henc := encode_ok ⟨k, e, bs.length, part⟩ h
  have hi2 := h.i2
  have hle := hp.le
  obtain ⟨o, cap, rfl⟩ := hp.row.form
  simp only [Fr.val] at henc hi2
  generalize Fr.block _ = blk at *
  go_enter Tryd.func54, Tryd.ntmps54
  go_wp2
  have c0 := aft_cell ((hp.blk.cell 0).trans rfl)
  have c1 := aft_cell ((hp.blk.cell 1).trans rfl)
  have c2 := aft_cell ((hp.blk.cell 2).trans rfl)
  refine wp_region_rel 21 [] [] [] (by kernel_rfl) (by kernel_rfl) (by decide) (by kernel_rfl) (by simp) (by rfl) (by simp) ?_
  simp only [List.take_succ_cons, List.take_zero]
  repeat (refine head_step rfl rfl rfl (fun K hK => ?_); go_simp; refine hK _ ?_; clear hK K)
  refine head_step rfl rfl rfl (fun K hK => ?_)
  go_simp
  apply Exists.intro
  refine ⟨fun n => ?_, hK _ ?_⟩
  · exact calm_ret (henc _ (ht.below n.ok))
  clear hK K
  repeat (refine head_step rfl rfl rfl (fun K hK => ?_); go_simp; refine hK _ ?_; clear hK K)
  refine head_nil ?_
  intro n
  simp only [finT]
  refine wpList_nil ?_
  simp only [normalOnly]
  have hb := n.ok
  have hp2 := hp.to hb
  clear c0 c1 c2 hp ht
  generalize n.W = w2 at *
  have c2 := (hp2.blk.cell 2).trans rfl
  have f2 := hp2.blk.frozen 2
  obtain ⟨i0, hi, hz0, hz1, hz2⟩ := info_parts infoStr
  have hBw2 : B ≤ w2.heap.size := Nat.le_trans hBw hb.size
  have hnew : Blk (w2.alloc (.cells #[.string (S blk)] 9)) w2.heap.size 9 [.string (S blk)] := Blk.new w2 9 [_]
  have hb3 := below_alloc (Below.refl w2.heap.size w2) (.cells #[.string (S blk)] 9)
  have hp3 := hp2.to hb3
  have hz3 : (w2.alloc (.cells #[.string (S blk)] 9)).heap.size = w2.heap.size + 1 := by simp
  go_wp2_with (at_builtin; refine wpList_append_own _ rfl _ _ 22 rfl B 9 i0 _ 1 16 uStrs hi hz0 hz1 hz2 rfl (by omega) _ _ _ rfl hp3.row _ _ _ [.string (S blk)] rfl rfl ?c1 ?c2 ?c3 ?c4 ?c5 ?_)
  case c1 =>
    intro j u hj
    match j, hj with
    | 0, hj => cases hj; exact hnew.cell 0
  case c2 => intro u hu; simp only [List.mem_singleton] at hu; subst hu; rfl
  case c3 => unfold maxLen; omega
  case c4 => omega
  case c5 => omega
  intro v' w4 hrow hgrow _
  have hne : some g ≠ (Value.slice o bs.length cap).ownBlock := fun e => by
    obtain ⟨c, fz, hc⟩ := hp3.row.kind e.symm
    have := hp3.blk
    unfold Blk at this
    rw [hc] at this
    injection this with this
    injection this with _ this
    exact absurd this (by decide)
  have hblk4 := hp3.blk.grown hgrow hne
  have hlow := (hb.mono hBw).trans ((hb3.mono hBw2).trans ((Below.refl B _).grown hgrow (by omega) (fun k hk => (World.ownsRow.lt hp3.row k hk).1)))
  have hrow4 : Row B v' (bs ++ [blk]) w4 := by
    have : (SV (bs ++ [blk])) = SV bs ++ [.string (S blk)] := SV_append bs [blk]
    unfold Row
    rw [this, List.length_append, List.length_singleton]
    exact hrow
  clear hp3 hnew hp2 c2 f2 hrow hgrow hb3 hb henc
  obtain ⟨o', cap', rfl⟩ := hrow4.form
  simp only [List.length_append, List.length_singleton] at *
  have f2 := hblk4.frozen 2
  have c2 := (hblk4.cell 2).trans rfl
  go_wp2_with (fail)
  go_ret
  have hb5 := hblk4.set_ 2 (.slice o' (bs.length + 1) cap')
  exact ⟨rfl, ⟨_, hb5, hrow4.far (p := ⟨g, 2, none⟩) hblk4 (by decide) _, hle⟩, hlow.setCell (p := ⟨g, 2, none⟩) hle _⟩
end Go.Proofs.YtdedanoelobdaaaDoor
