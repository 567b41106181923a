/- WHAT THIS FILE PROVES: the contract of the program's frames.Encode: a frame's block, where the frame may be; else the error of check. -/
import Derived.Test.YtdedanoelobdaaaDoorSect
import Derived.Test.YtdedanoelobdaaaDoorFrText
namespace Go.Proofs.YtdedanoelobdaaaDoor
open Go.RowKit Go.Proofs Go.Shelf
theorem wide_fn (f : FuncId) : Fence.wide.fn f = True := rfl
theorem wide_depth : Fence.wide.depth = none := rfl
attribute [local go_sem] Oper.semAt_some wide_fn wide_depth
attribute [local simp] wide_fn wide_depth

theorem isB_grown {B b : Nat} {l : List UInt8} {W W' : World} {row : Option Nat} (h : IsB B b l W) (hg : W.grownBy W' row) (hr : ∀ r, row = some r → ∀ c t fz, W.heap[r]? ≠ some (.cells c t fz)) : IsB B b l W' := by
  have key : ∀ p, Lib.BuilderAt 101 5 B b p (Lib.byteCells l) W → Lib.BuilderAt 101 5 B b p (Lib.byteCells l) W' := by
    rintro p ⟨hB, v, hb, ho, hne⟩
    refine ⟨hB, v, (hg.block b (Array.getElem?_eq_some_iff.1 hb).1 (fun e => hr b e.symm _ _ _ hb)).trans hb, ho.kept hg ?_, hne⟩
    rcases ho.2 with ⟨rfl, _⟩ | ⟨g, cap, cur, rfl, _, hgb, _⟩
    · exact .inl rfl
    · exact .inr (fun e => hr g e.symm _ _ _ hgb)
  exact h.imp (key _) (key _)
theorem isB_other {B b : Nat} {l : List UInt8} {W W' : World} {r : Nat} {cs : Array Value} {t : TypeId} {fz : Nat × Nat} (h : IsB B b l W) (hg : W.grownBy W' (some r)) (hr : W.heap[r]? = some (.cells cs t fz)) (ht : t ≠ 5) (hb : r ≠ b) : IsB B b l W' := by
  have key : ∀ p, Lib.BuilderAt 101 5 B b p (Lib.byteCells l) W → Lib.BuilderAt 101 5 B b p (Lib.byteCells l) W' := by
    rintro p ⟨hB, v, hbk, ho, hne⟩
    refine ⟨hB, v, (hg.block b (Array.getElem?_eq_some_iff.1 hbk).1 (fun e => hb (by injection e with e; exact e.symm))).trans hbk, ho.kept hg ?_, hne⟩
    rcases ho.2 with ⟨rfl, _⟩ | ⟨g, cap, cur, rfl, _, hgb, _⟩
    · exact .inl rfl
    · refine .inr fun e => ht ?_
      injection e with e
      simp only at e
      subst e
      rw [hr] at hgb
      injection hgb with hgb
      injection hgb
  exact h.imp (key _) (key _)
theorem isB_has {B b : Nat} {l : List UInt8} {W : World} (h : IsB B b l W) : ∃ c, W.heap[b]? = some (.cells c 101 (0, 0)) := by
  rcases h with ⟨_, _, h, _⟩ | ⟨_, _, h, _⟩ <;> exact ⟨_, h⟩
theorem isB_le {B b : Nat} {l : List UInt8} {W : World} (h : IsB B b l W) : B ≤ b := by
  rcases h with ⟨h, _⟩ | ⟨h, _⟩ <;> exact h
theorem isB_own (B b N : Nat) (l : List UInt8) : OwnFrom N (fun (_ : Unit) => IsB B b l) := fun _ W W' row h hg hr =>
  isB_grown h hg fun r e c t fz h' => by
    obtain ⟨_, o, ho, hc⟩ := hr r e
    rw [h'] at ho
    cases ho
    cases hc
theorem keeps_of_others {b : Nat} {W W' : World} (h : Lib.OthersKept 5 (some b) W W') (hs : W.heap.size ≤ W'.heap.size) (hb : ∃ c t fz, W.heap[b]? = some (.cells c t fz)) : KeepsOthers W W' :=
  ⟨hs, fun k o hk ho => h k o hk (fun e => by
      injection e with e; subst e
      obtain ⟨c, t, fz, hb⟩ := hb
      rw [hb] at hk; cases hk; cases ho) (fun c fz e => by subst e; cases ho)⟩
theorem blk_own {N g : Nat} {t : TypeId} {cs : List Value} : OwnFrom N (fun (_ : Unit) W => Blk W g t cs) := fun _ W W' row h hg hr =>
  h.grown hg fun e => by
    obtain ⟨_, o, ho, hc⟩ := hr g e.symm
    unfold Blk at h
    rw [h] at ho
    cases ho
    cases hc
theorem blk_others {W W' : World} {b g : Nat} {t : TypeId} {cs : List Value} (h : Blk W g t cs) (hk : Lib.OthersKept 5 (some b) W W') (hg : g ≠ b) (ht : t ≠ 5) : Blk W' g t cs :=
  hk g _ h (fun e => hg (by injection e)) (fun c fz e => ht (by injection e))

/-- k sectors of a frame, each with its mark. -/
def marks (l : List UInt8) (k : Nat) : List UInt8 := (List.range k).flatMap fun j => part l 31 j ++ [165]
theorem marks_succ (l : List UInt8) (k : Nat) : marks l (k + 1) = marks l k ++ part l 31 k ++ [165] := by
  simp [marks, List.range_succ, List.flatMap_append]
theorem part_len {l : List UInt8} {long k : Nat} (h : l.length = 4 * long) (hk : k < 4) : (part l long k).length = long := by
  have : (k + 1) * long ≤ 4 * long := Nat.mul_le_mul_right _ (by omega)
  rw [Nat.succ_mul] at this
  simp [part]
  omega
theorem marks_len {l : List UInt8} (h : l.length = 124) : ∀ k, k ≤ 4 → (marks l k).length = 32 * k := by
  intro k
  induction k with
  | zero => intro _; rfl
  | succ k ih =>
    intro hk
    rw [marks_succ]
    simp [ih (by omega), part_len (l := l) (long := 31) (k := k) (by omega) (by omega)]
    omega

theorem Fr.text_len {f : Fr} (h : f.OK) : f.text.length = 124 := by
  have := h.data
  simp [Fr.text, Fr.head8]
  omega
/-- A frame's block. -/
def Fr.block (f : Fr) : List UInt8 := marks f.text 4
theorem Fr.block_len {f : Fr} (h : f.OK) : f.block.length = 128 := marks_len (Fr.text_len h) 4 (by omega)

/-- What a round over the sectors leaves: the builder with k of them. -/
def encI (txt : Nat → List UInt8) (B b bs bl : Nat) (w0 : World) (k : Nat) (W : World) : Prop :=
  IsB B b (txt k) W ∧ Below w0.heap.size w0 W ∧ (∃ x, Blk W bs 9 [x]) ∧ (∃ x, Blk W bl 3 [x]) ∧ (bs ≠ b ∧ bl ≠ b ∧ bs ≠ bl ∧ w0.heap.size ≤ bs ∧ w0.heap.size ≤ B) ∧ B ≤ W.heap.size
theorem encI_own {txt : Nat → List UInt8} {B b bs bl : Nat} {w0 : World} {k N : Nat} (hN : w0.heap.size ≤ N) : OwnFrom N (fun (_ : Unit) => encI txt B b bs bl w0 k) := fun s W W' row ⟨h1, h2, ⟨x, h3⟩, ⟨y, h4⟩, h5, h7⟩ hg hr =>
  ⟨isB_own B b N _ s W W' row h1 hg hr, ownFrom_below (Nat.le_refl _) hN s W W' row h2 hg hr, ⟨x, blk_own s W W' row h3 hg hr⟩, ⟨y, blk_own s W W' row h4 hg hr⟩, h5, Nat.le_trans h7 hg.size⟩
theorem grownBy_setCell (W : World) (p : Addr) (v : Value) : W.grownBy (W.setCell p v) (some p.block) :=
  ⟨rfl, rfl, rfl, by simp [World.setCell], fun k _ hk => Below.heap_setCell _ _ _ _ (fun e => hk (by rw [e]))⟩
theorem encI_set {txt : Nat → List UInt8} {B b bs bl : Nat} {w0 : World} (k : Nat) (W : World) (v : Value) (h : encI txt B b bs bl w0 k W) : encI txt B b bs bl w0 k (W.setCell ⟨bs, 0, none⟩ v) := by
  obtain ⟨h1, h2, ⟨x, h3⟩, ⟨y, h4⟩, h5, h7⟩ := h
  exact ⟨isB_other h1 (grownBy_setCell W ⟨bs, 0, none⟩ v) h3 (by decide) h5.1, h2.setCell (p := ⟨bs, 0, none⟩) h5.2.2.2.1 v, ⟨v, h3.set_ 0 v⟩, ⟨y, h4.far (p := ⟨bs, 0, none⟩) (Ne.symm h5.2.2.1) v⟩, h5, by simpa [World.setCell] using h7⟩
/-- A round that turned but the builder. -/
theorem encI_post {txt : Nat → List UInt8} {B b bs bl : Nat} {w0 : World} {k : Nat} {W W' : World} {Ix : Code → World → Prop} {a : Act} (h : encI txt B b bs bl w0 k W) (hk : Lib.OthersKept 5 (some b) W W') (hb : Below B W W') (hI : IsB B b (txt (k + 1)) W') :
    secPost (encI txt B b bs bl w0) Ix bs bl (k + 1) W .normal a W' := by
  obtain ⟨h1, h2, ⟨x, h3⟩, ⟨y, h4⟩, h5, h7⟩ := h
  obtain ⟨cc, hcc⟩ := isB_has h1
  have e3 := blk_others h3 hk h5.1 (by decide)
  have e4 := blk_others h4 hk h5.2.1 (by decide)
  exact ⟨keeps_of_others hk hb.size ⟨_, _, _, hcc⟩, e3.trans h3.symm, e4.trans h4.symm, hI, h2.trans (hb.mono h5.2.2.2.2), ⟨x, e3⟩, ⟨y, e4⟩, h5, Nat.le_trans h7 hb.size⟩
theorem kept_deferred {b D : Nat} {o : Obj} {W W' : World} {B : Nat} {l : List UInt8} (h : Lib.OthersKept 5 (some b) W W') (hb : IsB B b l W) (hD : W.heap[D]? = some o) (ho : o.isCells = false) : W'.heap[D]? = some o :=
  h D o hD (fun e => by
    injection e with e; subst e
    obtain ⟨c, hc⟩ := isB_has hb
    rw [hD] at hc; cases hc; cases ho) (fun c fz e => by subst e; cases ho)

set_option maxRecDepth 100000 in
set_option maxHeartbeats 2000000 in
theorem encode_ok (f : Fr) (h : f.OK) (w : World) (ht : TabIn w) : Calls Tryd.prog 32 #[f.val] w (Ret w (.tuple #[.string (S f.block), .int .i64 0])) := by
  have hcheck := check_ok f.kind f.epoch f.index f.data h
  have htext := text_ok f h
  have hlen := Fr.text_len h
  simp only [Fr.val] at *
  generalize hl : f.text = l at *
  have HL := Lib.hid hl
  clear hl
  refine callsIn_wide (n := 5).1 ?_
  refine callsIn_of_wp_marks Tryd.func32 rfl trivial ?_
  simp only [Tryd.ntmps32, List.size_toArray, List.length_cons, List.length_nil, Nat.reduceAdd, Nat.reduceSub, Array.replicate_succ, Array.replicate_zero, List.push_toArray, List.append_toArray, List.nil_append, List.cons_append]
  have hB := Blk.new w 49 [.int .u8 f.kind.toNat, .int .i64 f.epoch, .int .i64 f.index, .string (S f.data)]
  have hb0 := below_alloc (Below.refl w.heap.size w) (.cells #[.int .u8 f.kind.toNat, .int .i64 f.epoch, .int .i64 f.index, .string (S f.data)] 49)
  gi_wp2_with (gi_at_call 71; refine (callsIn_wide.2 (hcheck _)).mono ?_)
  rintro e w1 ⟨rfl, hb1⟩
  have hB1 := hB.on hb1
  have hbw1 := below_then hb0 hb1
  have ht1 := ht.below hbw1
  clear hB hb0 hb1 ht hcheck
  have c0 := (hB1.cell 0).trans rfl
  have c1 := (hB1.cell 1).trans rfl
  have c2 := (hB1.cell 2).trans rfl
  have c3 := (hB1.cell 3).trans rfl
  have hz : w.heap.size < w1.heap.size := hB1.lt
  gi_wp2_with (first | (gi_at_call 73; refine (callsIn_wide.2 (htext _ (ht1.below (below_alloc (Below.refl _ _) _)))).mono ?_) | (gi_at_call 72; refine (callsIn_wide.2 (sectors_any l 31 _)).mono ?_))
  rintro e w2 ⟨rfl, hb2⟩
  have hI0 := (isB_grown (isB_new w1 w1.heap.size (Nat.le_refl _)) (row := none) ⟨hb2.os, hb2.tape, hb2.output, hb2.size, fun k hk _ => hb2.block k hk⟩ (fun _ e => by cases e))
  have hbw2 := below_then (below_then hbw1 (below_alloc (Below.refl w1.heap.size w1) _)) hb2
  have hlt2 : w1.heap.size < w2.heap.size := by have := hb2.size; simp at this; omega
  clear hb2 ht1 c0 c1 c2 c3 hB1 htext
  gi_wp2_with (gi_at_call 72; refine (callsIn_wide.2 (sectors_any l 31 _)).mono ?_; rintro e w3 ⟨rfl, rfl⟩)
  have hs3 : Blk ((w2.alloc (.cells #[.string (S l)] 9)).alloc (.cells #[.int .i64 31] 3)) w2.heap.size 9 [.string (S l)] := (Blk.new w2 9 [_]).alloc _
  have hl3 : Blk ((w2.alloc (.cells #[.string (S l)] 9)).alloc (.cells #[.int .i64 31] 3)) (w2.heap.size + 1) 3 [.int .i64 31] := by
    have := Blk.new (w2.alloc (.cells #[.string (S l)] 9)) 3 [.int .i64 31]
    simpa using this
  have hI3 := (isB_own w1.heap.size w1.heap.size 0 []).alloc (s := ()) (.cells #[.int .i64 31] 3) ((isB_own w1.heap.size w1.heap.size 0 []).alloc (s := ()) (.cells #[.string (S l)] 9) hI0)
  have hbw3 := below_alloc (below_alloc hbw2 (.cells #[.string (S l)] 9)) (.cells #[.int .i64 31] 3)
  have hz3 : w2.heap.size + 2 = ((w2.alloc (.cells #[.string (S l)] 9)).alloc (.cells #[.int .i64 31] 3)).heap.size := by simp
  generalize (w2.alloc (.cells #[.string (S l)] 9)).alloc (.cells #[.int .i64 31] 3) = w3 at *
  refine wpIn_sectors rfl (by omega) trivial w2.heap.size (w2.heap.size + 1) (by omega) (by omega) (by omega) rfl l 31 (by omega) (by omega) hlen hs3 hl3 rfl
    (encI (marks l) w1.heap.size w1.heap.size w2.heap.size (w2.heap.size + 1) w) (fun _ _ => False) (fun k => encI_own (by have := hbw3.size; omega)) (fun c => fun _ _ _ _ h _ _ => h) encI_set
    ⟨hI3, hbw3, ⟨_, hs3⟩, ⟨_, hl3⟩, ⟨by omega, by omega, by omega, by have := hbw2.size; omega, by omega⟩, by omega⟩ ?round ?done ?stop
  case round =>
    intro lp k W hk
    simp only [sVal]
    generalize hp : part l 31 k = pt
    have HP := Lib.hid hp
    clear hp
    gi_wp2
    refine ⟨trivial, ?_⟩
    intro W2 hW2
    have h1 := hW2.1
    have h7 := hW2.2.2.2.2.2
    have hpl : pt.length = 31 := by rw [← HP.out]; exact part_len (by omega) hk
    have hml := marks_len hlen k (by omega)
    gi_wp2_with (gi_at_call 55; refine (CallsIn.inRound lp (callsIn_wide.2 (write_any w1.heap.size w1.heap.size _ pt _ h1 (by omega) h7))).mono ?_)
    rintro e W3 ⟨rfl, i1, i2, i3⟩
    have i7 := Nat.le_trans h7 i2.size
    gi_wp2_with (gi_at_call 55; refine (CallsIn.inRound lp (callsIn_wide.2 (write_any w1.heap.size w1.heap.size _ [165] _ i1 (by simp; omega) i7))).mono ?_)
    rintro e W4 ⟨rfl, j1, j2, j3⟩
    gi_wp2
    exact encI_post hW2 (i3.trans j3) (i2.trans j2) (by rw [marks_succ, HP.out]; exact j1)
  case done =>
    rintro D W hD ⟨h1, h2, _, _, h5, h7⟩ hK
    gi_wp2_with (gi_at_call 56; refine (callsIn_wide.2 (string_any w1.heap.size w1.heap.size _ W h1 h7)).mono ?_)
    rintro e W3 ⟨rfl, i1, i2⟩
    have hK3 := kept_deferred i2 h1 hK rfl
    gi_wp2
    refine ⟨by simp, .inl ⟨_, _, rfl, run_takeDeferred hK3, ?_⟩⟩
    refine ⟨_, results_tmp2 rfl _ _ _, ?_⟩
    have hs3 := i1.size
    exact ⟨by rw [Fr.block, HL.out]; rfl, (h2.trans (i1.mono h5.2.2.2.2)).trans (belowK_b (w := w) (Nat.le_refl _) W3 D _ _ (by omega) hK3 rfl rfl)⟩
  case stop => exact fun _ _ _ h => h.elim

set_option maxRecDepth 100000 in
set_option maxHeartbeats 2000000 in
theorem encode_err (f : Fr) (h : f.err ≠ 0) (hl : (f.data.length : Int) ≤ 9223372036854775807) (w : World) : Calls Tryd.prog 32 #[f.val] w (Ret w (.tuple #[.string (S []), .int .i64 f.err])) := by
  have hcheck := check_any f hl
  simp only [Fr.val] at *
  generalize f.err = er at *
  have hb0 := below_alloc (Below.refl w.heap.size w) (.cells #[.int .u8 f.kind.toNat, .int .i64 f.epoch, .int .i64 f.index, .string (S f.data)] 49)
  go_enter Tryd.func32, Tryd.ntmps32
  go_wp2_with (go_at_call 71; refine (hcheck _).mono ?_)
  rintro e w1 ⟨rfl, hb1⟩
  have hbw1 := below_then hb0 hb1
  clear hcheck hb0 hb1
  go_wp2
  go_ret2
  exact ⟨rfl, hbw1⟩
end Go.Proofs.YtdedanoelobdaaaDoor
