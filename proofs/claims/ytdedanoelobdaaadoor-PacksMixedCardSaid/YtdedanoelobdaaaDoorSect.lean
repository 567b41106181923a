/- WHAT THIS FILE PROVES: contracts of frames.sectors and of the iterator that it hands back, and the law of a range over it: four rounds, one a sector. -/
import Derived.Test.YtdedanoelobdaaaDoorBuilder
import Derived.RangeFuncNested
import Derived.RangeFuncBound
import Derived.RangeFuncCalls
import Derived.RangeFuncLeaves
import Derived.Shelf.Abstract
import Derived.Shelf.RegionOpen
import Derived.OwnWalkIn
import Derived.TacticsInMore
import Derived.LoopNIn
import Derived.LoopIn
namespace Go.Proofs.YtdedanoelobdaaaDoor
open Go.RowKit Go.Proofs Go.Shelf
attribute [local go_sem] Oper.semAt_some

set_option maxRecDepth 100000 in
set_option maxHeartbeats 400000 in
theorem sectors_any (l : List UInt8) (long : Int) (w : World) : Calls Tryd.prog 72 #[.string (S l), .int .i64 long] w fun e w' =>
    e = .returned (.func (.func 108) #[] #[.pointer (some ⟨w.heap.size, 0, none⟩), .pointer (some ⟨w.heap.size + 1, 0, none⟩)]) ∧
    w' = (w.alloc (.cells #[.string (S l)] 9)).alloc (.cells #[.int .i64 long] 3) := by
  go_enter Tryd.func72, Tryd.ntmps72
  go_wp2
  go_ret
  exact ⟨rfl, rfl⟩

/-- The k-th part of a text, so long each. -/
def part (l : List UInt8) (long k : Nat) : List UInt8 := (l.drop (k * long)).take long

def sVal (k : Nat) (l : List UInt8) (long : Nat) : Array Value := #[.int .i64 k, .string (S (part l long k))]

set_option maxRecDepth 100000 in
set_option maxHeartbeats 2000000 in
theorem sectors1_in (F : Fence) (n : Nat) (hF : F.fn 108) (hro : F.round = none) (hn : 1 ≤ n) (lp bs bl : Nat) (hne : bs ≠ bl) (l : List UInt8) (long : Nat) (h0 : 0 < long) (hlong : long ≤ 1000) (hlen : l.length = 4 * long) (J Jx : Nat → World → Prop)
    (hJs : ∀ k W v, J k W → J k (W.setCell ⟨bs, 0, none⟩ v))
    (hY : ∀ k W, k < 4 → J k W → YieldAt F (n - 1) Tryd.prog lp (sVal k l long) W fun e W' =>
      (e = .returned (.bool true) ∧ J (k + 1) W' ∧ W'.heap[bs]? = W.heap[bs]? ∧ W'.heap[bl]? = W.heap[bl]?) ∨ (e = .returned (.bool false) ∧ Jx (k + 1) W'))
    (W : World) (hs : Blk W bs 9 [.string (S l)]) (hl : Blk W bl 3 [.int .i64 long]) (h00 : J 0 W) :
    CallsIn F n Tryd.prog 108 #[.func (.yield lp) #[] #[], .pointer (some ⟨bs, 0, none⟩), .pointer (some ⟨bl, 0, none⟩)] W fun e W' => (∃ v, e = .returned v) ∧ (J 4 W' ∨ ∃ k, k ≤ 4 ∧ Jx k W') := by
  refine callsIn_of_wp Tryd.func108 rfl hF ?_ hro
  simp only [Tryd.ntmps108, List.size_toArray, List.length_cons, List.length_nil, Nat.reduceAdd, Nat.reduceSub, Array.replicate_succ, Array.replicate_zero, List.push_toArray, List.append_toArray, List.nil_append, List.cons_append]
  gi_wp2
  gi_loopw [4] (fun i wr => ∃ k : Nat, k ≤ 4 ∧ i = .int .i64 k ∧ J k wr ∧ Blk wr bs 9 [.string (S (l.drop (k * long)))] ∧ Blk wr bl 3 [.int .i64 long])
    (fun i _ => 4 - (intOf i).toNat)
  case atStart => exact ⟨0, by omega, rfl, h00, by simpa using hs, hl⟩
  case round =>
    obtain ⟨k, hk, rfl, hj, hbs, hbl⟩ := hrel
    have c1 := (hbs.cell 0).trans rfl
    have c2 := (hbl.cell 0).trans rfl
    have f1 := hbs.frozen 0
    by_cases hlt : k < 4
    · obtain ⟨fn, tmps, assign, body, hy, hR⟩ := hY k wr hlt hj
      have hkl : k * long + long ≤ 4 * long := by
        have : (k + 1) * long ≤ 4 * long := Nat.mul_le_mul_right _ (by omega)
        rw [Nat.succ_mul] at this; exact this
      have hdl : (l.drop (k * long)).length = 4 * long - k * long := by rw [List.length_drop, hlen]
      unfold sVal part at hy
      gi_wp2
      refine hR.mono ?_
      rintro e W3 (⟨rfl, hJ3, k1, k2⟩ | ⟨rfl, hJx3⟩)
      · have hbs3 : Blk W3 bs 9 [.string (S (l.drop (k * long)))] := k1.trans hbs
        have hbl3 : Blk W3 bl 3 [.int .i64 long] := k2.trans hbl
        have d1 := (hbs3.cell 0).trans rfl
        have d2 := (hbl3.cell 0).trans rfl
        have g1 := hbs3.frozen 0
        have hd : (l.drop (k * long + long)).take (4 * long - k * long - long) = l.drop ((k + 1) * long) := by
          rw [Nat.succ_mul k, List.take_of_length_le (by rw [List.length_drop]; omega)]
        have HD := Lib.hid hd
        clear c1 c2 f1 hy hR k1 k2 hd
        gi_wp2
        rw [HD.out]
        exact ⟨⟨k + 1, by omega, by go_num, hJs _ _ _ hJ3, hbs3.set_ 0 _, hbl3.far (p := ⟨bs, 0, none⟩) (Ne.symm hne) _⟩, by simp [intOf]; omega⟩
      · gi_wp2
        go_end0
        exact ⟨⟨_, rfl⟩, .inr ⟨k + 1, by omega, hJx3⟩⟩
    · have : k = 4 := by omega
      subst this
      have hz : (l.drop (4 * long)).length = 0 := by rw [List.length_drop]; omega
      gi_wp2
      refine ⟨fun _ h => (by cases h), ?_⟩
      gi_wp2
      go_end0
      exact ⟨⟨_, rfl⟩, .inl hj⟩

/-- What a round leaves. -/
def secPost (I : Nat → World → Prop) (Ix : Code → World → Prop) (bs bl k : Nat) (W : World) : Exit → Act → World → Prop
  | .normal, _, W' => KeepsOthers W W' ∧ W'.heap[bs]? = W.heap[bs]? ∧ W'.heap[bl]? = W.heap[bl]? ∧ I k W'
  | .ret, _, W' => KeepsOthers W W' ∧ Ix .ret W'
  | _, _, _ => False

/-- **A RANGE OVER THE SECTORS.** I: what holds when k of them have come; Ix: what holds when a round has left. -/
theorem wpIn_sectors {F : Fence} {n : Nat} {g : Operand} {ps : Array Tmp} {assign body : Code} {Q : Exit → Act → World → Prop} {a : Act} {w : World} (hro : F.round = none) (hn : 2 ≤ n)
    (hF : F.fn 108) (bs bl : Nat) (hbs : bs < w.heap.size) (hbl : bl < w.heap.size) (hne : bs ≠ bl) (hg : a.eval g = .func (.func 108) #[] #[.pointer (some ⟨bs, 0, none⟩), .pointer (some ⟨bl, 0, none⟩)])
    (l : List UInt8) (long : Nat) (h0 : 0 < long) (hlong : long ≤ 1000) (hlen : l.length = 4 * long) (hs : Blk w bs 9 [.string (S l)]) (hl : Blk w bl 3 [.int .i64 long]) (hps : ps.size = 2)
    (I : Nat → World → Prop) (Ix : Code → World → Prop) (hI : ∀ k, OwnFrom w.heap.size (fun (_ : Unit) => I k)) (hIx : ∀ c, OwnFrom w.heap.size (fun (_ : Unit) => Ix c)) (hIs : ∀ k W v, I k W → I k (W.setCell ⟨bs, 0, none⟩ v)) (hI0 : I 0 w)
    (hround : ∀ (lp k : Nat) (W : World), k < 4 → assign.wpIn (F.inRound lp) (n - 1 - 1) Tryd.prog (Exit.then (fun a' W' => W' = W ∧ ∀ W2, I k W2 → body.wpIn (F.inRound lp) (n - 1 - 1) Tryd.prog (secPost I Ix bs bl (k + 1) W2) a' W2) (fun _ _ _ => False)) { tmps := (ps.zip (sVal k l long)).foldl (fun t (p, v) => t.setIfInBounds p v) a.tmps, defers := [] } W)
    (hdone : ∀ (D : Nat) (W : World), w.heap.size ≤ D → I 4 W → W.heap[D]? = some (.deferred (some [])) → Q .normal { a with defers := { target := .collected D, args := #[] } :: a.defers } W)
    (hstop : ∀ (D : Nat) (W : World), w.heap.size ≤ D → Ix .ret W → W.heap[D]? = some (.deferred (some [])) → (Code.ret).wpIn F n Tryd.prog Q { a with defers := { target := .collected D, args := #[] } :: a.defers } W) :
    (Code.rangeFunc g ps assign body).wpIn F n Tryd.prog Q a w := by
  refine wpIn_rangeFunc fun fn hfn => ?_
  rw [hro]
  -- the record of the loop, and the world in which it is laid
  obtain ⟨rec_, hrec⟩ : ∃ rec_ : LoopState → Option Code → Loop, rec_ = fun st pe => { state := st, pending := pe, fn, tmps := a.tmps, params := ps, assign, body, defers := w.heap.size } := ⟨_, rfl⟩
  obtain ⟨W1, hW1⟩ : ∃ W1, (w.alloc (.deferred (some []))).alloc (.loop (rec_ .ready none)) = W1 := ⟨_, rfl⟩
  have hsz1 : (w.alloc (.deferred (some []))).heap.size = w.heap.size + 1 := by simp
  have hL1 : W1.heap[w.heap.size + 1]? = some (.loop (rec_ .ready none)) := by rw [← hW1, ← hsz1]; exact World.alloc_heap_new _ _
  have hD1 : W1.heap[w.heap.size]? = some (.deferred (some [])) := by rw [← hW1]; exact (Below.heap_alloc _ _ _ (by simp)).trans (World.alloc_heap_new w _)
  have hI1 : I 0 W1 := by rw [← hW1]; exact (hI 0).alloc (s := ()) _ ((hI 0).alloc (s := ()) _ hI0)
  have hb1 : Below w.heap.size w W1 := by rw [← hW1]; exact below_alloc (below_alloc (Below.refl _ _) _) _
  refine ⟨w.heap.size + 1, [{ target := .collected w.heap.size, args := #[] }], W1, { target := .fn (.func 108) #[.pointer (some ⟨bs, 0, none⟩), .pointer (some ⟨bl, 0, none⟩)], args := #[.func (.yield (w.heap.size + 1)) #[] #[]] }, W1, 108,
    #[.func (.yield (w.heap.size + 1)) #[] #[], .pointer (some ⟨bs, 0, none⟩), .pointer (some ⟨bl, 0, none⟩)], W1, ?_, ?_, ?_, ?_, fun _ => by omega, ?_⟩
  · rw [← hW1, hrec]; exact run_enterLoop_outer _ _ _ _ _
  · simp only [resolve, hg]
    simp [go_sem]
  · intro f' hf'; simp [Target.leads] at hf'; subst hf'; exact hF
  · simp [invoke, go_sem]
  · refine (sectors1_in F (n - 1) hF hro (by omega) (w.heap.size + 1) bs bl hne l long h0 hlong hlen
      (fun k W => I k W ∧ W.heap[w.heap.size + 1]? = some (.loop (rec_ .ready none)) ∧ W.heap[w.heap.size]? = some (.deferred (some [])))
      (fun _ W => Ix .ret W ∧ W.heap[w.heap.size + 1]? = some (.loop (rec_ .done (some .ret))) ∧ W.heap[w.heap.size]? = some (.deferred (some [])))
      (fun k W v hk => ⟨hIs k W v hk.1, (Below.heap_setCell _ _ _ _ (by simp; omega)).trans hk.2.1, (Below.heap_setCell _ _ _ _ (by simp; omega)).trans hk.2.2⟩)
      ?_ W1 (hs.below hb1 hbs) (hl.below hb1 hbl) ⟨hI1, hL1, hD1⟩).mono ?_
    · rintro k W hk4 ⟨hi, hlp, hdf⟩
      have hlt : w.heap.size + 1 < W.heap.size := (Array.getElem?_eq_some_iff.1 hlp).1
      have hy := run_yield (P := Tryd.prog) (args := sVal k l long) hlp (by rw [hrec]; exact hps.symm)
      rw [hrec] at hy
      refine ⟨fn, _, assign, body, hy, roundIn_of_wpIn hfn (wpIn_mono (hround _ k W hk4) ?_)⟩
      rintro e a4 W4 he
      cases e with
      | normal =>
        obtain ⟨e4, hb4⟩ := he
        rw [e4]
        clear e4
        refine ⟨_, run_beginRound hlp (by rw [hrec]), ?_⟩
        have hl2 : (W.putObj (w.heap.size + 1) (.loop { rec_ .ready none with state := .busy })).heap[w.heap.size + 1]? = some (.loop { rec_ .ready none with state := .busy }) := World.putObj_heap_same hlt
        have hd2 : (W.putObj (w.heap.size + 1) (.loop { rec_ .ready none with state := .busy })).heap[w.heap.size]? = some (.deferred (some [])) := (World.putObj_heap_other (by omega)).trans hdf
        have hi2 : I k (W.putObj (w.heap.size + 1) (.loop { rec_ .ready none with state := .busy })) := (hI k).putObj (s := ()) _ hi (by omega) hlp rfl
        have hs2 : (W.putObj (w.heap.size + 1) (.loop { rec_ .ready none with state := .busy })).heap[bs]? = W.heap[bs]? := World.putObj_heap_other (by omega)
        have ht2 : (W.putObj (w.heap.size + 1) (.loop { rec_ .ready none with state := .busy })).heap[bl]? = W.heap[bl]? := World.putObj_heap_other (by omega)
        generalize W.putObj (w.heap.size + 1) (.loop { rec_ .ready none with state := .busy }) = W2 at *
        refine wpIn_mono (hb4 W2 hi2) ?_
        rintro e a3 W3 hp
        cases e with
        | normal =>
          obtain ⟨hk3, k1, k2, hi3⟩ := hp
          have hl3 := hk3.same _ _ hl2 rfl
          have hr := run_endRound (P := Tryd.prog) none hl3
          refine ⟨_, _, hr, .inl ⟨rfl, ⟨(hI (k + 1)).putObj (s := ()) _ hi3 (by omega) hl3 rfl, ?_, (World.putObj_heap_other (by omega)).trans (hk3.same _ _ hd2 rfl)⟩, ?_, ?_⟩⟩
          · rw [World.putObj_heap_same (Array.getElem?_eq_some_iff.1 hl3).1, hrec]; rfl
          · rw [World.putObj_heap_other (by omega), k1, hs2]
          · rw [World.putObj_heap_other (by omega), k2, ht2]
        | ret =>
          obtain ⟨hk3, hi3⟩ := hp
          have hl3 := hk3.same _ _ hl2 rfl
          have hr := run_endRound (P := Tryd.prog) (some .ret) hl3
          refine ⟨_, _, hr, .inr ⟨rfl, (hIx .ret).putObj (s := ()) _ hi3 (by omega) hl3 rfl, ?_, (World.putObj_heap_other (by omega)).trans (hk3.same _ _ hd2 rfl)⟩⟩
          rw [World.putObj_heap_same (Array.getElem?_eq_some_iff.1 hl3).1, hrec]; rfl
        | exit id => exact hp.elim
        | goto t => exact hp.elim
        | panic c => exact hp.elim
        | outgrown => exact hp.elim
      | ret => exact he.elim
      | exit id => exact he.elim
      | goto t => exact he.elim
      | panic c => exact he.elim
      | outgrown => exact he.elim
    · rintro e W' ⟨⟨v, rfl⟩, ⟨hi, hlp, hdf⟩ | ⟨k, _, hi, hlp, hdf⟩⟩
      · exact ⟨none, _, by have := run_endLoop (P := Tryd.prog) hlp (by rw [hrec]; simp); rw [hrec] at this; exact this,
          hdone _ _ (Nat.le_refl _) ((hI 4).putObj (s := ()) _ hi (by omega) hlp rfl) ((World.putObj_heap_other (by omega)).trans hdf)⟩
      · exact ⟨some .ret, _, by have := run_endLoop (P := Tryd.prog) hlp (by rw [hrec]; simp); rw [hrec] at this; exact this,
          hstop _ _ (Nat.le_refl _) ((hIx .ret).putObj (s := ()) _ hi (by omega) hlp rfl) ((World.putObj_heap_other (by omega)).trans hdf)⟩
end Go.Proofs.YtdedanoelobdaaaDoor
