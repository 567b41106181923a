/- WHAT THIS FILE PROVES: the law of a region that draws its order, to be used in walks: 'wp_region_rel'. It is of no program; no condition. -/
import Derived.Test.YtdedanoelobdaaaDoorRelOrd
namespace Go.Proofs.YtdedanoelobdaaaDoor
open Go.RowKit

section
variable {P : Program} {ops : Array Oper} {w0 : World} {T : List (Tmp × VRel)} {N : Nat} {late : List Nat} {a0 aL : Act} {Q : Exit → Act → World → Prop} {l : Array Bool} {a : Act} {w : World}

structure InvB (P : Program) (ops : Array Oper) (N : Nat) (late : List Nat) (Q : Exit → Act → World → Prop) (l : Array Bool) (a : Act) (w : World) (a1 : Act) (m : Nat) : Prop where
  size : l.size = ops.size
  closed : ∀ j o, ops[j]? = some o → l.getD j false = true → ∀ e ∈ o.after, Region.binds .any e = true → l.getD e.on false = true
  mle : N + m ≤ ops.size
  tail : ∀ t, N ≤ t → t < ops.size → (l.getD t false = true ↔ t < N + m)
  lates : ∀ j, j < N → l.getD j false = false → j ∈ late
  ahead : Ahead ops N late l a a1
  wp : wpList P ops (normalOnly Q) (ops.toList.drop (N + m)) a1 w

theorem InvB.done {a1 : Act} {m : Nat} (inv : InvB P ops N late Q l a w a1 m) (hall : ∀ j, j < ops.size → l.getD j false = true) (hN : N ≤ ops.size) : Q .normal a w := by
  have hm : N + m = ops.size := by
    rcases Nat.lt_or_ge (N + m) ops.size with h | h
    · have := (inv.tail (N + m) (by omega) h).1 (hall _ h)
      omega
    · have := inv.mle; omega
  have e : a = a1 := Act.ext_getD inv.ahead.asz inv.ahead.adf fun t => inv.ahead.agree t fun j hj hu => by
    rw [hall j (by omega)] at hu; cases hu
  have h := inv.wp
  rw [hm, List.drop_of_length_le (by simp)] at h
  rw [e]
  exact h

theorem phaseB (c : Ck ops N late) (hN : N ≤ ops.size) (hrng : ∀ j t, dstAt ops j = some t → t < a0.tmps.size) : ∀ (fuel : Nat) (l : Array Bool) (a : Act) (w : World) (a1 : Act) (m : Nat), a1.tmps.size = a0.tmps.size →
    InvB P ops N late Q l a w a1 m → left ops.size l ≤ fuel → wpAny P .any ops Q fuel l a w := by
  intro fuel
  induction fuel with
  | zero =>
    intro l a w a1 m hs inv hf
    have hall := left_zero (n := ops.size) (l := l) (by omega)
    refine ⟨?_, inv.done hall hN⟩
    refine List.eq_nil_iff_forall_not_mem.2 fun k hk => ?_
    obtain ⟨hu, _⟩ := mem_ready.1 hk
    obtain ⟨h1, h2⟩ := un_of_true hu
    rw [hall k (by rw [← inv.size]; exact h1)] at h2; cases h2
  | succ fuel ih =>
    intro l a w a1 m hs inv hf
    refine ⟨fun h0 => inv.done (fun j hj => ?_) hN, fun k hr => ?_⟩
    · cases hv : l.getD j false with
      | true => rfl
      | false =>
        obtain ⟨k, _, hk⟩ := first_ready c inv.size j j rfl hj hv
        rw [h0] at hk; cases hk
    · obtain ⟨hku, o, hk, hall⟩ := mem_ready.1 hr
      obtain ⟨hkl, hku⟩ := un_of_true hku
      have hks := size_of_some hk
      have hsz : a.tmps.size = a1.tmps.size := inv.ahead.asz
      -- the operation sees the same in both frames
      have hag : ∀ t ∈ o.looksAt ops, a.tmps.getD t undef = a1.tmps.getD t undef := fun t ht => inv.ahead.agree t fun j hj hu hd => by
        have hw := c.see k o hk t ht j hj hd (.inr (inv.lates j hj hu))
        obtain ⟨e, he, hb, hon⟩ := waitsFor_spec hw hk
        have := hall e he hb
        rw [hon, hu] at this; cases this
      have hle : left ops.size (l.setIfInBounds k true) ≤ fuel := by have := left_set (n := ops.size) hks hkl hku; omega
      have hclosed : ∀ j oj, ops[j]? = some oj → (l.setIfInBounds k true).getD j false = true → ∀ e ∈ oj.after, Region.binds .any e = true → (l.setIfInBounds k true).getD e.on false = true := fun j oj hj hl e he hbd => by
        rw [gets_true hkl] at hl ⊢
        rcases hl with rfl | hl
        · obtain rfl : oj = o := Option.some.inj (hj.symm.trans hk)
          exact .inr (hall e he hbd)
        · exact .inr (inv.closed j oj hj hl e he hbd)
      rcases Nat.lt_or_ge k N with hkN | hkN
      · -- one of those that may come up late
        have hlate := inv.lates k hkN hku
        have hfix := inv.ahead.fix k o hkN hk hku hlate
        have next : ∀ v, (∀ t, o.dst = some t → a1.tmps.getD t undef = v) → InvB P ops N late Q (l.setIfInBounds k true) (a.put o.dst v) w a1 m := fun v hv => by
          refine ⟨by simp [inv.size], hclosed, inv.mle, fun t ht hts => ?_, fun j hj hu => inv.lates j hj ((gets_false hkl).1 hu).2, ⟨(put_size a _ v).trans hsz, (put_defers a _ v).trans inv.ahead.adf, fun t ht => ?_, fun j oj hj hoj hu hjl => inv.ahead.fix j oj hj hoj ((gets_false hkl).1 hu).2 hjl⟩, inv.wp⟩
          · rw [gets_true hkl, ← inv.tail t ht hts]
            constructor
            · rintro (h | h)
              · omega
              · exact h
            · exact .inr
          · by_cases hd : o.dst = some t
            · rw [hd, put_getD_same a v (by rw [hsz, hs]; exact hrng k t (by rw [dstAt_some hk]; exact hd)), hv t hd]
            · rw [put_getD_ne a v hd]
              refine inv.ahead.agree t fun j hj hu => ?_
              by_cases hjk : j = k
              · subst hjk; rw [dstAt_some hk]; exact hd
              · exact ht j hj ((gets_false hkl).2 ⟨hjk, hu⟩)
        unfold wpOp
        simp only [hk]
        rw [wanted_congr hsz hag]
        split
        · rename_i hw
          rw [if_pos hw] at hfix
          obtain ⟨v, hv, hd⟩ := hfix
          refine .inl ?_
          have hv' : pureVal a.eval o.op = some v := (pureVal_congr (ops := ops) hag).trans hv
          unfold Oper.wp
          rw [pure_run hv']
          exact ih _ _ _ _ _ hs (next v hd) hle
        · rename_i hw
          rw [if_neg hw] at hfix
          exact ih _ _ _ _ _ hs (next undef hfix) hle
      · -- the next of the tail
        rcases c.tail with hNs | ⟨hNs, hsink, hch⟩
        · omega
        have hkm : k = N + m := by
          have h1 : ¬ k < N + m := fun h => by
            have := (inv.tail k hkN hks).2 h
            rw [this] at hku; cases hku
          rcases Nat.lt_or_ge (N + m) k with h | h
          · have h2 := List.all_eq_true.1 hch k (List.mem_range.2 hks)
            simp only [Bool.or_eq_true, decide_eq_true_eq] at h2
            rcases h2 with h2 | h2
            · omega
            · obtain ⟨e, he, hb, hon⟩ := waitsFor_spec h2 hk
              have h3 := hall e he hb
              rw [hon] at h3
              have := (inv.tail (k - 1) (by omega) (by omega)).1 h3
              omega
          · omega
        have hdrop : ops.toList.drop (N + m) = o :: ops.toList.drop (N + m + 1) := by
          have h1 : N + m < ops.toList.length := by simp; omega
          rw [List.drop_eq_getElem_cons h1]
          have : ops.toList[N + m] = o := by
            have h2 : ops[N + m]? = some o := by rw [← hkm]; exact hk
            simpa [h1] using (Array.getElem?_eq_some_iff.1 h2).2
          rw [this]
        have hwp := inv.wp
        rw [hdrop] at hwp
        unfold wpList at hwp
        have next : ∀ v w' (b b1 : Act), b.tmps = a.tmps → b1.tmps = a1.tmps → b.defers = b1.defers → wpList P ops (normalOnly Q) (ops.toList.drop (N + m + 1)) (b1.put o.dst v) w' → InvB P ops N late Q (l.setIfInBounds k true) (b.put o.dst v) w' (b1.put o.dst v) (m + 1) := fun v w' b b1 hb hb1 hbd hw' => by
          refine ⟨by simp [inv.size], hclosed, by omega, fun t ht hts => ?_, fun j hj hu => inv.lates j hj ((gets_false hkl).1 hu).2, ⟨by rw [put_size, put_size, hb, hb1]; exact hsz, by rw [put_defers, put_defers]; exact hbd, fun t ht => ?_, fun j oj hj hoj hu hjl => ?_⟩, hw'⟩
          · rw [gets_true hkl, inv.tail t ht hts]; omega
          · by_cases hd : o.dst = some t
            · have hr1 : t < a1.tmps.size := by rw [hs]; exact hrng k t (by rw [dstAt_some hk]; exact hd)
              rw [hd, put_getD_same b v (by rw [hb, hsz]; exact hr1), put_getD_same b1 v (by rw [hb1]; exact hr1)]
            · rw [put_getD_ne b v hd, put_getD_ne b1 v hd, hb, hb1]
              refine inv.ahead.agree t fun j hj hu => ht j hj ((gets_false hkl).2 ⟨by omega, hu⟩)
          · have hf := inv.ahead.fix j oj hj hoj ((gets_false hkl).1 hu).2 hjl
            obtain ⟨_, oj', hoj', _, hno⟩ := c.late j hjl
            obtain rfl : oj' = oj := Option.some.inj (hoj'.symm.trans hoj)
            have hne : ∀ t ∈ oj'.looksAt ops, (b1.put o.dst v).tmps.getD t undef = a1.tmps.getD t undef := fun t ht => by rw [put_getD_ne b1 v (by rw [← dstAt_some hk]; exact hno k hkN t ht), hb1]
            have hself : ∀ t, oj'.dst = some t → (b1.put o.dst v).tmps.getD t undef = a1.tmps.getD t undef := fun t ht => (put_getD_ne b1 v fun e => by
              have := c.dst j k t (by rw [dstAt_some hoj]; exact ht) (by rw [dstAt_some hk]; exact e)
              omega).trans (by rw [hb1])
            rw [wanted_congr ((put_size b1 _ v).trans (by rw [hb1])) hne]
            split
            · rename_i hw
              rw [if_pos hw] at hf
              obtain ⟨u, h1, h2⟩ := hf
              exact ⟨u, (pureVal_congr (ops := ops) hne).trans h1, fun t ht => (hself t ht).trans (h2 t ht)⟩
            · rename_i hw
              rw [if_neg hw] at hf
              exact fun t ht => (hself t ht).trans (hf t ht)
        have hs' : ∀ v, (a1.put o.dst v).tmps.size = a0.tmps.size := fun v => (put_size a1 _ v).trans hs
        have noLets : ¬ LetsOut (normalOnly Q) := by rintro ⟨_, _, h⟩; exact h
        unfold wpOp
        simp only [hk]
        rw [wanted_congr hsz hag]
        split
        · rename_i hw
          rw [if_pos hw] at hwp
          have hwp := hwp.resolve_right fun h => noLets h.2
          refine .inl ?_
          unfold Oper.wp at hwp ⊢
          rw [execOp_agree (ops := ops) (c.sel o (Array.mem_toList_iff.2 (Array.mem_of_getElem? hk))) hag]
          generalize (execOp a1.eval o).run P w = r at hwp ⊢
          cases r with
          | ok n w' =>
            cases n <;> simp only [Oper.upon] at hwp ⊢
            case value u => exact ih _ _ _ _ _ (hs' u) (next u w' a a1 rfl rfl inv.ahead.adf hwp) hle
            case skip => exact ih _ _ _ _ _ (hs' undef) (next undef w' a a1 rfl rfl inv.ahead.adf hwp) hle
            case enter f args =>
              refine hwp.mono fun e w'' he => ?_
              cases e with
              | returned u => exact ih _ _ _ _ _ (hs' u) (next u w'' a a1 rfl rfl inv.ahead.adf he) hle
              | panicked ch => exact he.elim
              | outgrown => exact (noLets he).elim
            case row row args => exact Rows.mono hwp fun u w'' he => ih _ _ _ _ _ (hs' u) (next u w'' a a1 rfl rfl inv.ahead.adf he) hle
            case defer d =>
              exact ih _ _ _ (({ a1 with defers := d :: a1.defers } : Act).put o.dst undef) _ ((put_size _ _ _).trans hs) (next undef w' { a with defers := d :: a.defers } { a1 with defers := d :: a1.defers } rfl rfl (by simp only [inv.ahead.adf]) hwp) hle
          | halt x w' =>
            cases x <;> simp only [Oper.upon] at hwp ⊢
            case panic u => exact hwp.elim
        · rename_i hw
          rw [if_neg hw] at hwp
          exact ih _ _ _ _ _ (hs' undef) (next undef w a a1 rfl rfl inv.ahead.adf hwp) hle

theorem phaseA (c : Ctx P ops w0 T N late a0 aL Q) (hN : N ≤ ops.size) : ∀ (fuel : Nat) (l : Array Bool) (a : Act) (w : World), InvA ops w0 T N a0 aL l a w → left ops.size l ≤ fuel → wpAny P .any ops Q fuel l a w := by
  -- all have come up
  have hdone : ∀ (l : Array Bool) (a : Act) (w : World), InvA ops w0 T N a0 aL l a w → (∀ j, j < ops.size → l.getD j false = true) → Q .normal a w := fun l a w inv hall => by
    have hNs : N = ops.size := by
      rcases Nat.lt_or_ge N ops.size with h | h
      · have h1 := inv.tail N (Nat.le_refl _)
        rw [hall N h] at h1; cases h1
      · omega
    obtain ⟨a1, ha, hs, hd, hk⟩ := fill c (left N l) l a rfl inv (fun j hj hu => by rw [hall j (by omega)] at hu; cases hu) hN
    have e : a = a1 := Act.ext_getD ha.asz ha.adf fun t => ha.agree t fun j hj hu => by rw [hall j (by omega)] at hu; cases hu
    have h := c.fin a1 ⟨w, inv.cls⟩ hs hd hk
    rw [List.drop_of_length_le (by simp; omega)] at h
    rw [e]
    exact h
  intro fuel
  induction fuel with
  | zero =>
    intro l a w inv hf
    have hall := left_zero (n := ops.size) (l := l) (by omega)
    refine ⟨?_, hdone l a w inv hall⟩
    refine List.eq_nil_iff_forall_not_mem.2 fun k hk => ?_
    obtain ⟨hu, _⟩ := mem_ready.1 hk
    obtain ⟨h1, h2⟩ := un_of_true hu
    rw [hall k (by rw [← inv.size]; exact h1)] at h2; cases h2
  | succ fuel ih =>
    intro l a w inv hf
    refine ⟨fun h0 => hdone l a w inv fun j hj => ?_, fun k hr => ?_⟩
    · cases hv : l.getD j false with
      | true => rfl
      | false =>
        obtain ⟨k, _, hk⟩ := first_ready c.ck inv.size j j rfl hj hv
        rw [h0] at hk; cases hk
    · obtain ⟨hku, o, hk, hall⟩ := mem_ready.1 hr
      obtain ⟨hkl, hku⟩ := un_of_true hku
      have hks := size_of_some hk
      rcases Nat.lt_or_ge k N with hkN | hkN
      · exact stepA c inv hkN hr fun a' w' inv' => ih _ _ _ inv' (by have := left_set (n := ops.size) hks hkl hku; omega)
      · rcases c.ck.tail with hNs | ⟨hNs, hsink, hch⟩
        · omega
        have hkN' : k = N := by
          rcases Nat.lt_or_ge N k with h | h
          · have h2 := List.all_eq_true.1 hch k (List.mem_range.2 hks)
            simp only [Bool.or_eq_true, decide_eq_true_eq] at h2
            rcases h2 with h2 | h2
            · omega
            · obtain ⟨e, he, hb, hon⟩ := waitsFor_spec h2 hk
              have h3 := hall e he hb
              rw [hon, inv.tail (k - 1) (by omega)] at h3; cases h3
          · omega
        have hlates : ∀ (d i : Nat), N - i = d → i < N → l.getD i false = false → i ∈ late := by
          intro d
          induction d using Nat.strongRecOn with
          | _ d ihd =>
            intro i hd hi hu
            rcases hsink i hi with h | ⟨j, hj, hij, hjl, hw⟩
            · exact h
            · exfalso
              by_cases hjN : j = N
              · obtain ⟨e, he, hb, hon⟩ := waitsFor_spec hw (by rw [hjN, ← hkN']; exact hk)
                have := hall e he hb
                rw [hon, hu] at this; cases this
              · cases hjv : l.getD j false with
                | true =>
                  cases hx : ops[j]? with
                  | none => simp [waitsFor, hx] at hw
                  | some oj =>
                    obtain ⟨e, he, hb, hon⟩ := waitsFor_spec hw hx
                    have := inv.closed j oj hx hjv e he hb
                    rw [hon, hu] at this; cases this
                | false => exact hjl (ihd (N - j) (by omega) j rfl (by omega) hjv)
        obtain ⟨a1, ha, hs, hd, hkn⟩ := fill c (left N l) l a rfl inv (fun j hj hu => hlates _ j rfl hj hu) hN
        have invB : InvB P ops N late Q l a w a1 0 := ⟨inv.size, inv.closed, by omega, fun t ht _ => by rw [inv.tail t ht]; exact ⟨fun h => (by cases h), fun h => absurd h (by omega)⟩, fun j hj hu => hlates _ j rfl hj hu, ha, c.fin a1 ⟨w, inv.cls⟩ hs hd hkn⟩
        exact (phaseB c.ck hN c.rng (fuel + 1) l a w a1 0 hs invB hf).2 k hr

/-- What is asked behind the head: of each temporary of which a fact alone is known, for whatever value. -/
def finT : List (Tmp × VRel) → (Act → World → Prop) → Act → World → Prop
  | [], K, a, w => K a w
  | (t, V) :: r, K, a, w => ∀ v, V v w → finT r K (a.put (some t) v) w

theorem finT_spec {K : Act → World → Prop} {a' : Act} {w : World} : ∀ (T : List (Tmp × VRel)) (a : Act), (T.map (·.1)).Nodup → finT T K a w → a'.tmps.size = a.tmps.size → a'.defers = a.defers → (∀ t, Knows T a a' w t) → K a' w
  | [], a, _, h, hs, hd, hk => by
    have : a' = a := Act.ext_getD hs hd fun t => hk t
    rw [this]; exact h
  | (t, V) :: r, a, hn, h, hs, hd, hk => by
    have hn' := List.nodup_cons.1 hn
    have hnt : look r t = none := by
      unfold look
      cases hf : r.find? (fun p => p.1 == t) with
      | none => rfl
      | some p =>
        have h1 := List.find?_some hf
        have h2 := List.mem_of_find?_eq_some hf
        exact absurd (List.mem_map.2 ⟨p, h2, by simpa using h1⟩) hn'.1
    have hlt : look ((t, V) :: r) t = some V := by simp [look]
    have hlo : ∀ u, u ≠ t → look ((t, V) :: r) u = look r u := fun u hu => by
      unfold look
      rw [List.find?_cons]
      have : (t == u) = false := by simp [Ne.symm hu]
      simp only [this]
    have hV := hk t
    unfold Knows at hV
    rw [hlt] at hV
    refine finT_spec r (a.put (some t) (a'.tmps.getD t undef)) hn'.2 (h _ hV) (hs.trans (put_size a _ _).symm) (hd.trans (put_defers a _ _).symm) fun u => ?_
    unfold Knows
    by_cases hu : u = t
    · subst hu
      rw [hnt]
      simp only
      by_cases hlt : u < a.tmps.size
      · rw [put_getD_same a _ hlt]
      · have h1 : a'.tmps[u]? = none := Array.getElem?_eq_none (by rw [hs]; exact Nat.le_of_not_lt hlt)
        have h2 : (a.put (some u) (a'.tmps.getD u undef)).tmps[u]? = none := Array.getElem?_eq_none (by rw [put_size]; exact Nat.le_of_not_lt hlt)
        simp only [Array.getD_eq_getD_getElem?, h1] at h2 ⊢
        rw [h2]
    · have h1 := hk u
      unfold Knows at h1
      rw [hlo u hu] at h1
      rw [put_getD_ne a _ (by intro e; exact hu (Option.some.inj e).symm)]
      exact h1

/-- **THE LAW.** N: where the forced tail begins; late: operations that look at no memory and may come up among the tail's; T, U: see Rel. -/
theorem wp_region_rel {id : Nat} {l : List Oper} (N : Nat) (late : List Nat) (T : List (Tmp × VRel)) (U : List (Tmp × Value)) (hm : P.follows .mixedOrders = true) (hck : ckAll l.toArray N late = true) (hN : N ≤ l.length)
    (hT : ckT l.toArray N T = true) (hn : (T.map (·.1)).Nodup) (hrng : (l.all fun o => match o.dst with | none => true | some t => decide (t < a.tmps.size)) = true)
    (hst : ∀ p ∈ T, ∀ v (w w' : World), Below w.heap.size w w' → p.2 v w → p.2 v w')
    (h : head P l.toArray w T U (fun aL => ∀ n : Aft w, finT T (fun a' w' => wpList P l.toArray (normalOnly Q) (l.drop N) a' w') aL n.W) (l.take N) a) : (Code.region id l.toArray true).wp P Q a w := by
  have c := ck_of hck
  have hrng' : ∀ o ∈ l, ∀ t, o.dst = some t → t < a.tmps.size := fun o ho t ht => by
    have := List.all_eq_true.1 hrng o ho
    simpa [ht] using this
  have hsz : (l.toArray : Array Oper).size = l.length := by simp
  obtain ⟨aL, hq, hs, hd, hun, hall⟩ := head_spec c.sel (l.take N) a (by simpa using c.lexOK) (fun o ho => hrng' o (List.mem_of_mem_take ho)) (fun o ho => by simpa using List.mem_of_mem_take ho) h
  have hlookT : ∀ t V, look T t = some V → ∃ p ∈ T, p.1 = t ∧ p.2 = V := fun t V hV => by
    unfold look at hV
    cases hf : T.find? (fun p => p.1 == t) with
    | none => simp [hf] at hV
    | some p =>
      rw [hf] at hV
      exact ⟨p, List.mem_of_find?_eq_some hf, by simpa using List.find?_some hf, by simpa using hV⟩
  have hin : ∀ j t, dstAt l.toArray j = some t → ∃ o, l[j]? = some o ∧ o.dst = some t := fun j t hj => by
    unfold dstAt at hj
    cases hx : l[j]? with
    | none => simp [hx] at hj
    | some o => exact ⟨o, rfl, by simpa [hx] using hj⟩
  have hctx : Ctx P l.toArray w T N late a aL Q :=
    { ck := c
      ckT := fun t V hV => by
        obtain ⟨p, hp, rfl, _⟩ := hlookT t V hV
        have h1 := List.all_eq_true.1 hT p hp
        obtain ⟨j, hj, hj2⟩ := List.any_eq_true.1 h1
        exact ⟨j, List.mem_range.1 hj, by simpa using hj2⟩
      stab := fun t V hV v w1 w2 hb hv => by
        obtain ⟨p, hp, _, rfl⟩ := hlookT t V hV
        exact hst p hp v w1 w2 hb hv
      rng := fun j t hj => by
        obtain ⟨o, ho, hd⟩ := hin j t hj
        exact hrng' o (List.mem_of_getElem? ho) t hd
      asz := hs
      adf := hd
      un := fun t ht => hun t fun o ho => by
        obtain ⟨j, hj⟩ := List.mem_iff_getElem?.1 ho
        rw [List.getElem?_take] at hj
        split at hj
        · rename_i hjN
          have := ht j hjN
          rwa [dstAt_some (by simpa using hj)] at this
        · cases hj
      spec := fun j o hj ho => hall o (List.mem_of_getElem? (i := j) (by rw [List.getElem?_take, if_pos hj]; simpa using ho))
      fin := fun a' n hs' hd' hk => by
        have := finT_spec T aL hn (hq n) (hs'.trans hs.symm) (hd'.trans hd.symm) hk
        simpa using this }
  refine wp_region_any hm (phaseA hctx (by simpa using hN) _ _ _ _ ⟨by simp, fun j o _ hl => ?_, fun t _ => ?_, rfl, rfl, ⟨rfl, rfl, rfl, Nat.le_refl _, fun _ _ => rfl⟩, fun _ _ => rfl, fun j o t _ _ hl => ?_⟩ ?_)
  · exfalso
    rcases Nat.lt_or_ge j (l.toArray : Array Oper).size with h | h
    · simp at h; simp [h] at hl
    · simp at h; simp [h] at hl
  · rcases Nat.lt_or_ge t (l.toArray : Array Oper).size with h | h
    · simp at h; simp [h]
    · simp at h; simp [h]
  · exfalso
    rcases Nat.lt_or_ge j (l.toArray : Array Oper).size with h | h
    · simp at h; simp [h] at hl
    · simp at h; simp [h] at hl
  · unfold left
    exact Nat.le_trans (List.length_filter_le _ _) (by simp)

end

/-! ### For the walk -/
@[simp] theorem below_refl_iff (B : Nat) (w : World) : Below B w w ↔ True := ⟨fun _ => trivial, fun _ => Below.refl _ _⟩
instance aftNonempty (w : World) : Nonempty (Aft w) := ⟨default⟩
theorem aft_cell {w : World} {b o : Nat} {v : Value} (h : w.cell? ⟨b, o, none⟩ = some v) : ∀ n : Aft w, n.W.cell? ⟨b, o, none⟩ = some v := fun n =>
  (n.ok.cell (p := ⟨b, o, none⟩) (block_lt_of_cell h)).trans h
theorem aft_heap {w : World} {b : Nat} {o : Obj} (h : w.heap[b]? = some o) : ∀ n : Aft w, n.W.heap[b]? = some o := fun n => by
  refine (n.ok.block b ?_).trans h
  rcases Nat.lt_or_ge b w.heap.size with h' | h'
  · exact h'
  · rw [Array.getElem?_eq_none h'] at h; cases h
section
variable {P : Program} {ops : Array Oper} {w0 : World} {T : List (Tmp × VRel)} {V : VRel} {o : Oper} {a : Act}
theorem relAt_plain0 (hg : o.guard = none) (h : ∀ (ρ : Operand → Value) (n : Aft w0), calmUpon P n.W V ((execOp ρ o).run P n.W)) : relAt P ops w0 T V o a := fun a' n _ _ => by
  rw [if_pos (by simp [Region.wanted, hg])]
  exact h a'.eval n
theorem relAt_plain1 (s : Tmp) {x : Value} (hg : o.guard = none) (hs : (o.looksAt ops).contains s = true) (hl : look T s = none) (hx : a.tmps.getD s undef = x)
    (h : ∀ (ρ : Operand → Value) (n : Aft w0), ρ (.tmp s) = x → calmUpon P n.W V ((execOp ρ o).run P n.W)) : relAt P ops w0 T V o a := fun a' n _ hk => by
  rw [if_pos (by simp [Region.wanted, hg])]
  refine h a'.eval n ?_
  have := hk s (by simpa using hs)
  unfold Knows at this
  rw [hl] at this
  rw [← hx]; exact this
theorem relAt_rel1 (s : Tmp) {V' : VRel} (hg : o.guard = none) (hs : (o.looksAt ops).contains s = true) (hl : look T s = some V')
    (h : ∀ (ρ : Operand → Value) (n : Aft w0), V' (ρ (.tmp s)) n.W → calmUpon P n.W V ((execOp ρ o).run P n.W)) : relAt P ops w0 T V o a := fun a' n _ hk => by
  rw [if_pos (by simp [Region.wanted, hg])]
  refine h a'.eval n ?_
  have := hk s (by simpa using hs)
  unfold Knows at this
  rw [hl] at this
  exact this
end
/-- A callee's contract, in a region. -/
theorem calm_call {P : Program} {f : FuncId} {args : Array Value} {w : World} {x : Value} (h : Calls P f args w fun e w' => e = .returned x ∧ Below w.heap.size w w') :
    Calls P f args w fun e w'' => ∃ v, e = .returned v ∧ v = x ∧ Below w.heap.size w w'' := h.mono fun _ _ ⟨he, hb⟩ => ⟨x, he, rfl, hb⟩
theorem calm_call_same {P : Program} {f : FuncId} {args : Array Value} {w : World} {x : Value} (h : Calls P f args w fun e w' => e = .returned x ∧ w = w') :
    Calls P f args w fun e w'' => ∃ v, e = .returned v ∧ v = x ∧ Below w.heap.size w w'' := h.mono fun _ _ ⟨he, hb⟩ => ⟨x, he, rfl, hb ▸ Below.refl _ _⟩
end Go.Proofs.YtdedanoelobdaaaDoor
