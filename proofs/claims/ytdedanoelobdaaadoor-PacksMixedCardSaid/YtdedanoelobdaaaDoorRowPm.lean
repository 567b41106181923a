/- WHAT THIS FILE PROVES: sealingwaxlaw06.PacksMixed answers true at every two texts, and changes neither: the given card. Conditions: those that the row's sentence prints (the table of sums.table lies as the text lays it). -/
import Derived.Test.YtdedanoelobdaaaDoorRowLaw
import Derived.Test.YtdedanoelobdaaaDoorMixed
import Derived.Test.YtdedanoelobdaaaDoorCards
import Derived.Test.YtdedanoelobdaaaDoorTie
namespace Go.Proofs.YtdedanoelobdaaaDoor
open Go.ChangeShapes Go.WideShapes Go.ChangeAt Go.RowKit
open Go.ChangeMaps (open_string)

theorem own : ownKnob Tryd.prog.godebug = none := by kernel_rfl
theorem sumsG : Tryd.prog.globalNamed "sealingwax/sums.table" = some 3 := by kernel_rfl
theorem tabIn_of (zs : List Int) (hz : zs.map (Value.int .u32) = crcTab.map fun (n : Nat) => Value.int .u32 (n : Int)) {W : World} {rest : List (String × DataW Unit)} (h : laidMet Tryd.prog (("sealingwax/sums.table", Lib.tabData .u32 zs) :: rest) W) : TabIn W := by
  have ht : ∃ t n e, (Tryd.prog.globals[3]?).map (·.type) = some t ∧ Tryd.prog.underlying t = some (.array n e) ∧ Tryd.prog.underlying e = some (.int .u32) ∧ Tryd.prog.cellsOf e = 1 ∧ Tryd.prog.cellsOf t = n := by
    refine ⟨208, 16, 168, by kernel_rfl, by kernel_rfl, by kernel_rfl, by kernel_rfl, by kernel_rfl⟩
  obtain ⟨t, n, e, h1, h2, h3, h4, h5⟩ := ht
  have := Lib.tabIs_of_head sumsG h1 h2 h3 h4 h5 h
  unfold Lib.TabIs World.var? at this
  rw [sumsG] at this
  simp only [Option.bind_some] at this
  split at this
  · rename_i cs t' fr hh
    refine ⟨t', fr, ?_⟩
    rw [hh, ← hz]
    simp only [Option.some.injEq] at this
    rw [this]
  · cases this

theorem laidOut : laidOutB Tryd.prog = true := by kernel_rfl
theorem uBool : Tryd.prog.underlying 4 = some .bool := by kernel_rfl

set_option maxRecDepth 100000 in
theorem pm_lifted (os : Os) (started : os.Started) (H : Type) (enc : TypeId × Value → H) :
    ReturnsInHanded {} Tryd.checked os 3 .any (fun w args => (Rows.packsMixedSpec.pre enc Tryd.prog Tryd.f3 [] false w args ∧ laidMetH Tryd.prog Rows.packsMixedRow.laid w) ∧ sizedMet enc Tryd.prog Tryd.f3 (OpenSpec.ofChange Rows.packsMixedSpec) false w args)
      (Rows.packsMixedSpec.post enc Tryd.prog Tryd.f3 false true false false) := by
  refine returnsInHanded_of_change_and (C := Tryd.checked) (X := fun w _ => laidMetH Tryd.prog Rows.packsMixedRow.laid w) (fun _ _ _ hh h => h.of_heap hh) own started (by kernel_rfl) Tryd.func3
    (ChangeSpec.witness_shaped (enc := enc) (C := Tryd.checked) (os := os) (X := fun w _ => laidMetH Tryd.prog Rows.packsMixedRow.laid w) false (World.laidAll Tryd.prog os Rows.packsMixedRow.laid) #[.string ⟨#[]⟩, .string ⟨#[]⟩] 8 (World.laidAll_os _ _ _)
      (World.shaped_of_ZipB (by kernel_rfl) (by kernel_rfl)) (by kernel_rfl) (by kernel_rfl) (by kernel_rfl)
      (by rw [MakeChecks.laidMetH_plain _ _ _ (by kernel_rfl)]; exact laidMet_laidAll _ (by kernel_rfl) (by kernel_rfl))) ?_
  intro W base args ds gs before hval0 hW _ _ hL _
  have hval : ∀ (j : Nat) t v, Tryd.f3.params[j]? = some t → args[j]? = some v → Value.okWide Tryd.prog W .any base t v := hval0
  have hW' := hW
  obtain ⟨p, q, hA0, hV, rfl, _, _⟩ := hW
  have hA : DataW.TrodAll enc Tryd.prog W 0 (fun _ => true) true Tryd.f3.params.toList args.toList ds p := hA0
  rw [Tryd.params3] at hA hval
  obtain ⟨v0, v1, d0, d1, p0, p1, rfl, rfl, rfl, h0, h1⟩ := trodAll_two hA
  obtain ⟨rfl, rfl⟩ := trodVars_none hV
  obtain ⟨s0, rfl, rfl, rfl, w0⟩ := open_string uStr (hval 0 9 v0 rfl rfl) h0
  obtain ⟨s1, rfl, rfl, rfl, w1⟩ := open_string uStr (hval 1 9 v1 rfl rfl) h1
  have hT : TabIn W := by
    rw [MakeChecks.laidMetH_plain _ _ _ (by kernel_rfl)] at hL
    exact tabIn_of (crcTab.map fun (n : Nat) => (n : Int)) (by simp [Function.comp_def]) (rest := []) hL
  refine (show Calls Tryd.prog 3 #[.string s0, .string s1] W (Ret W (.bool true)) by
    have := mixed_any s0.data.toList s1.data.toList W hT
    rwa [S_eta, S_eta] at this).mono ?_
  rintro e W' ⟨rfl, hb⟩
  exact ⟨_, rfl, law_post laidOut (by kernel_rfl) (by kernel_rfl) uBool rfl rfl hW' hb⟩

theorem pm_holds : Rows.PacksMixedSaid :=
  OpenClaim.holds_of_wide 3 Tryd.f3 rfl rfl rfl rfl rfl rfl rfl ⟨rfl, rfl, rfl, rfl, rfl⟩ rfl rfl rfl rfl rfl (by kernel_rfl) Tryd.func3 (by kernel_rfl)
    (of_decide_eq_true (by kernel_rfl)) (by unfold Func.isWrapper; first | (rw [if_pos (by decide +kernel)]; kernel_rfl) | (rw [if_neg (by decide +kernel)]; exact ⟨rfl, rfl⟩))
    (fun os started H enc _ => pm_lifted os started H enc)

theorem pm_card : Rows.PacksMixedCardSaid :=
  Claim7.holds_tied_plain_at .later [] [.data] true (true, "d8562c30735e5d9c0573f07810442a70ec5261085b1155b49d0ff2afdfc38dd1") true
    pm_holds (fun _ h => by cases h) (by kernel_rfl) (fun _ h => by cases h) packsMixed_row_tie rfl ⟨rfl, rfl⟩ (by kernel_rfl) rfl
    (fun f fn hf hfn => by
      obtain rfl : f = 3 := Option.some.inj ((show Tryd.prog.funcNamed "sealingwax/sealingwaxlaw06.PacksMixed" = some 3 by kernel_rfl).symm.trans hf) |>.symm
      obtain rfl : fn = Tryd.f3 := (Option.some.inj (Tryd.func3.symm.trans hfn)).symm
      exact ⟨by kernel_rfl, fun j t ht => by
        rw [Tryd.params3] at ht
        have hm : t ∈ [9, 9] := by simpa using Array.mem_of_getElem? ht
        have hall : ([9, 9].all fun u => !Tryd.prog.wantsStandIn u) = true := by kernel_rfl
        exact (show Tryd.prog.wantsStandIn t = false by simpa using List.all_eq_true.1 hall t hm)⟩)
    (by kernel_rfl)
#print axioms pm_card
end Go.Proofs.YtdedanoelobdaaaDoor
