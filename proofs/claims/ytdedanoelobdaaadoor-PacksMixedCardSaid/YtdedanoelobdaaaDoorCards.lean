/-
  DERIVED. GIVEN WITH THE SEED: THE CARDS: each row of YtdedanoelobdaaaDoorRows.lean that lists a variable, with what it lists TIED to the program's text (the seventh form; the later family's looks); each row that meets fmt, with fmt's text TOLD by the authors' own Lean function (tested against real Go, not proved from fmt's source: count such statements apart). THE CARD IS WHAT COUNTS. Prove the row's statement (the work); the ties are given (YtdedanoelobdaaaDoorTie.lean); close each card by the builder's one call (the guide's Derived/Test/ToyasCard.lean, 'card_holds'). Laid BY PROGRAM, IN A SANDBOX (cutbox-door.mjs). By AI agents, Wed Nov 11 2026. No macro, syntax, notation, axiom, sorry.
-/
import Derived.Test.YtdedanoelobdaaaDoorRows
import GoSem.ClaimSeven
namespace Go.Proofs.YtdedanoelobdaaaDoor
namespace Rows

/-- THE TIED CARD OF 'sealingwaxlaw06.PacksMixed'. -/
def packsMixedCard : Claim7 := { stood := { row := packsMixedRow, standIns := [], harness := (true, "d8562c30735e5d9c0573f07810442a70ec5261085b1155b49d0ff2afdfc38dd1"), looks := true }, kinds := [], alts := [], laidByText := true, laidKinds := [.data], laidTests := true, laidLooks := .later }
def PacksMixedCardSaid : Prop := Claim7.holds Tryd.pinned (.plain (OpenSpec.ofChange packsMixedSpec)) packsMixedCard

/-- THE TIED CARD OF 'sealingwaxlaw18.SealsFields'. -/
def sealsFieldsCard : Claim7 := { stood := { row := sealsFieldsRow, standIns := [], harness := (true, "d8562c30735e5d9c0573f07810442a70ec5261085b1155b49d0ff2afdfc38dd1"), looks := true }, kinds := [], alts := [], laidByText := true, laidKinds := [.data, .data, .data], laidTests := true, laidLooks := .later }
def SealsFieldsCardSaid : Prop := Claim7.holds Tryd.pinned (.plain (OpenSpec.ofChange sealsFieldsSpec)) sealsFieldsCard

/-- THE TIED CARD OF 'sealingwaxlaw18.SealsBytes'. -/
def sealsBytesCard : Claim7 := { stood := { row := sealsBytesRow, standIns := [], harness := (true, "d8562c30735e5d9c0573f07810442a70ec5261085b1155b49d0ff2afdfc38dd1"), looks := true }, kinds := [], alts := [], laidByText := true, laidKinds := [.data, .data, .data, .data], laidTests := true, laidLooks := .later }
def SealsBytesCardSaid : Prop := Claim7.holds Tryd.pinned (.plain (OpenSpec.ofChange sealsBytesSpec)) sealsBytesCard

/-- THE TIED CARD OF 'sealingwaxlaw18.SealsBack'. -/
def sealsBackCard : Claim7 := { stood := { row := sealsBackRow, standIns := [], harness := (true, "d8562c30735e5d9c0573f07810442a70ec5261085b1155b49d0ff2afdfc38dd1"), looks := true }, kinds := [], alts := [], laidByText := true, laidKinds := [.data, .data, .data], laidTests := true, laidLooks := .later }
def SealsBackCardSaid : Prop := Claim7.holds Tryd.pinned (.plain (OpenSpec.ofChange sealsBackSpec)) sealsBackCard

/-- THE TIED CARD OF 'sealingwaxlaw18.SealsTorn'. -/
def sealsTornCard : Claim7 := { stood := { row := sealsTornRow, standIns := [], harness := (true, "d8562c30735e5d9c0573f07810442a70ec5261085b1155b49d0ff2afdfc38dd1"), looks := true }, kinds := [], alts := [], laidByText := true, laidKinds := [.data, .data, .data], laidTests := true, laidLooks := .later }
def SealsTornCardSaid : Prop := Claim7.holds Tryd.pinned (.plain (OpenSpec.ofChange sealsTornSpec)) sealsTornCard

/-- THE TIED CARD OF 'sealingwaxlaw18.SealsBits'. -/
def sealsBitsCard : Claim7 := { stood := { row := sealsBitsRow, standIns := [], harness := (true, "d8562c30735e5d9c0573f07810442a70ec5261085b1155b49d0ff2afdfc38dd1"), looks := true }, kinds := [], alts := [], laidByText := true, laidKinds := [.data, .data, .data], laidTests := true, laidLooks := .later }
def SealsBitsCardSaid : Prop := Claim7.holds Tryd.pinned (.plain (OpenSpec.ofChange sealsBitsSpec)) sealsBitsCard

/-- THE TIED CARD OF 'sealingwaxlaw05.FramesCrash'. -/
def framesCrashCard : Claim7 := { stood := { row := framesCrashRow, standIns := [], harness := (true, "d8562c30735e5d9c0573f07810442a70ec5261085b1155b49d0ff2afdfc38dd1"), looks := true }, kinds := [], alts := [], laidByText := true, laidKinds := [.data], laidTests := true, laidLooks := .later }
def FramesCrashCardSaid : Prop := Claim7.holds Tryd.pinned (.plain (OpenSpec.ofChange framesCrashSpec)) framesCrashCard

/-- THE TIED CARD OF 'sealingwaxlaw19.PlansMake'. -/
def plansMakeCard : Claim7 := { stood := { row := plansMakeRow, standIns := [], harness := (true, "d8562c30735e5d9c0573f07810442a70ec5261085b1155b49d0ff2afdfc38dd1"), looks := true }, kinds := [], alts := [], laidByText := true, laidKinds := [.data, .data, .data, .data], laidTests := true, laidLooks := .later }
def PlansMakeCardSaid : Prop := Claim7.holds Tryd.pinned (.plain (OpenSpec.ofChange plansMakeSpec)) plansMakeCard

/-- THE TIED CARD OF 'sealingwaxlaw19.PlansAnywhere'. -/
def plansAnywhereCard : Claim7 := { stood := { row := plansAnywhereRow, standIns := [], harness := (true, "d8562c30735e5d9c0573f07810442a70ec5261085b1155b49d0ff2afdfc38dd1"), looks := true }, kinds := [], alts := [], laidByText := true, laidKinds := [.data, .data, .data], laidTests := true, laidLooks := .later }
def PlansAnywhereCardSaid : Prop := Claim7.holds Tryd.pinned (.plain (OpenSpec.ofChange plansAnywhereSpec)) plansAnywhereCard

/-- THE TIED CARD OF 'sealingwaxlaw19.PlansMore'. -/
def plansMoreCard : Claim7 := { stood := { row := plansMoreRow, standIns := [], harness := (true, "d8562c30735e5d9c0573f07810442a70ec5261085b1155b49d0ff2afdfc38dd1"), looks := true }, kinds := [], alts := [], laidByText := true, laidKinds := [.data, .data, .data], laidTests := true, laidLooks := .later }
def PlansMoreCardSaid : Prop := Claim7.holds Tryd.pinned (.plain (OpenSpec.ofChange plansMoreSpec)) plansMoreCard

/-- THE TIED CARD OF 'sealingwaxlaw19.PlansBytes'. -/
def plansBytesCard : Claim7 := { stood := { row := plansBytesRow, standIns := [], harness := (true, "d8562c30735e5d9c0573f07810442a70ec5261085b1155b49d0ff2afdfc38dd1"), looks := true }, kinds := [], alts := [], laidByText := true, laidKinds := [.data, .data, .data], laidTests := true, laidLooks := .later }
def PlansBytesCardSaid : Prop := Claim7.holds Tryd.pinned (.plain (OpenSpec.ofChange plansBytesSpec)) plansBytesCard

/-- THE TIED CARD OF 'sealingwaxlaw19.PlansHold'. -/
def plansHoldCard : Claim7 := { stood := { row := plansHoldRow, standIns := [], harness := (true, "d8562c30735e5d9c0573f07810442a70ec5261085b1155b49d0ff2afdfc38dd1"), looks := true }, kinds := [], alts := [], laidByText := true, laidKinds := [.data, .data, .data], laidTests := true, laidLooks := .later }
def PlansHoldCardSaid : Prop := Claim7.holds Tryd.pinned (.plain (OpenSpec.ofChange plansHoldSpec)) plansHoldCard

/-- THE SECOND FORM's CARD OF 'sealingwaxlaw06.PacksMixed'. -/
def packsMixedUptoCard : Claim7 := { stood := { row := packsMixedUptoRow, standIns := [], harness := (true, "d8562c30735e5d9c0573f07810442a70ec5261085b1155b49d0ff2afdfc38dd1"), looks := true }, kinds := [], alts := [], laidByText := true, laidKinds := [.data], laidTests := true, laidLooks := .later }
def PacksMixedUptoCardSaid : Prop := Claim7.holds Tryd.pinned (.plain (OpenSpec.upto packsMixedSpec)) packsMixedUptoCard

/-- THE SECOND FORM's CARD OF 'sealingwaxlaw18.SealsFields'. -/
def sealsFieldsUptoCard : Claim7 := { stood := { row := sealsFieldsUptoRow, standIns := [], harness := (true, "d8562c30735e5d9c0573f07810442a70ec5261085b1155b49d0ff2afdfc38dd1"), looks := true }, kinds := [], alts := [], laidByText := true, laidKinds := [.data, .data, .data], laidTests := true, laidLooks := .later }
def SealsFieldsUptoCardSaid : Prop := Claim7.holds Tryd.pinned (.plain (OpenSpec.upto sealsFieldsSpec)) sealsFieldsUptoCard

/-- THE SECOND FORM's CARD OF 'sealingwaxlaw18.SealsBytes'. -/
def sealsBytesUptoCard : Claim7 := { stood := { row := sealsBytesUptoRow, standIns := [], harness := (true, "d8562c30735e5d9c0573f07810442a70ec5261085b1155b49d0ff2afdfc38dd1"), looks := true }, kinds := [], alts := [], laidByText := true, laidKinds := [.data, .data, .data, .data], laidTests := true, laidLooks := .later }
def SealsBytesUptoCardSaid : Prop := Claim7.holds Tryd.pinned (.plain (OpenSpec.upto sealsBytesSpec)) sealsBytesUptoCard

/-- THE SECOND FORM's CARD OF 'sealingwaxlaw18.SealsBack'. -/
def sealsBackUptoCard : Claim7 := { stood := { row := sealsBackUptoRow, standIns := [], harness := (true, "d8562c30735e5d9c0573f07810442a70ec5261085b1155b49d0ff2afdfc38dd1"), looks := true }, kinds := [], alts := [], laidByText := true, laidKinds := [.data, .data, .data], laidTests := true, laidLooks := .later }
def SealsBackUptoCardSaid : Prop := Claim7.holds Tryd.pinned (.plain (OpenSpec.upto sealsBackSpec)) sealsBackUptoCard

/-- THE SECOND FORM's CARD OF 'sealingwaxlaw18.SealsTorn'. -/
def sealsTornUptoCard : Claim7 := { stood := { row := sealsTornUptoRow, standIns := [], harness := (true, "d8562c30735e5d9c0573f07810442a70ec5261085b1155b49d0ff2afdfc38dd1"), looks := true }, kinds := [], alts := [], laidByText := true, laidKinds := [.data, .data, .data], laidTests := true, laidLooks := .later }
def SealsTornUptoCardSaid : Prop := Claim7.holds Tryd.pinned (.plain (OpenSpec.upto sealsTornSpec)) sealsTornUptoCard

/-- THE SECOND FORM's CARD OF 'sealingwaxlaw18.SealsBits'. -/
def sealsBitsUptoCard : Claim7 := { stood := { row := sealsBitsUptoRow, standIns := [], harness := (true, "d8562c30735e5d9c0573f07810442a70ec5261085b1155b49d0ff2afdfc38dd1"), looks := true }, kinds := [], alts := [], laidByText := true, laidKinds := [.data, .data, .data], laidTests := true, laidLooks := .later }
def SealsBitsUptoCardSaid : Prop := Claim7.holds Tryd.pinned (.plain (OpenSpec.upto sealsBitsSpec)) sealsBitsUptoCard

/-- THE SECOND FORM's CARD OF 'sealingwaxlaw05.FramesCrash'. -/
def framesCrashUptoCard : Claim7 := { stood := { row := framesCrashUptoRow, standIns := [], harness := (true, "d8562c30735e5d9c0573f07810442a70ec5261085b1155b49d0ff2afdfc38dd1"), looks := true }, kinds := [], alts := [], laidByText := true, laidKinds := [.data], laidTests := true, laidLooks := .later }
def FramesCrashUptoCardSaid : Prop := Claim7.holds Tryd.pinned (.plain (OpenSpec.upto framesCrashSpec)) framesCrashUptoCard

/-- THE SECOND FORM's CARD OF 'sealingwaxlaw19.PlansMake'. -/
def plansMakeUptoCard : Claim7 := { stood := { row := plansMakeUptoRow, standIns := [], harness := (true, "d8562c30735e5d9c0573f07810442a70ec5261085b1155b49d0ff2afdfc38dd1"), looks := true }, kinds := [], alts := [], laidByText := true, laidKinds := [.data, .data, .data, .data], laidTests := true, laidLooks := .later }
def PlansMakeUptoCardSaid : Prop := Claim7.holds Tryd.pinned (.plain (OpenSpec.upto plansMakeSpec)) plansMakeUptoCard

/-- THE SECOND FORM's CARD OF 'sealingwaxlaw19.PlansAnywhere'. -/
def plansAnywhereUptoCard : Claim7 := { stood := { row := plansAnywhereUptoRow, standIns := [], harness := (true, "d8562c30735e5d9c0573f07810442a70ec5261085b1155b49d0ff2afdfc38dd1"), looks := true }, kinds := [], alts := [], laidByText := true, laidKinds := [.data, .data, .data], laidTests := true, laidLooks := .later }
def PlansAnywhereUptoCardSaid : Prop := Claim7.holds Tryd.pinned (.plain (OpenSpec.upto plansAnywhereSpec)) plansAnywhereUptoCard

/-- THE SECOND FORM's CARD OF 'sealingwaxlaw19.PlansMore'. -/
def plansMoreUptoCard : Claim7 := { stood := { row := plansMoreUptoRow, standIns := [], harness := (true, "d8562c30735e5d9c0573f07810442a70ec5261085b1155b49d0ff2afdfc38dd1"), looks := true }, kinds := [], alts := [], laidByText := true, laidKinds := [.data, .data, .data], laidTests := true, laidLooks := .later }
def PlansMoreUptoCardSaid : Prop := Claim7.holds Tryd.pinned (.plain (OpenSpec.upto plansMoreSpec)) plansMoreUptoCard

/-- THE SECOND FORM's CARD OF 'sealingwaxlaw19.PlansBytes'. -/
def plansBytesUptoCard : Claim7 := { stood := { row := plansBytesUptoRow, standIns := [], harness := (true, "d8562c30735e5d9c0573f07810442a70ec5261085b1155b49d0ff2afdfc38dd1"), looks := true }, kinds := [], alts := [], laidByText := true, laidKinds := [.data, .data, .data], laidTests := true, laidLooks := .later }
def PlansBytesUptoCardSaid : Prop := Claim7.holds Tryd.pinned (.plain (OpenSpec.upto plansBytesSpec)) plansBytesUptoCard

/-- THE SECOND FORM's CARD OF 'sealingwaxlaw19.PlansHold'. -/
def plansHoldUptoCard : Claim7 := { stood := { row := plansHoldUptoRow, standIns := [], harness := (true, "d8562c30735e5d9c0573f07810442a70ec5261085b1155b49d0ff2afdfc38dd1"), looks := true }, kinds := [], alts := [], laidByText := true, laidKinds := [.data, .data, .data], laidTests := true, laidLooks := .later }
def PlansHoldUptoCardSaid : Prop := Claim7.holds Tryd.pinned (.plain (OpenSpec.upto plansHoldSpec)) plansHoldUptoCard
end Rows
end Go.Proofs.YtdedanoelobdaaaDoor
