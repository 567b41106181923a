/-
  DERIVED. GIVEN WITH THE SEED: THE PROGRAM's TIES (one call each: nine closed facts by the kernel) AND EACH ROW's TIE, after the 31st guide's Derived/Test/Toyas{Tie, Card}.lean. No idea stands in it: it is a product of the set-up. Laid BY PROGRAM, IN A SANDBOX (cutbox-door.mjs). By AI agents, Wed Nov 11 2026. No macro, syntax, notation, axiom, sorry.
-/
import Derived.Test.YtdedanoelobdaaaDoorRows
import Derived.LaidByTextLater
import Derived.SevenTiedAt
import Derived.LaidSub
import Derived.LaidOnce
namespace Go.Proofs.YtdedanoelobdaaaDoor
open Go
set_option maxRecDepth 100000
theorem seatTie1 : Tryd.prog.laidByTextLater [("sealingwax/sums.table", Rows.laid_sealingwax_sums_table), ("sealingwax/sealingwaxref02.k", Rows.laid_sealingwax_sealingwaxref02_k), ("sealingwax/sha.table", Rows.laid_sealingwax_sha_table), ("sealingwax/sha.begin", Rows.laid_sealingwax_sha_begin)] [.data, .data, .data, .data] true :=
  Program.laidByTextLater_by_one 29 8 65 (by kernel_rfl) (by kernel_rfl) (by kernel_rfl) (by kernel_rfl) (by kernel_rfl) (by kernel_rfl) (fun _ _ => by kernel_rfl)
theorem noOwnUnsafe : Tryd.pinned.checked.prog.headLifts.contains "ownunsafe" = false := by kernel_rfl
theorem tie : Tryd.prog.laidByTextLater [("sealingwax/sums.table", Rows.laid_sealingwax_sums_table)] [.data] true :=
  Program.laidByTextLater.sub seatTie1 ["sealingwax/sums.table"] (by kernel_rfl) (by kernel_rfl)
theorem packsMixed_row_tie : Rows.packsMixedRow.laidByTextAt .later Tryd.pinned [.data] true :=
  OpenClaim.laidByTextAt_later rfl rfl tie noOwnUnsafe
theorem framesCrash_row_tie : Rows.framesCrashRow.laidByTextAt .later Tryd.pinned [.data] true :=
  OpenClaim.laidByTextAt_later rfl rfl tie noOwnUnsafe
theorem tie2 : Tryd.prog.laidByTextLater [("sealingwax/sums.table", Rows.laid_sealingwax_sums_table), ("sealingwax/sha.table", Rows.laid_sealingwax_sha_table), ("sealingwax/sha.begin", Rows.laid_sealingwax_sha_begin)] [.data, .data, .data] true :=
  Program.laidByTextLater.sub seatTie1 ["sealingwax/sums.table", "sealingwax/sha.table", "sealingwax/sha.begin"] (by kernel_rfl) (by kernel_rfl)
theorem sealsFields_row_tie : Rows.sealsFieldsRow.laidByTextAt .later Tryd.pinned [.data, .data, .data] true :=
  OpenClaim.laidByTextAt_later rfl rfl tie2 noOwnUnsafe
theorem sealsBack_row_tie : Rows.sealsBackRow.laidByTextAt .later Tryd.pinned [.data, .data, .data] true :=
  OpenClaim.laidByTextAt_later rfl rfl tie2 noOwnUnsafe
theorem sealsTorn_row_tie : Rows.sealsTornRow.laidByTextAt .later Tryd.pinned [.data, .data, .data] true :=
  OpenClaim.laidByTextAt_later rfl rfl tie2 noOwnUnsafe
theorem sealsBits_row_tie : Rows.sealsBitsRow.laidByTextAt .later Tryd.pinned [.data, .data, .data] true :=
  OpenClaim.laidByTextAt_later rfl rfl tie2 noOwnUnsafe
theorem plansAnywhere_row_tie : Rows.plansAnywhereRow.laidByTextAt .later Tryd.pinned [.data, .data, .data] true :=
  OpenClaim.laidByTextAt_later rfl rfl tie2 noOwnUnsafe
theorem plansMore_row_tie : Rows.plansMoreRow.laidByTextAt .later Tryd.pinned [.data, .data, .data] true :=
  OpenClaim.laidByTextAt_later rfl rfl tie2 noOwnUnsafe
theorem plansBytes_row_tie : Rows.plansBytesRow.laidByTextAt .later Tryd.pinned [.data, .data, .data] true :=
  OpenClaim.laidByTextAt_later rfl rfl tie2 noOwnUnsafe
theorem plansHold_row_tie : Rows.plansHoldRow.laidByTextAt .later Tryd.pinned [.data, .data, .data] true :=
  OpenClaim.laidByTextAt_later rfl rfl tie2 noOwnUnsafe
theorem tie3 : Tryd.prog.laidByTextLater [("sealingwax/sums.table", Rows.laid_sealingwax_sums_table), ("sealingwax/sealingwaxref02.k", Rows.laid_sealingwax_sealingwaxref02_k), ("sealingwax/sha.table", Rows.laid_sealingwax_sha_table), ("sealingwax/sha.begin", Rows.laid_sealingwax_sha_begin)] [.data, .data, .data, .data] true :=
  Program.laidByTextLater.sub seatTie1 ["sealingwax/sums.table", "sealingwax/sealingwaxref02.k", "sealingwax/sha.table", "sealingwax/sha.begin"] (by kernel_rfl) (by kernel_rfl)
theorem sealsBytes_row_tie : Rows.sealsBytesRow.laidByTextAt .later Tryd.pinned [.data, .data, .data, .data] true :=
  OpenClaim.laidByTextAt_later rfl rfl tie3 noOwnUnsafe
theorem plansMake_row_tie : Rows.plansMakeRow.laidByTextAt .later Tryd.pinned [.data, .data, .data, .data] true :=
  OpenClaim.laidByTextAt_later rfl rfl tie3 noOwnUnsafe
theorem packsMixedUpto_row_tie : Rows.packsMixedUptoRow.laidByTextAt .later Tryd.pinned [.data] true :=
  OpenClaim.laidByTextAt_later rfl rfl tie noOwnUnsafe
theorem sealsFieldsUpto_row_tie : Rows.sealsFieldsUptoRow.laidByTextAt .later Tryd.pinned [.data, .data, .data] true :=
  OpenClaim.laidByTextAt_later rfl rfl tie2 noOwnUnsafe
theorem sealsBytesUpto_row_tie : Rows.sealsBytesUptoRow.laidByTextAt .later Tryd.pinned [.data, .data, .data, .data] true :=
  OpenClaim.laidByTextAt_later rfl rfl tie3 noOwnUnsafe
theorem sealsBackUpto_row_tie : Rows.sealsBackUptoRow.laidByTextAt .later Tryd.pinned [.data, .data, .data] true :=
  OpenClaim.laidByTextAt_later rfl rfl tie2 noOwnUnsafe
theorem sealsTornUpto_row_tie : Rows.sealsTornUptoRow.laidByTextAt .later Tryd.pinned [.data, .data, .data] true :=
  OpenClaim.laidByTextAt_later rfl rfl tie2 noOwnUnsafe
theorem sealsBitsUpto_row_tie : Rows.sealsBitsUptoRow.laidByTextAt .later Tryd.pinned [.data, .data, .data] true :=
  OpenClaim.laidByTextAt_later rfl rfl tie2 noOwnUnsafe
theorem framesCrashUpto_row_tie : Rows.framesCrashUptoRow.laidByTextAt .later Tryd.pinned [.data] true :=
  OpenClaim.laidByTextAt_later rfl rfl tie noOwnUnsafe
theorem plansMakeUpto_row_tie : Rows.plansMakeUptoRow.laidByTextAt .later Tryd.pinned [.data, .data, .data, .data] true :=
  OpenClaim.laidByTextAt_later rfl rfl tie3 noOwnUnsafe
theorem plansAnywhereUpto_row_tie : Rows.plansAnywhereUptoRow.laidByTextAt .later Tryd.pinned [.data, .data, .data] true :=
  OpenClaim.laidByTextAt_later rfl rfl tie2 noOwnUnsafe
theorem plansMoreUpto_row_tie : Rows.plansMoreUptoRow.laidByTextAt .later Tryd.pinned [.data, .data, .data] true :=
  OpenClaim.laidByTextAt_later rfl rfl tie2 noOwnUnsafe
theorem plansBytesUpto_row_tie : Rows.plansBytesUptoRow.laidByTextAt .later Tryd.pinned [.data, .data, .data] true :=
  OpenClaim.laidByTextAt_later rfl rfl tie2 noOwnUnsafe
theorem plansHoldUpto_row_tie : Rows.plansHoldUptoRow.laidByTextAt .later Tryd.pinned [.data, .data, .data] true :=
  OpenClaim.laidByTextAt_later rfl rfl tie2 noOwnUnsafe
end Go.Proofs.YtdedanoelobdaaaDoor
