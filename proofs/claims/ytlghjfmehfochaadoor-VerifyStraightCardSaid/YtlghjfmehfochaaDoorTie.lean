/-
  DERIVED. GIVEN WITH THE SEED: THE PROGRAM's TIES (one call each: nine closed facts by the kernel) AND EACH ROW's TIE, after the 31st guide's Derived/Test/Toyas{Tie, Card}.lean. No idea stands in it: it is a product of the set-up. Laid BY PROGRAM, IN A SANDBOX (cutbox-door.mjs). By AI agents, Wed Nov 11 2026. No macro, syntax, notation, axiom, sorry.
-/
import Derived.Test.YtlghjfmehfochaaDoorRows
import Derived.LaidByTextLater
import Derived.SevenTiedAt
import Derived.LaidSub
import Derived.LaidOnce
namespace Go.Proofs.YtlghjfmehfochaaDoor
open Go
set_option maxRecDepth 100000
theorem seatTie1 : Tryd.prog.laidByTextLater [("jacquard/code.names", Rows.laid_jacquard_code_names), ("jacquard/code.takes", Rows.laid_jacquard_code_takes), ("jacquard/code.puts", Rows.laid_jacquard_code_puts)] [.data, .data, .data] true :=
  Program.laidByTextLater_by_one 24 8 34 (by kernel_rfl) (by kernel_rfl) (by kernel_rfl) (by kernel_rfl) (by kernel_rfl) (by kernel_rfl) (fun _ _ => by kernel_rfl)
theorem noOwnUnsafe : Tryd.pinned.checked.prog.headLifts.contains "ownunsafe" = false := by kernel_rfl
theorem tie : Tryd.prog.laidByTextLater [("jacquard/code.names", Rows.laid_jacquard_code_names), ("jacquard/code.takes", Rows.laid_jacquard_code_takes), ("jacquard/code.puts", Rows.laid_jacquard_code_puts)] [.data, .data, .data] true :=
  Program.laidByTextLater.sub seatTie1 ["jacquard/code.names", "jacquard/code.takes", "jacquard/code.puts"] (by kernel_rfl) (by kernel_rfl)
theorem verifyGrows_row_tie : Rows.verifyGrowsRow.laidByTextAt .later Tryd.pinned [.data, .data, .data] true :=
  OpenClaim.laidByTextAt_later rfl rfl tie noOwnUnsafe
theorem verifyStraight_row_tie : Rows.verifyStraightRow.laidByTextAt .later Tryd.pinned [.data, .data, .data] true :=
  OpenClaim.laidByTextAt_later rfl rfl tie noOwnUnsafe
theorem verifyGrowsUpto_row_tie : Rows.verifyGrowsUptoRow.laidByTextAt .later Tryd.pinned [.data, .data, .data] true :=
  OpenClaim.laidByTextAt_later rfl rfl tie noOwnUnsafe
theorem verifyStraightUpto_row_tie : Rows.verifyStraightUptoRow.laidByTextAt .later Tryd.pinned [.data, .data, .data] true :=
  OpenClaim.laidByTextAt_later rfl rfl tie noOwnUnsafe
end Go.Proofs.YtlghjfmehfochaaDoor
