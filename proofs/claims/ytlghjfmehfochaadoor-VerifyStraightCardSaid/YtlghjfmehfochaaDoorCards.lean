/-
  DERIVED. GIVEN WITH THE SEED: THE CARDS: each row of YtlghjfmehfochaaDoorRows.lean that lists a variable, with what it lists TIED to the program's text (the seventh form; the later family's looks); each row that meets fmt, with fmt's text TOLD by the authors' own Lean function (tested against real Go, not proved from fmt's source: count such statements apart). THE CARD IS WHAT COUNTS. Prove the row's statement (the work); the ties are given (YtlghjfmehfochaaDoorTie.lean); close each card by the builder's one call (the guide's Derived/Test/ToyasCard.lean, 'card_holds'). Laid BY PROGRAM, IN A SANDBOX (cutbox-door.mjs). By AI agents, Wed Nov 11 2026. No macro, syntax, notation, axiom, sorry.
-/
import Derived.Test.YtlghjfmehfochaaDoorRows
import GoSem.ClaimSeven
namespace Go.Proofs.YtlghjfmehfochaaDoor
namespace Rows

/-- THE TIED CARD OF 'jacquardlaw11.VerifyGrows'. -/
def verifyGrowsCard : Claim7 := { stood := { row := verifyGrowsRow, standIns := [], harness := (true, "05e269ec4b136fc55d105f645d1db1a76f3946f0e7d26ed4d18a038d757d72d5"), looks := false }, kinds := [], alts := [], laidByText := true, laidKinds := [.data, .data, .data], laidTests := true, laidLooks := .later }
def VerifyGrowsCardSaid : Prop := Claim7.holds Tryd.pinned (.plain (OpenSpec.ofChange verifyGrowsSpec)) verifyGrowsCard

/-- THE TIED CARD OF 'jacquardlaw11.VerifyStraight'. -/
def verifyStraightCard : Claim7 := { stood := { row := verifyStraightRow, standIns := [], harness := (true, "05e269ec4b136fc55d105f645d1db1a76f3946f0e7d26ed4d18a038d757d72d5"), looks := false }, kinds := [], alts := [], laidByText := true, laidKinds := [.data, .data, .data], laidTests := true, laidLooks := .later }
def VerifyStraightCardSaid : Prop := Claim7.holds Tryd.pinned (.plain (OpenSpec.ofChange verifyStraightSpec)) verifyStraightCard

/-- THE SECOND FORM's CARD OF 'jacquardlaw11.VerifyGrows'. -/
def verifyGrowsUptoCard : Claim7 := { stood := { row := verifyGrowsUptoRow, standIns := [], harness := (true, "05e269ec4b136fc55d105f645d1db1a76f3946f0e7d26ed4d18a038d757d72d5"), looks := false }, kinds := [], alts := [], laidByText := true, laidKinds := [.data, .data, .data], laidTests := true, laidLooks := .later }
def VerifyGrowsUptoCardSaid : Prop := Claim7.holds Tryd.pinned (.plain (OpenSpec.upto verifyGrowsSpec)) verifyGrowsUptoCard

/-- THE SECOND FORM's CARD OF 'jacquardlaw11.VerifyStraight'. -/
def verifyStraightUptoCard : Claim7 := { stood := { row := verifyStraightUptoRow, standIns := [], harness := (true, "05e269ec4b136fc55d105f645d1db1a76f3946f0e7d26ed4d18a038d757d72d5"), looks := false }, kinds := [], alts := [], laidByText := true, laidKinds := [.data, .data, .data], laidTests := true, laidLooks := .later }
def VerifyStraightUptoCardSaid : Prop := Claim7.holds Tryd.pinned (.plain (OpenSpec.upto verifyStraightSpec)) verifyStraightUptoCard
end Rows
end Go.Proofs.YtlghjfmehfochaaDoor
