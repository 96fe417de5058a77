/-
  DERIVED. GIVEN WITH THE SEED: THE CARDS: each row of YtgbeghjnllfdjaaGreatDoorRows.lean that lists a variable, with what it lists TIED to the program's text (the seventh form; the later family's looks); each row that meets fmt, with fmt's text TOLD by the authors' own Lean function (tested against real Go, not proved from fmt's source: count such statements apart). THE CARD IS WHAT COUNTS. Prove the row's statement (the work); the ties are given (YtgbeghjnllfdjaaGreatDoorTie.lean); close each card by the builder's one call (the guide's Derived/Test/ToyasCard.lean, 'card_holds'). Laid BY PROGRAM, IN A SANDBOX (cutbox-door.mjs). By AI agents, Wed Nov 11 2026. No macro, syntax, notation, axiom, sorry.
-/
import Derived.Test.YtgbeghjnllfdjaaGreatDoorRows
import GoSem.ClaimSeven
namespace Go.Proofs.YtgbeghjnllfdjaaGreatDoor
namespace Rows

/-- THE TIED CARD OF 'grammarlablaw49.ProfileChecks'. -/
def profileChecksCard : Claim7 := { stood := { row := profileChecksRow, standIns := [], harness := (true, "07693686575330354d0206a8c6edced7d1f094436d865ca4f8ed291d0c16258d"), looks := true }, kinds := [], alts := [], laidByText := true, laidKinds := [.pinned, .data, .sentinel, .sentinel, .data, .data, .data], laidTests := true, laidLooks := .later }
def ProfileChecksCardSaid : Prop := Claim7.holds Tryz.pinned (.plain (OpenSpec.ofChange profileChecksSpec)) profileChecksCard

/-- THE TIED CARD OF 'grammarlablaw49.ProfileCompares'. -/
def profileComparesCard : Claim7 := { stood := { row := profileComparesRow, standIns := [], harness := (true, "07693686575330354d0206a8c6edced7d1f094436d865ca4f8ed291d0c16258d"), looks := true }, kinds := [], alts := [], laidByText := true, laidKinds := [.pinned, .data, .sentinel, .sentinel, .data, .data, .data], laidTests := true, laidLooks := .later }
def ProfileComparesCardSaid : Prop := Claim7.holds Tryz.pinned (.plain (OpenSpec.ofChange profileComparesSpec)) profileComparesCard

/-- THE TIED CARD OF 'grammarlablaw49.ProfileEncodes'. -/
def profileEncodesCard : Claim7 := { stood := { row := profileEncodesRow, standIns := [], harness := (true, "07693686575330354d0206a8c6edced7d1f094436d865ca4f8ed291d0c16258d"), looks := true }, kinds := [], alts := [], laidByText := true, laidKinds := [.pinned, .data, .sentinel, .sentinel, .data, .data, .data], laidTests := true, laidLooks := .later }
def ProfileEncodesCardSaid : Prop := Claim7.holds Tryz.pinned (.plain (OpenSpec.ofChange profileEncodesSpec)) profileEncodesCard

/-- THE TIED CARD OF 'grammarlablaw49.ProfileDecodes'. -/
def profileDecodesCard : Claim7 := { stood := { row := profileDecodesRow, standIns := [], harness := (true, "07693686575330354d0206a8c6edced7d1f094436d865ca4f8ed291d0c16258d"), looks := true }, kinds := [], alts := [], laidByText := true, laidKinds := [.pinned, .data, .sentinel, .sentinel, .data, .data, .data], laidTests := true, laidLooks := .later }
def ProfileDecodesCardSaid : Prop := Claim7.holds Tryz.pinned (.plain (OpenSpec.ofChange profileDecodesSpec)) profileDecodesCard

/-- THE TIED CARD OF 'grammarlablaw49.ProfileBack'. -/
def profileBackCard : Claim7 := { stood := { row := profileBackRow, standIns := [], harness := (true, "07693686575330354d0206a8c6edced7d1f094436d865ca4f8ed291d0c16258d"), looks := true }, kinds := [], alts := [], laidByText := true, laidKinds := [.pinned, .data, .sentinel, .sentinel, .data, .data, .data], laidTests := true, laidLooks := .later }
def ProfileBackCardSaid : Prop := Claim7.holds Tryz.pinned (.plain (OpenSpec.ofChange profileBackSpec)) profileBackCard

/-- THE TIED CARD OF 'grammarlablaw49.ProfileSelf'. -/
def profileSelfCard : Claim7 := { stood := { row := profileSelfRow, standIns := [], harness := (true, "07693686575330354d0206a8c6edced7d1f094436d865ca4f8ed291d0c16258d"), looks := true }, kinds := [], alts := [], laidByText := true, laidKinds := [.pinned, .data, .sentinel, .sentinel, .data, .data, .data], laidTests := true, laidLooks := .later }
def ProfileSelfCardSaid : Prop := Claim7.holds Tryz.pinned (.plain (OpenSpec.ofChange profileSelfSpec)) profileSelfCard

/-- THE TIED CARD OF 'grammarlablaw49.ProfileMirror'. -/
def profileMirrorCard : Claim7 := { stood := { row := profileMirrorRow, standIns := [], harness := (true, "07693686575330354d0206a8c6edced7d1f094436d865ca4f8ed291d0c16258d"), looks := true }, kinds := [], alts := [], laidByText := true, laidKinds := [.pinned, .data, .sentinel, .sentinel, .data, .data, .data], laidTests := true, laidLooks := .later }
def ProfileMirrorCardSaid : Prop := Claim7.holds Tryz.pinned (.plain (OpenSpec.ofChange profileMirrorSpec)) profileMirrorCard

/-- THE SECOND FORM's CARD OF 'grammarlablaw49.ProfileChecks'. -/
def profileChecksUptoCard : Claim7 := { stood := { row := profileChecksUptoRow, standIns := [], harness := (true, "07693686575330354d0206a8c6edced7d1f094436d865ca4f8ed291d0c16258d"), looks := true }, kinds := [], alts := [], laidByText := true, laidKinds := [.pinned, .data, .sentinel, .sentinel, .data, .data, .data], laidTests := true, laidLooks := .later }
def ProfileChecksUptoCardSaid : Prop := Claim7.holds Tryz.pinned (.plain (OpenSpec.upto profileChecksSpec)) profileChecksUptoCard

/-- THE SECOND FORM's CARD OF 'grammarlablaw49.ProfileCompares'. -/
def profileComparesUptoCard : Claim7 := { stood := { row := profileComparesUptoRow, standIns := [], harness := (true, "07693686575330354d0206a8c6edced7d1f094436d865ca4f8ed291d0c16258d"), looks := true }, kinds := [], alts := [], laidByText := true, laidKinds := [.pinned, .data, .sentinel, .sentinel, .data, .data, .data], laidTests := true, laidLooks := .later }
def ProfileComparesUptoCardSaid : Prop := Claim7.holds Tryz.pinned (.plain (OpenSpec.upto profileComparesSpec)) profileComparesUptoCard

/-- THE SECOND FORM's CARD OF 'grammarlablaw49.ProfileEncodes'. -/
def profileEncodesUptoCard : Claim7 := { stood := { row := profileEncodesUptoRow, standIns := [], harness := (true, "07693686575330354d0206a8c6edced7d1f094436d865ca4f8ed291d0c16258d"), looks := true }, kinds := [], alts := [], laidByText := true, laidKinds := [.pinned, .data, .sentinel, .sentinel, .data, .data, .data], laidTests := true, laidLooks := .later }
def ProfileEncodesUptoCardSaid : Prop := Claim7.holds Tryz.pinned (.plain (OpenSpec.upto profileEncodesSpec)) profileEncodesUptoCard

/-- THE SECOND FORM's CARD OF 'grammarlablaw49.ProfileDecodes'. -/
def profileDecodesUptoCard : Claim7 := { stood := { row := profileDecodesUptoRow, standIns := [], harness := (true, "07693686575330354d0206a8c6edced7d1f094436d865ca4f8ed291d0c16258d"), looks := true }, kinds := [], alts := [], laidByText := true, laidKinds := [.pinned, .data, .sentinel, .sentinel, .data, .data, .data], laidTests := true, laidLooks := .later }
def ProfileDecodesUptoCardSaid : Prop := Claim7.holds Tryz.pinned (.plain (OpenSpec.upto profileDecodesSpec)) profileDecodesUptoCard

/-- THE SECOND FORM's CARD OF 'grammarlablaw49.ProfileBack'. -/
def profileBackUptoCard : Claim7 := { stood := { row := profileBackUptoRow, standIns := [], harness := (true, "07693686575330354d0206a8c6edced7d1f094436d865ca4f8ed291d0c16258d"), looks := true }, kinds := [], alts := [], laidByText := true, laidKinds := [.pinned, .data, .sentinel, .sentinel, .data, .data, .data], laidTests := true, laidLooks := .later }
def ProfileBackUptoCardSaid : Prop := Claim7.holds Tryz.pinned (.plain (OpenSpec.upto profileBackSpec)) profileBackUptoCard

/-- THE SECOND FORM's CARD OF 'grammarlablaw49.ProfileSelf'. -/
def profileSelfUptoCard : Claim7 := { stood := { row := profileSelfUptoRow, standIns := [], harness := (true, "07693686575330354d0206a8c6edced7d1f094436d865ca4f8ed291d0c16258d"), looks := true }, kinds := [], alts := [], laidByText := true, laidKinds := [.pinned, .data, .sentinel, .sentinel, .data, .data, .data], laidTests := true, laidLooks := .later }
def ProfileSelfUptoCardSaid : Prop := Claim7.holds Tryz.pinned (.plain (OpenSpec.upto profileSelfSpec)) profileSelfUptoCard

/-- THE SECOND FORM's CARD OF 'grammarlablaw49.ProfileMirror'. -/
def profileMirrorUptoCard : Claim7 := { stood := { row := profileMirrorUptoRow, standIns := [], harness := (true, "07693686575330354d0206a8c6edced7d1f094436d865ca4f8ed291d0c16258d"), looks := true }, kinds := [], alts := [], laidByText := true, laidKinds := [.pinned, .data, .sentinel, .sentinel, .data, .data, .data], laidTests := true, laidLooks := .later }
def ProfileMirrorUptoCardSaid : Prop := Claim7.holds Tryz.pinned (.plain (OpenSpec.upto profileMirrorSpec)) profileMirrorUptoCard
end Rows
end Go.Proofs.YtgbeghjnllfdjaaGreatDoor
