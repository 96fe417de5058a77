/-
  DERIVED. GIVEN WITH THE SEED: THE CARDS: each row of YtfgklagkpfhlkaaDoorRows.lean that lists a variable, with what it lists TIED to the program's text (the seventh form; the later family's looks); each row that meets fmt, with fmt's text TOLD by the authors' own Lean function (tested against real Go, not proved from fmt's source: count such statements apart). THE CARD IS WHAT COUNTS. Prove the row's statement (the work); the ties are given (YtfgklagkpfhlkaaDoorTie.lean); close each card by the builder's one call (the guide's Derived/Test/ToyasCard.lean, 'card_holds'). Laid BY PROGRAM, IN A SANDBOX (cutbox-door.mjs). By AI agents, Wed Nov 11 2026. No macro, syntax, notation, axiom, sorry.
-/
import Derived.Test.YtfgklagkpfhlkaaDoorRows
import GoSem.ClaimSeven
namespace Go.Proofs.YtfgklagkpfhlkaaDoor
namespace Rows

/-- THE TIED CARD OF 'grammarlablaw28.DerivCompares'. -/
def derivComparesCard : Claim7 := { stood := { row := derivComparesRow, standIns := [], harness := (true, "c7bb97e820229413dfd6fd6193e41598c4c69e0ef92c72df98ccc01ffbd975f4"), looks := true }, kinds := [], alts := [], laidByText := true, laidKinds := [.data, .data, .data, .data, .sentinel, .sentinel, .pinned], laidTests := true, laidLooks := .later }
def DerivComparesCardSaid : Prop := Claim7.holds Tryd.pinned (.plain (OpenSpec.ofChange derivComparesSpec)) derivComparesCard

/-- THE TIED CARD OF 'grammarlablaw28.DerivRoundTrips'. -/
def derivRoundTripsCard : Claim7 := { stood := { row := derivRoundTripsRow, standIns := [], harness := (true, "c7bb97e820229413dfd6fd6193e41598c4c69e0ef92c72df98ccc01ffbd975f4"), looks := true }, kinds := [], alts := [], laidByText := true, laidKinds := [.data, .data, .data, .data, .sentinel, .sentinel, .pinned], laidTests := true, laidLooks := .later }
def DerivRoundTripsCardSaid : Prop := Claim7.holds Tryd.pinned (.plain (OpenSpec.ofChange derivRoundTripsSpec)) derivRoundTripsCard

/-- THE TIED CARD OF 'grammarlablaw28.DerivOrder'. -/
def derivOrderCard : Claim7 := { stood := { row := derivOrderRow, standIns := [], harness := (true, "c7bb97e820229413dfd6fd6193e41598c4c69e0ef92c72df98ccc01ffbd975f4"), looks := true }, kinds := [], alts := [], laidByText := true, laidKinds := [.data, .data, .data, .data, .sentinel, .sentinel, .pinned], laidTests := true, laidLooks := .later }
def DerivOrderCardSaid : Prop := Claim7.holds Tryd.pinned (.plain (OpenSpec.ofChange derivOrderSpec)) derivOrderCard

/-- THE SECOND FORM's CARD OF 'grammarlablaw28.DerivCompares'. -/
def derivComparesUptoCard : Claim7 := { stood := { row := derivComparesUptoRow, standIns := [], harness := (true, "c7bb97e820229413dfd6fd6193e41598c4c69e0ef92c72df98ccc01ffbd975f4"), looks := true }, kinds := [], alts := [], laidByText := true, laidKinds := [.data, .data, .data, .data, .sentinel, .sentinel, .pinned], laidTests := true, laidLooks := .later }
def DerivComparesUptoCardSaid : Prop := Claim7.holds Tryd.pinned (.plain (OpenSpec.upto derivComparesSpec)) derivComparesUptoCard

/-- THE SECOND FORM's CARD OF 'grammarlablaw28.DerivRoundTrips'. -/
def derivRoundTripsUptoCard : Claim7 := { stood := { row := derivRoundTripsUptoRow, standIns := [], harness := (true, "c7bb97e820229413dfd6fd6193e41598c4c69e0ef92c72df98ccc01ffbd975f4"), looks := true }, kinds := [], alts := [], laidByText := true, laidKinds := [.data, .data, .data, .data, .sentinel, .sentinel, .pinned], laidTests := true, laidLooks := .later }
def DerivRoundTripsUptoCardSaid : Prop := Claim7.holds Tryd.pinned (.plain (OpenSpec.upto derivRoundTripsSpec)) derivRoundTripsUptoCard

/-- THE SECOND FORM's CARD OF 'grammarlablaw28.DerivOrder'. -/
def derivOrderUptoCard : Claim7 := { stood := { row := derivOrderUptoRow, standIns := [], harness := (true, "c7bb97e820229413dfd6fd6193e41598c4c69e0ef92c72df98ccc01ffbd975f4"), looks := true }, kinds := [], alts := [], laidByText := true, laidKinds := [.data, .data, .data, .data, .sentinel, .sentinel, .pinned], laidTests := true, laidLooks := .later }
def DerivOrderUptoCardSaid : Prop := Claim7.holds Tryd.pinned (.plain (OpenSpec.upto derivOrderSpec)) derivOrderUptoCard
end Rows
end Go.Proofs.YtfgklagkpfhlkaaDoor
