/-
  DERIVED. GIVEN WITH THE SEED: THE CARDS: each row of YtfgklagkpfhlkaaGreatDoorRows.lean that lists a variable, with what it lists TIED to the program's text (the seventh form; the later family's looks); each row that meets fmt, with fmt's text TOLD by the authors' own Lean function (tested against real Go, not proved from fmt's source: count such statements apart). THE CARD IS WHAT COUNTS. Prove the row's statement (the work); the ties are given (YtfgklagkpfhlkaaGreatDoorTie.lean); close each card by the builder's one call (the guide's Derived/Test/ToyasCard.lean, 'card_holds'). Laid BY PROGRAM, IN A SANDBOX (cutbox-door.mjs). By AI agents, Wed Nov 11 2026. No macro, syntax, notation, axiom, sorry.
-/
import Derived.Test.YtfgklagkpfhlkaaGreatDoorRows
import GoSem.ClaimSeven
namespace Go.Proofs.YtfgklagkpfhlkaaGreatDoor
namespace Rows

/-- THE TIED CARD OF 'grammarlablaw28.DerivParses'. -/
def derivParsesCard : Claim7 := { stood := { row := derivParsesRow, standIns := [], harness := (true, "8e4e38e2b28a9627a168d40abbe3915dbfc5a852cdad9a3ce0bb33ab74a8244d"), looks := true }, kinds := [], alts := [], laidByText := true, laidKinds := [.data, .data, .data, .data, .sentinel, .sentinel, .pinned], laidTests := true, laidLooks := .later }
def DerivParsesCardSaid : Prop := Claim7.holds Tryz.pinned (.plain (OpenSpec.ofChange derivParsesSpec)) derivParsesCard

/-- THE SECOND FORM's CARD OF 'grammarlablaw28.DerivParses'. -/
def derivParsesUptoCard : Claim7 := { stood := { row := derivParsesUptoRow, standIns := [], harness := (true, "8e4e38e2b28a9627a168d40abbe3915dbfc5a852cdad9a3ce0bb33ab74a8244d"), looks := true }, kinds := [], alts := [], laidByText := true, laidKinds := [.data, .data, .data, .data, .sentinel, .sentinel, .pinned], laidTests := true, laidLooks := .later }
def DerivParsesUptoCardSaid : Prop := Claim7.holds Tryz.pinned (.plain (OpenSpec.upto derivParsesSpec)) derivParsesUptoCard
end Rows
end Go.Proofs.YtfgklagkpfhlkaaGreatDoor
