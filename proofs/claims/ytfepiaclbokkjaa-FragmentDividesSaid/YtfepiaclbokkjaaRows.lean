/-
  NARROWER THAN 'FOR EVERY INPUT', by the rows' own cells (each row's printed sentence says how): FragmentMaximal: loops · FragmentCovers: loops · FragmentGaps: loops · FragmentDivides: loops · FragmentMost: loops · FragmentExtends: loops.
  DERIVED. THE GIVEN ROWS OF THIS SEAT. 6 by the template 'for every input the law returns true; each argument reads behind the call as it read before'; 0 by the template 'total and deterministic' (their statements: YtfepiaclbokkjaaTotals.lean).
  GIVEN WITH THE SEED: the statements are not yours to turn. If you find one false, say at which input.
  Laid BY PROGRAM, IN A SANDBOX (cutbox-rows.mjs): the forced cells as the released guide's own fill.sh prints them over the translation 2e18f8a1ce82bc7f… (all of the seat's roots in one cut). By AI agents, Wed Nov 11 2026. No macro, syntax, notation, axiom, sorry.
-/
import Derived.Test.YtfepiaclbokkjaaChecked
import GoSem.Claim
import GoSem.ClaimJoined
import GoSem.ClaimMapViews
import Derived.JoinedTies
import Derived.KernelRfl
namespace Go.Proofs.Ytfepiaclbokkjaa
/- THE CELL 'sum', in the pinned program and in every row, IS THE sha256 OF THE DUMP (.gsa) THAT YtfepiaclbokkjaaProg.lean LOADS. Nothing in Lean hashes anything: it is a label: what it is worth is what the hold of that sum in a sandbox is worth. -/
noncomputable def Try.pinned : Pinned := { name := "ytfepiaclbokkjaa", sum := "2e18f8a1ce82bc7fb55e16750779d2a246a0a0ddd2d4e699ce1ee08b3b1dac05", checked := Try.checked }
namespace Rows
def none {H : Type} : Left H := { results := [], args := [] }

/-- 'grammarlablaw34.FragmentMaximal': WHATEVER THE INPUT: true; the input reads as it did. -/
def fragmentMaximalSpec : ChangeSpec := { name := "fragmentMaximal", fn := fun _ => fun
  | [d1, d2] => { results := [.lit (.bool true)], args := [d1, d2] }
  | _ => none }
def fragmentMaximalRow : OpenClaim := { program := "ytfepiaclbokkjaa", sum := "2e18f8a1ce82bc7fb55e16750779d2a246a0a0ddd2d4e699ce1ee08b3b1dac05", func := "grammarlab/grammarlablaw34.FragmentMaximal", spec := "fragmentMaximal", recurses := true, loops := true, apart := false }
def FragmentMaximalSaid : Prop := fragmentMaximalRow.holds Try.pinned (OpenSpec.ofChange fragmentMaximalSpec)

/-- ITS FALSE NEIGHBOUR: 'it returns false'. Refute it at one input. -/
def fragmentMaximalWrong : ChangeSpec := { name := "fragmentMaximal", fn := fun _ => fun
  | [d1, d2] => { results := [.lit (.bool false)], args := [d1, d2] }
  | _ => none }
def FragmentMaximalWrongFalsely : Prop := fragmentMaximalRow.holds Try.pinned (OpenSpec.ofChange fragmentMaximalWrong)

/-- 'grammarlablaw34.FragmentCovers': WHATEVER THE INPUT: true; the input reads as it did. -/
def fragmentCoversSpec : ChangeSpec := { name := "fragmentCovers", fn := fun _ => fun
  | [d1, d2] => { results := [.lit (.bool true)], args := [d1, d2] }
  | _ => none }
def fragmentCoversRow : OpenClaim := { program := "ytfepiaclbokkjaa", sum := "2e18f8a1ce82bc7fb55e16750779d2a246a0a0ddd2d4e699ce1ee08b3b1dac05", func := "grammarlab/grammarlablaw34.FragmentCovers", spec := "fragmentCovers", recurses := true, loops := true, apart := false }
def FragmentCoversSaid : Prop := fragmentCoversRow.holds Try.pinned (OpenSpec.ofChange fragmentCoversSpec)

/-- ITS FALSE NEIGHBOUR: 'it returns false'. Refute it at one input. -/
def fragmentCoversWrong : ChangeSpec := { name := "fragmentCovers", fn := fun _ => fun
  | [d1, d2] => { results := [.lit (.bool false)], args := [d1, d2] }
  | _ => none }
def FragmentCoversWrongFalsely : Prop := fragmentCoversRow.holds Try.pinned (OpenSpec.ofChange fragmentCoversWrong)

/-- 'grammarlablaw34.FragmentGaps': WHATEVER THE INPUT: true; the input reads as it did. -/
def fragmentGapsSpec : ChangeSpec := { name := "fragmentGaps", fn := fun _ => fun
  | [d1, d2, d3] => { results := [.lit (.bool true)], args := [d1, d2, d3] }
  | _ => none }
def fragmentGapsRow : OpenClaim := { program := "ytfepiaclbokkjaa", sum := "2e18f8a1ce82bc7fb55e16750779d2a246a0a0ddd2d4e699ce1ee08b3b1dac05", func := "grammarlab/grammarlablaw34.FragmentGaps", spec := "fragmentGaps", recurses := true, loops := true, apart := false }
def FragmentGapsSaid : Prop := fragmentGapsRow.holds Try.pinned (OpenSpec.ofChange fragmentGapsSpec)

/-- ITS FALSE NEIGHBOUR: 'it returns false'. Refute it at one input. -/
def fragmentGapsWrong : ChangeSpec := { name := "fragmentGaps", fn := fun _ => fun
  | [d1, d2, d3] => { results := [.lit (.bool false)], args := [d1, d2, d3] }
  | _ => none }
def FragmentGapsWrongFalsely : Prop := fragmentGapsRow.holds Try.pinned (OpenSpec.ofChange fragmentGapsWrong)

/-- 'grammarlablaw34.FragmentDivides': WHATEVER THE INPUT: true; the input reads as it did. -/
def fragmentDividesSpec : ChangeSpec := { name := "fragmentDivides", fn := fun _ => fun
  | [d1, d2] => { results := [.lit (.bool true)], args := [d1, d2] }
  | _ => none }
def fragmentDividesRow : OpenClaim := { program := "ytfepiaclbokkjaa", sum := "2e18f8a1ce82bc7fb55e16750779d2a246a0a0ddd2d4e699ce1ee08b3b1dac05", func := "grammarlab/grammarlablaw34.FragmentDivides", spec := "fragmentDivides", recurses := true, loops := true, apart := false }
def FragmentDividesSaid : Prop := fragmentDividesRow.holds Try.pinned (OpenSpec.ofChange fragmentDividesSpec)

/-- ITS FALSE NEIGHBOUR: 'it returns false'. Refute it at one input. -/
def fragmentDividesWrong : ChangeSpec := { name := "fragmentDivides", fn := fun _ => fun
  | [d1, d2] => { results := [.lit (.bool false)], args := [d1, d2] }
  | _ => none }
def FragmentDividesWrongFalsely : Prop := fragmentDividesRow.holds Try.pinned (OpenSpec.ofChange fragmentDividesWrong)

/-- 'grammarlablaw34.FragmentMost': WHATEVER THE INPUT: true; the input reads as it did. -/
def fragmentMostSpec : ChangeSpec := { name := "fragmentMost", fn := fun _ => fun
  | [d1, d2] => { results := [.lit (.bool true)], args := [d1, d2] }
  | _ => none }
def fragmentMostRow : OpenClaim := { program := "ytfepiaclbokkjaa", sum := "2e18f8a1ce82bc7fb55e16750779d2a246a0a0ddd2d4e699ce1ee08b3b1dac05", func := "grammarlab/grammarlablaw34.FragmentMost", spec := "fragmentMost", recurses := true, loops := true, apart := false }
def FragmentMostSaid : Prop := fragmentMostRow.holds Try.pinned (OpenSpec.ofChange fragmentMostSpec)

/-- ITS FALSE NEIGHBOUR: 'it returns false'. Refute it at one input. -/
def fragmentMostWrong : ChangeSpec := { name := "fragmentMost", fn := fun _ => fun
  | [d1, d2] => { results := [.lit (.bool false)], args := [d1, d2] }
  | _ => none }
def FragmentMostWrongFalsely : Prop := fragmentMostRow.holds Try.pinned (OpenSpec.ofChange fragmentMostWrong)

/-- 'grammarlablaw34.FragmentExtends': WHATEVER THE INPUT: true; the input reads as it did. -/
def fragmentExtendsSpec : ChangeSpec := { name := "fragmentExtends", fn := fun _ => fun
  | [d1, d2] => { results := [.lit (.bool true)], args := [d1, d2] }
  | _ => none }
def fragmentExtendsRow : OpenClaim := { program := "ytfepiaclbokkjaa", sum := "2e18f8a1ce82bc7fb55e16750779d2a246a0a0ddd2d4e699ce1ee08b3b1dac05", func := "grammarlab/grammarlablaw34.FragmentExtends", spec := "fragmentExtends", recurses := true, loops := true, apart := false }
def FragmentExtendsSaid : Prop := fragmentExtendsRow.holds Try.pinned (OpenSpec.ofChange fragmentExtendsSpec)

/-- ITS FALSE NEIGHBOUR: 'it returns false'. Refute it at one input. -/
def fragmentExtendsWrong : ChangeSpec := { name := "fragmentExtends", fn := fun _ => fun
  | [d1, d2] => { results := [.lit (.bool false)], args := [d1, d2] }
  | _ => none }
def FragmentExtendsWrongFalsely : Prop := fragmentExtendsRow.holds Try.pinned (OpenSpec.ofChange fragmentExtendsWrong)

/- THE SECOND FORM. 'bulk': how many values and letters a reading holds, each counted each time it is reached (what is shared counts as often as it is met; a slice's spare places count too). A statement '..UptoSaid' is the law's where the arguments, and the package variables that the reading takes, are together of bulk at most 1048576: NARROWER than '..Said'. Prove '..Said' where nothing that the law and all that it calls make is longer than what came in: it says more and counts as full. Else prove '..UptoSaid'. A law counts once. -/
mutual
def uptoBulk {H : Type} : DataW H → Nat
  | .lit (.string bytes) => bytes.length + 1
  | .lit _ => 1
  | .nil => 1
  | .ptr d => uptoBulk d + 1
  | .slice elems spare => uptoBulkAll elems + uptoBulkAll spare + 1
  | .agg parts => uptoBulkAll parts + 1
  | .iface _ d => uptoBulk d + 1
  | .map entries => uptoBulkEntries entries + 1
  | .held _ => 1
def uptoBulkAll {H : Type} : List (DataW H) → Nat
  | [] => 0
  | d :: r => uptoBulk d + uptoBulkAll r
def uptoBulkEntries {H : Type} : List (Lit × DataW H) → Nat
  | [] => 0
  | x :: r => uptoBulkEntry x + uptoBulkEntries r
def uptoBulkEntry {H : Type} : Lit × DataW H → Nat
  | (.string bytes, d) => bytes.length + uptoBulk d + 1
  | (_, d) => uptoBulk d + 1
 end
def uptoSmall : (H : Type) → List (DataW H) → Bool := fun _ ds => decide (uptoBulkAll ds ≤ 1048576)
def OpenSpec.upto (s : _root_.Go.ChangeSpec) : _root_.Go.OpenSpec := { _root_.Go.OpenSpec.ofChange s with cond := some uptoSmall }

/-- 'grammarlablaw34.FragmentMaximal', WHERE WHAT IT READS IS OF BULK AT MOST 1048576: true; the input reads as it did. -/
def fragmentMaximalUptoRow : OpenClaim := { program := "ytfepiaclbokkjaa", sum := "2e18f8a1ce82bc7fb55e16750779d2a246a0a0ddd2d4e699ce1ee08b3b1dac05", func := "grammarlab/grammarlablaw34.FragmentMaximal", spec := "fragmentMaximal", recurses := true, loops := true, apart := false, narrowed := true }
def FragmentMaximalUptoSaid : Prop := fragmentMaximalUptoRow.holds Try.pinned (OpenSpec.upto fragmentMaximalSpec)

/-- 'grammarlablaw34.FragmentCovers', WHERE WHAT IT READS IS OF BULK AT MOST 1048576: true; the input reads as it did. -/
def fragmentCoversUptoRow : OpenClaim := { program := "ytfepiaclbokkjaa", sum := "2e18f8a1ce82bc7fb55e16750779d2a246a0a0ddd2d4e699ce1ee08b3b1dac05", func := "grammarlab/grammarlablaw34.FragmentCovers", spec := "fragmentCovers", recurses := true, loops := true, apart := false, narrowed := true }
def FragmentCoversUptoSaid : Prop := fragmentCoversUptoRow.holds Try.pinned (OpenSpec.upto fragmentCoversSpec)

/-- 'grammarlablaw34.FragmentGaps', WHERE WHAT IT READS IS OF BULK AT MOST 1048576: true; the input reads as it did. -/
def fragmentGapsUptoRow : OpenClaim := { program := "ytfepiaclbokkjaa", sum := "2e18f8a1ce82bc7fb55e16750779d2a246a0a0ddd2d4e699ce1ee08b3b1dac05", func := "grammarlab/grammarlablaw34.FragmentGaps", spec := "fragmentGaps", recurses := true, loops := true, apart := false, narrowed := true }
def FragmentGapsUptoSaid : Prop := fragmentGapsUptoRow.holds Try.pinned (OpenSpec.upto fragmentGapsSpec)

/-- 'grammarlablaw34.FragmentDivides', WHERE WHAT IT READS IS OF BULK AT MOST 1048576: true; the input reads as it did. -/
def fragmentDividesUptoRow : OpenClaim := { program := "ytfepiaclbokkjaa", sum := "2e18f8a1ce82bc7fb55e16750779d2a246a0a0ddd2d4e699ce1ee08b3b1dac05", func := "grammarlab/grammarlablaw34.FragmentDivides", spec := "fragmentDivides", recurses := true, loops := true, apart := false, narrowed := true }
def FragmentDividesUptoSaid : Prop := fragmentDividesUptoRow.holds Try.pinned (OpenSpec.upto fragmentDividesSpec)

/-- 'grammarlablaw34.FragmentMost', WHERE WHAT IT READS IS OF BULK AT MOST 1048576: true; the input reads as it did. -/
def fragmentMostUptoRow : OpenClaim := { program := "ytfepiaclbokkjaa", sum := "2e18f8a1ce82bc7fb55e16750779d2a246a0a0ddd2d4e699ce1ee08b3b1dac05", func := "grammarlab/grammarlablaw34.FragmentMost", spec := "fragmentMost", recurses := true, loops := true, apart := false, narrowed := true }
def FragmentMostUptoSaid : Prop := fragmentMostUptoRow.holds Try.pinned (OpenSpec.upto fragmentMostSpec)

/-- 'grammarlablaw34.FragmentExtends', WHERE WHAT IT READS IS OF BULK AT MOST 1048576: true; the input reads as it did. -/
def fragmentExtendsUptoRow : OpenClaim := { program := "ytfepiaclbokkjaa", sum := "2e18f8a1ce82bc7fb55e16750779d2a246a0a0ddd2d4e699ce1ee08b3b1dac05", func := "grammarlab/grammarlablaw34.FragmentExtends", spec := "fragmentExtends", recurses := true, loops := true, apart := false, narrowed := true }
def FragmentExtendsUptoSaid : Prop := fragmentExtendsUptoRow.holds Try.pinned (OpenSpec.upto fragmentExtendsSpec)

end Rows
end Go.Proofs.Ytfepiaclbokkjaa
