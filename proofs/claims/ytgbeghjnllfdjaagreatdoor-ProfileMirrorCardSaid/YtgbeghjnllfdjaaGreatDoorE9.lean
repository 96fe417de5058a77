/- Texts of the proof: E9. No condition. -/
import Derived.Test.YtgbeghjnllfdjaaGreatDoorE8
import Derived.KernelRfl
set_option linter.unusedVariables false
set_option linter.unusedSimpArgs false
open Go Go.Proofs
namespace Go.Am
set_option maxRecDepth 1000000
theorem ana_a : pPart Tryz.prog kp49 kAna 110 0 7 (entrySt Tryz.prog 110 [cPre]) = some (.normal, stAna) := by kernel_rfl
end Go.Am
