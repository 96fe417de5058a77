/- Texts of the proof: EA. No condition. -/
import Derived.Test.YtgbeghjnllfdjaaGreatDoorE8
import Derived.KernelRfl
set_option linter.unusedVariables false
set_option linter.unusedSimpArgs false
open Go Go.Proofs
namespace Go.Am
set_option maxRecDepth 1000000
theorem ana_b : pLast Tryz.prog kp49 kAna 110 1 7 stAna cAna = true := by kernel_rfl
end Go.Am
