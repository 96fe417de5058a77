/- Texts of the proof: E5. No condition. -/
import Derived.Test.YtgbeghjnllfdjaaGreatDoorE2
import Derived.KernelRfl
set_option linter.unusedVariables false
set_option linter.unusedSimpArgs false
open Go Go.Proofs
namespace Go.Am
set_option maxRecDepth 1000000
theorem decl_pre [Glb] : APure Tryz.prog 112 [cPre] cDecl := pure_of_chk follows49 (K := kOf kB) (kOf_ok below_ok) (by kernel_rfl : chkCall Tryz.prog kp49 (kOf kB) 112 [cPre] cDecl = true)
end Go.Am
