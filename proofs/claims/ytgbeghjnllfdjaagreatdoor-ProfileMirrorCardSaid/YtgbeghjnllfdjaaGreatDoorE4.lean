/- Texts of the proof: E4. No condition. -/
import Derived.Test.YtgbeghjnllfdjaaGreatDoorE0
import Derived.KernelRfl
set_option linter.unusedVariables false
set_option linter.unusedSimpArgs false
open Go Go.Proofs
namespace Go.Am
set_option maxRecDepth 1000000
theorem check_pre [Glb] (B : Base49) : APure Tryz.prog 111 [cPre] cOK := pure_of_chk follows49 (K := kOf kN) (kOf_ok B.names) (by kernel_rfl : chkCall Tryz.prog kp49 (kOf kN) 111 [cPre] cOK = true)
end Go.Am
