/- Texts of the proof: E6. No condition. -/
import Derived.Test.YtgbeghjnllfdjaaGreatDoorE0
import Derived.KernelRfl
set_option linter.unusedVariables false
set_option linter.unusedSimpArgs false
open Go Go.Proofs
namespace Go.Am
set_option maxRecDepth 1000000
theorem fam_pre [Glb] : APure Tryz.prog 113 [cBits] cFam := pure_of_chk follows49 (K := kOf []) (kOf_ok (l := []) (by simp)) (by kernel_rfl : chkCall Tryz.prog kp49 (kOf []) 113 [cBits] cFam = true)
end Go.Am
