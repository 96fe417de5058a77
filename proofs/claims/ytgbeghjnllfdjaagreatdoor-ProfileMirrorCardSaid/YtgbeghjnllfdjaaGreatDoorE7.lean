/- Texts of the proof: E7. No condition. -/
import Derived.Test.YtgbeghjnllfdjaaGreatDoorE4
import Derived.Test.YtgbeghjnllfdjaaGreatDoorE5
import Derived.Test.YtgbeghjnllfdjaaGreatDoorE6
import Derived.KernelRfl
set_option linter.unusedVariables false
set_option linter.unusedSimpArgs false
open Go Go.Proofs
namespace Go.Am
set_option maxRecDepth 1000000
theorem codes_pre [Glb] (B : Base49) : APure Tryz.prog 75 [cPre] cCodes := pure_of_chk follows49 (K := kOf [⟨111, [cPre], cOK⟩, ⟨112, [cPre], cDecl⟩, ⟨113, [cBits], cFam⟩]) (kOf_ok (List.forall_mem_cons.2 ⟨check_pre B, List.forall_mem_cons.2 ⟨decl_pre, List.forall_mem_cons.2 ⟨fam_pre, by simp⟩⟩⟩)) (by kernel_rfl : chkCall Tryz.prog kp49 (kOf [⟨111, [cPre], cOK⟩, ⟨112, [cPre], cDecl⟩, ⟨113, [cBits], cFam⟩]) 75 [cPre] cCodes = true)
end Go.Am
