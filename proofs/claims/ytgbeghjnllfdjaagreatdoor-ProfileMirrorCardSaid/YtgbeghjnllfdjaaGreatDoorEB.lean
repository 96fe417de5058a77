/- Texts of the proof: EB. No condition. -/
import Derived.Test.YtgbeghjnllfdjaaGreatDoorE9
import Derived.Test.YtgbeghjnllfdjaaGreatDoorEA
import Derived.KernelRfl
set_option linter.unusedVariables false
set_option linter.unusedSimpArgs false
open Go Go.Proofs
namespace Go.Am
set_option maxRecDepth 1000000
theorem ana_pre [Glb] (B : Base49) : APure Tryz.prog 110 [cPre] cAna := pure_of_rest rfl (rest_part follows49 (kAna_ok B) (Nat.zero_le _) ana_a (rest_last follows49 (kAna_ok B) ana_b))
theorem kA_ok [Glb] (B : Base49) : CallFnOk Tryz.prog (kOf [⟨110, [cPre], cAna⟩]) := kOf_ok (List.forall_mem_cons.2 ⟨ana_pre B, by simp⟩)
theorem feat_pre [Glb] (B : Base49) : APure Tryz.prog 73 [cPre] cFeat := pure_of_chk follows49 (K := kOf [⟨110, [cPre], cAna⟩]) (kA_ok B) (by kernel_rfl : chkCall Tryz.prog kp49 (kOf [⟨110, [cPre], cAna⟩]) 73 [cPre] cFeat = true)
theorem vals_pre [Glb] (B : Base49) : APure Tryz.prog 74 [cPre] cVals := pure_of_chk follows49 (K := kOf [⟨110, [cPre], cAna⟩]) (kA_ok B) (by kernel_rfl : chkCall Tryz.prog kp49 (kOf [⟨110, [cPre], cAna⟩]) 74 [cPre] cVals = true)
theorem hier_pre [Glb] (B : Base49) : APure Tryz.prog 49 [cPre] cHier := pure_of_chk follows49 (K := kOf [⟨73, [cPre], cFeat⟩, ⟨74, [cPre], cVals⟩, ⟨75, [cPre], cCodes⟩]) (kOf_ok (List.forall_mem_cons.2 ⟨feat_pre B, List.forall_mem_cons.2 ⟨vals_pre B, List.forall_mem_cons.2 ⟨codes_pre B, by simp⟩⟩⟩)) (by kernel_rfl : chkCall Tryz.prog kp49 (kOf [⟨73, [cPre], cFeat⟩, ⟨74, [cPre], cVals⟩, ⟨75, [cPre], cCodes⟩]) 49 [cPre] cHier = true)
theorem comp_mod [Glb] (B : Base49) : APure Tryz.prog 26 [cMod] (.tup [.agg [.any, .any, .any, .any, .any, .any, .any, .any], .any, cOK]) := pure_of_chk follows49 (K := kOf [⟨49, [cPre], cHier⟩, ⟨245, [.emp], .im 0 0 (rowFn [])⟩]) (kOf_ok (List.forall_mem_cons.2 ⟨hier_pre B, B.clone⟩)) (by kernel_rfl : chkCall Tryz.prog kp49 (kOf [⟨49, [cPre], cHier⟩, ⟨245, [.emp], .im 0 0 (rowFn [])⟩]) 26 [cMod] (.tup [.agg [.any, .any, .any, .any, .any, .any, .any, .any], .any, cOK]) = true)
end Go.Am
