/- The law ProfileMirror returns true for every input, and each argument reads afterwards as before; the package variables that it lists are tied to the program's text. No condition. -/
import Derived.Test.YtgbeghjnllfdjaaGreatDoorProfileMirrorZ
import Derived.Test.YtgbeghjnllfdjaaGreatDoorProfileMirrorJ
import Derived.Test.YtgbeghjnllfdjaaGreatDoorCards
import Derived.Test.YtgbeghjnllfdjaaGreatDoorTy
import Derived.WalkKit
import Derived.ProofKit
import Derived.SevenTiedAt
namespace Go.Proofs.YtgbeghjnllfdjaaGreatDoor
open Go
namespace profileMirrorFacts
set_option maxRecDepth 100000 in
theorem closed : joinedFacts Tryz.prog 9 Tryz.f9 Rows.profileMirrorSpec Rows.profileMirrorRow = true := by
  unfold joinedFacts
  exact and2 (and2 (and2 (and2 (and2 (and2 (and2 (and2 (and2 (and2 (and2 (and2 (and2 (and2 (and2 (and2 (and2 (and2 (and2 (and2 (and2 (and2 (and2 (and2 (and2 (and2 (and2 (and2 (and2 (and2 (and2 (j0) j1) j2) j3) j4) j5) j6) j7) j8) j9) j10) j11) j12) j13) j14) j15) j16) j17) j18) j19) j20) j21) j22) j23) j24) j25) j26) j27) j28) j29) j30) j31
end profileMirrorFacts
namespace profileMirror
open Go.ChangeShapes Go.WideShapes Go.ChangeAt Go.RowKit Go.Am
theorem over : Rows.profileMirrorRow.holds Tryz.pinned (OpenSpec.ofChange Rows.profileMirrorSpec) :=
  OpenClaim.holds_of_wide 9 Tryz.f9 rfl rfl rfl rfl rfl rfl rfl ⟨rfl, rfl, rfl, rfl, rfl⟩ rfl rfl rfl rfl rfl y1 Tryz.func9 profileMirrorFacts.closed
    y2 y3 (fun os started H enc _ => lifted os started H enc)
end profileMirror
theorem profileMirror_holds : Rows.ProfileMirrorCardSaid :=
  Claim7.holds_tied_plain_at .later [] [.pinned, .data, .sentinel, .sentinel, .data, .data, .data] true (true, "07693686575330354d0206a8c6edced7d1f094436d865ca4f8ed291d0c16258d") true profileMirror.over (fun _ h => by cases h) profileMirror.y4 (fun _ h => by cases h) profileMirror_row_tie rfl ⟨rfl, rfl⟩ profileMirror.y5 rfl
    (fun f fn hf hfn => by
      obtain rfl : f = 9 := Option.some.inj (profileMirror.y1.symm.trans hf) |>.symm
      obtain rfl : fn = Tryz.f9 := (Option.some.inj (Tryz.func9.symm.trans hfn)).symm
      exact ⟨profileMirror.y6, fun j t ht => by
        rw [Tryz.params9] at ht
        have hm : t ∈ [24, 24] := by simpa using Array.mem_of_getElem? ht
        exact (show Tryz.prog.wantsStandIn t = false by simpa using List.all_eq_true.1 profileMirror.y8 t hm)⟩)
    profileMirror.y7
end Go.Proofs.YtgbeghjnllfdjaaGreatDoor
#print axioms Go.Proofs.YtgbeghjnllfdjaaGreatDoor.profileMirror_holds
