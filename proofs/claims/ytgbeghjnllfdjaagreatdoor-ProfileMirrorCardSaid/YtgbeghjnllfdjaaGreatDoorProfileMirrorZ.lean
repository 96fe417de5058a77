/- The law ProfileMirror: from the walk to the row's claim, and closed facts of the row one by one. No condition. -/
import Derived.Test.YtgbeghjnllfdjaaGreatDoorProfileMirrorW
import Derived.Test.YtgbeghjnllfdjaaGreatDoorT
import Derived.Test.YtgbeghjnllfdjaaGreatDoorLay
import Derived.Test.YtgbeghjnllfdjaaGreatDoorLP
import Derived.Test.YtgbeghjnllfdjaaGreatDoorLo
import Derived.Test.YtgbeghjnllfdjaaGreatDoorLg
import Derived.Test.YtgbeghjnllfdjaaGreatDoorCards
import Derived.Test.YtgbeghjnllfdjaaGreatDoorTy
import Derived.WalkKit
import Derived.ProofKit
import Derived.OpenShut
import Derived.KernelRfl
import Derived.Lay
import Derived.SevenTiedAt
namespace Go.Proofs.YtgbeghjnllfdjaaGreatDoor
namespace profileMirror
open Go.ChangeShapes Go.WideShapes Go.ChangeAt Go.RowKit Go.Am

theorem own : ownKnob Tryz.prog.godebug = none := by kernel_rfl
theorem laidOut : laidOutB Tryz.prog = true := laid_out
theorem readable : ∀ t ∈ Tryz.f9.params.toList, Tryz.prog.readableRec t = true ∧ t < Tryz.prog.types.size := by
  intro t ht
  rw [Tryz.params9] at ht
  simp only [List.mem_cons, List.not_mem_nil, or_false] at ht
  rcases ht with rfl | rfl <;> exact ⟨by kernel_rfl, of_decide_eq_true (by kernel_rfl)⟩
noncomputable abbrev A0 : Array Value := #[.agg #[.string ⟨#[]⟩, .slice none 0 0], .agg #[.string ⟨#[]⟩, .slice none 0 0]]
noncomputable abbrev w0 (os : Os) : World := (World.laidAll Tryz.prog os Rows.profileMirrorRow.laid).forCall (fun _ _ => 0) ⟨#[], A0, []⟩
theorem z1 (os : Os) : (w0 os).variablesZipB Tryz.prog = true := by kernel_rfl
theorem z2 (os : Os) : ((w0 os).heap.toList.drop Tryz.prog.globals.size).take ((begin Tryz.prog (fun _ _ => 0) default).world.heap.size - Tryz.prog.globals.size) = (begin Tryz.prog (fun _ _ => 0) default).world.heap.toList.drop Tryz.prog.globals.size := by kernel_rfl
theorem z3 (os : Os) : Input.okWideB Tryz.checked.prog (w0 os) 9 ⟨#[], A0, []⟩ = true := by kernel_rfl
theorem z4 (os : Os) (H : Type) (enc : TypeId × Value → H) : Rows.profileMirrorSpec.preB enc Tryz.checked.prog Tryz.f9 [] false (w0 os).memory A0 8 = true := by kernel_rfl
theorem z5 (os : Os) (H : Type) (enc : TypeId × Value → H) : Rows.profileMirrorSpec.sizedB enc Tryz.checked.prog Tryz.f9 false (w0 os).memory A0 8 = true := by kernel_rfl
theorem z6 (os : Os) : (World.holding Tryz.prog os ⟨#[], #[], []⟩).layFits Tryz.prog Rows.profileMirrorRow.laid [] = true := by kernel_rfl
theorem z7 (os : Os) : (World.holding Tryz.prog os ⟨#[], #[], []⟩).layIfaces Tryz.prog Rows.profileMirrorRow.laid (World.laidAll Tryz.prog os Rows.profileMirrorRow.laid) = true := by kernel_rfl
theorem z8 : (Rows.profileMirrorRow.laid.all fun x => x.2.handleName?.isNone) = true := by kernel_rfl
set_option maxRecDepth 100000 in
theorem lifted (os : Os) (started : os.Started) (H : Type) (enc : TypeId × Value → H) :
    ReturnsInHanded {} Tryz.checked os 9 .any (fun w args => (Rows.profileMirrorSpec.pre enc Tryz.prog Tryz.f9 [] false w args ∧ laidMetH Tryz.prog Rows.profileMirrorRow.laid w) ∧ sizedMet enc Tryz.prog Tryz.f9 (OpenSpec.ofChange Rows.profileMirrorSpec) false w args)
      (Rows.profileMirrorSpec.post enc Tryz.prog Tryz.f9 false true false false) := by
  refine handed_at (C := Tryz.checked) (X := fun w _ => laidMetH Tryz.prog Rows.profileMirrorRow.laid w) (fun _ _ _ hh h => h.of_heap hh) own started (by kernel_rfl) Tryz.func9
    (ChangeSpec.witness_shaped (enc := enc) (C := Tryz.checked) (os := os) (X := fun w _ => laidMetH Tryz.prog Rows.profileMirrorRow.laid w) false (World.laidAll Tryz.prog os Rows.profileMirrorRow.laid) A0 8 (World.laidAll_os _ _ _)
      (World.shaped_of_ZipB (z1 os) (z2 os)) (z3 os) (z4 os H enc) (z5 os H enc)
      (by rw [MakeChecks.laidMetH_plain _ _ _ z8]; exact laidMet_laidAll _ (z6 os) (z7 os))) ?_
  intro W base args ds gs before hval0 hW hL hsh
  have hval : ∀ (j : Nat) t v, Tryz.f9.params[j]? = some t → args[j]? = some v → Value.okWide Tryz.prog W .any base t v := hval0
  have hW' := hW
  obtain ⟨p, q, hA0, hV, rfl, hfz, hnd⟩ := hW
  have hA : DataW.TrodAll enc Tryz.prog W 0 (fun _ => true) true Tryz.f9.params.toList args.toList ds p := hA0
  rw [Tryz.params9] at hA hval
  obtain ⟨v0, vs0, d0, ds0, p0, q0, hargs, rfl, rfl, h0, r0⟩ := trodAll_cons hA
  obtain ⟨v1, vs1, d1, ds1, p1, q1, rfl, rfl, rfl, h1, r1⟩ := trodAll_cons r0
  obtain ⟨rfl, rfl, rfl⟩ := trodAll_nil r1
  obtain rfl : args = #[v0, v1] := by cases args; simp_all
  obtain ⟨rfl, rfl⟩ := trodVars_none hV
  have F := laid_facts hL hsh
  letI := glbOf W
  haveI := noDr_of W
  haveI := tabs_of F
  haveI := tabM_of F
  obtain ⟨a0, c0, i0⟩ := p_run (hval 0 24 v0 rfl rfl) h0
  obtain ⟨a1, c1, i1⟩ := p_run (hval 1 24 v1 rfl rfl) h1
  have hwalk := (mirror_ok a0 a1 i0 i1).2 (glbOf W).A W [v0, v1] (fun b hb => hb.1) (fun b hb => ⟨hb, rfl⟩) rfl (fun i hi => by
    match i, hi with
    | 0, _ => exact agg_avoid F c0
    | 1, _ => exact agg_avoid F c1
    )
  refine hwalk.mono fun e W' ⟨v, he, hv, hb⟩ => ?_
  obtain rfl := hv.raw_inv
  exact ⟨_, he, law_post laidOut readable rfl rfl Tryz.underlying4 hW' rfl hb.1⟩

theorem y1 : Tryz.pinned.checked.prog.funcNamed Rows.profileMirrorRow.func = some 9 := by kernel_rfl
theorem y2 : Tryz.f9.isInstance Tryz.pinned.checked.prog Rows.profileMirrorRow.origin Rows.profileMirrorRow.targs := of_decide_eq_true (by kernel_rfl)
theorem y3 : Tryz.f9.isWrapper Tryz.pinned.checked.prog Rows.profileMirrorRow.wrapper Rows.profileMirrorRow.mainSum := by unfold Func.isWrapper; first | (rw [if_pos (by decide +kernel)]; kernel_rfl) | (rw [if_neg (by decide +kernel)]; exact ⟨rfl, rfl⟩)
theorem y4 : Rows.profileMirrorRow.wfByText (OpenSpec.ofChange Rows.profileMirrorSpec) = true := by kernel_rfl
theorem y5 : Tryz.pinned.checked.prog.mainIs = some (true, "07693686575330354d0206a8c6edced7d1f094436d865ca4f8ed291d0c16258d".toList) := by kernel_rfl
theorem y6 : true = Tryz.pinned.checked.prog.looks [] := by kernel_rfl
theorem y7 : false = Rows.profileMirrorRow.goesBy Tryz.pinned.checked.prog := by
  unfold OpenClaim.goesBy Program.goesAt Program.goesFrom
  rw [y1, Option.any_some]
  have h := goes_no 9
  rw [show Tryz.pinned.checked.prog.goes 9 = false from h]
  rfl
theorem y8 : ([24, 24].all fun u => !Tryz.prog.wantsStandIn u) = true := by kernel_rfl
end profileMirror
end Go.Proofs.YtgbeghjnllfdjaaGreatDoor
