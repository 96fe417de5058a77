/- The program's types are laid out as the model asks: checked in parts. No condition. -/
import Derived.Test.YtgbeghjnllfdjaaGreatDoorM3
import Derived.Test.YtgbeghjnllfdjaaGreatDoorProg
import Derived.KernelRfl
import GoSem.ClaimDataLaid
namespace Go.Am
open Go Go.Proofs
theorem lo0 : ((List.range' 0 50).all (rowFine Tryz.prog)) = true := by kernel_rfl
theorem lo50 : ((List.range' 50 50).all (rowFine Tryz.prog)) = true := by kernel_rfl
theorem lo100 : ((List.range' 100 50).all (rowFine Tryz.prog)) = true := by kernel_rfl
theorem lo150 : ((List.range' 150 50).all (rowFine Tryz.prog)) = true := by kernel_rfl
theorem lo200 : ((List.range' 200 50).all (rowFine Tryz.prog)) = true := by kernel_rfl
theorem lo250 : ((List.range' 250 50).all (rowFine Tryz.prog)) = true := by kernel_rfl
theorem lo300 : ((List.range' 300 50).all (rowFine Tryz.prog)) = true := by kernel_rfl
theorem lo350 : ((List.range' 350 50).all (rowFine Tryz.prog)) = true := by kernel_rfl
theorem lo400 : ((List.range' 400 50).all (rowFine Tryz.prog)) = true := by kernel_rfl
theorem lo450 : ((List.range' 450 50).all (rowFine Tryz.prog)) = true := by kernel_rfl
theorem lo500 : ((List.range' 500 50).all (rowFine Tryz.prog)) = true := by kernel_rfl
theorem lo550 : ((List.range' 550 50).all (rowFine Tryz.prog)) = true := by kernel_rfl
theorem lo600 : ((List.range' 600 50).all (rowFine Tryz.prog)) = true := by kernel_rfl
theorem lo650 : ((List.range' 650 50).all (rowFine Tryz.prog)) = true := by kernel_rfl
theorem lo700 : ((List.range' 700 3).all (rowFine Tryz.prog)) = true := by kernel_rfl
theorem lo_in {p : Nat → Bool} {a n t : Nat} (h : (List.range' a n).all p = true) (h1 : a ≤ t) (h2 : t < a + n) : p t = true := List.all_eq_true.1 h t (List.mem_range'_1.2 ⟨h1, h2⟩)
theorem lo_size : Tryz.prog.types.size = 703 := by kernel_rfl
theorem lo_glb : (Tryz.prog.globals.all fun g => decide (g.type < Tryz.prog.types.size)) = true := by kernel_rfl
theorem lo_fun : (Tryz.prog.funcs.all fun f => f.params.all fun t => decide (t < Tryz.prog.types.size)) = true := by kernel_rfl
theorem laid_out : laidOutB Tryz.prog = true := by
  unfold laidOutB
  rw [lo_glb, lo_fun, Bool.and_true, Bool.and_true, List.all_eq_true]
  intro t ht
  rw [List.mem_range, lo_size] at ht
  by_cases h0 : t < 50
  · exact lo_in lo0 (by omega) (by omega)
  by_cases h50 : t < 100
  · exact lo_in lo50 (by omega) (by omega)
  by_cases h100 : t < 150
  · exact lo_in lo100 (by omega) (by omega)
  by_cases h150 : t < 200
  · exact lo_in lo150 (by omega) (by omega)
  by_cases h200 : t < 250
  · exact lo_in lo200 (by omega) (by omega)
  by_cases h250 : t < 300
  · exact lo_in lo250 (by omega) (by omega)
  by_cases h300 : t < 350
  · exact lo_in lo300 (by omega) (by omega)
  by_cases h350 : t < 400
  · exact lo_in lo350 (by omega) (by omega)
  by_cases h400 : t < 450
  · exact lo_in lo400 (by omega) (by omega)
  by_cases h450 : t < 500
  · exact lo_in lo450 (by omega) (by omega)
  by_cases h500 : t < 550
  · exact lo_in lo500 (by omega) (by omega)
  by_cases h550 : t < 600
  · exact lo_in lo550 (by omega) (by omega)
  by_cases h600 : t < 650
  · exact lo_in lo600 (by omega) (by omega)
  by_cases h650 : t < 700
  · exact lo_in lo650 (by omega) (by omega)
  by_cases h700 : t < 703
  · exact lo_in lo700 (by omega) (by omega)
  omega
end Go.Am
