/- No function of the program starts a goroutine: looked at in parts. No condition. -/
import Derived.Test.YtgbeghjnllfdjaaGreatDoorLo
import GoSem.ClaimGoes
import Derived.KernelRfl
namespace Go.Am
open Go Go.Proofs
theorem ga0 : ((List.range' 0 40).all fun g => !((Tryz.prog.funcs[g]?).any Func.goes)) = true := by kernel_rfl
theorem ga40 : ((List.range' 40 40).all fun g => !((Tryz.prog.funcs[g]?).any Func.goes)) = true := by kernel_rfl
theorem ga80 : ((List.range' 80 40).all fun g => !((Tryz.prog.funcs[g]?).any Func.goes)) = true := by kernel_rfl
theorem ga120 : ((List.range' 120 40).all fun g => !((Tryz.prog.funcs[g]?).any Func.goes)) = true := by kernel_rfl
theorem ga160 : ((List.range' 160 40).all fun g => !((Tryz.prog.funcs[g]?).any Func.goes)) = true := by kernel_rfl
theorem ga200 : ((List.range' 200 40).all fun g => !((Tryz.prog.funcs[g]?).any Func.goes)) = true := by kernel_rfl
theorem ga240 : ((List.range' 240 40).all fun g => !((Tryz.prog.funcs[g]?).any Func.goes)) = true := by kernel_rfl
theorem ga280 : ((List.range' 280 40).all fun g => !((Tryz.prog.funcs[g]?).any Func.goes)) = true := by kernel_rfl
theorem ga320 : ((List.range' 320 40).all fun g => !((Tryz.prog.funcs[g]?).any Func.goes)) = true := by kernel_rfl
theorem ga360 : ((List.range' 360 40).all fun g => !((Tryz.prog.funcs[g]?).any Func.goes)) = true := by kernel_rfl
theorem ga400 : ((List.range' 400 40).all fun g => !((Tryz.prog.funcs[g]?).any Func.goes)) = true := by kernel_rfl
theorem ga440 : ((List.range' 440 40).all fun g => !((Tryz.prog.funcs[g]?).any Func.goes)) = true := by kernel_rfl
theorem ga480 : ((List.range' 480 40).all fun g => !((Tryz.prog.funcs[g]?).any Func.goes)) = true := by kernel_rfl
theorem ga520 : ((List.range' 520 40).all fun g => !((Tryz.prog.funcs[g]?).any Func.goes)) = true := by kernel_rfl
theorem ga560 : ((List.range' 560 40).all fun g => !((Tryz.prog.funcs[g]?).any Func.goes)) = true := by kernel_rfl
theorem ga600 : ((List.range' 600 28).all fun g => !((Tryz.prog.funcs[g]?).any Func.goes)) = true := by kernel_rfl
theorem ga_size : Tryz.prog.funcs.size = 628 := by kernel_rfl
theorem goes_at (g : Nat) : (Tryz.prog.funcs[g]?).any Func.goes = false := by
  have key : ∀ {a n : Nat}, ((List.range' a n).all fun g => !((Tryz.prog.funcs[g]?).any Func.goes)) = true → a ≤ g → g < a + n → (Tryz.prog.funcs[g]?).any Func.goes = false := fun h h1 h2 => by
    have := lo_in h h1 h2
    simpa using this
  by_cases hs : g < 628
  · by_cases h0 : g < 40
    · exact key ga0 (by omega) (by omega)
    by_cases h40 : g < 80
    · exact key ga40 (by omega) (by omega)
    by_cases h80 : g < 120
    · exact key ga80 (by omega) (by omega)
    by_cases h120 : g < 160
    · exact key ga120 (by omega) (by omega)
    by_cases h160 : g < 200
    · exact key ga160 (by omega) (by omega)
    by_cases h200 : g < 240
    · exact key ga200 (by omega) (by omega)
    by_cases h240 : g < 280
    · exact key ga240 (by omega) (by omega)
    by_cases h280 : g < 320
    · exact key ga280 (by omega) (by omega)
    by_cases h320 : g < 360
    · exact key ga320 (by omega) (by omega)
    by_cases h360 : g < 400
    · exact key ga360 (by omega) (by omega)
    by_cases h400 : g < 440
    · exact key ga400 (by omega) (by omega)
    by_cases h440 : g < 480
    · exact key ga440 (by omega) (by omega)
    by_cases h480 : g < 520
    · exact key ga480 (by omega) (by omega)
    by_cases h520 : g < 560
    · exact key ga520 (by omega) (by omega)
    by_cases h560 : g < 600
    · exact key ga560 (by omega) (by omega)
    by_cases h600 : g < 628
    · exact key ga600 (by omega) (by omega)
    omega
  · rw [Array.getElem?_eq_none (by rw [ga_size]; omega)]
    rfl
theorem goes_all : Tryz.prog.funcs.any Func.goes = false := by
  rw [Bool.eq_false_iff]
  intro h
  rw [Array.any_eq_true] at h
  obtain ⟨i, hi, hg⟩ := h
  have := goes_at i
  rw [Array.getElem?_eq_getElem hi, Option.any_some, hg] at this
  cases this
theorem goes_no (f : FuncId) : Tryz.prog.goes f = false := by
  unfold Program.goes
  rw [goes_all, Bool.and_false, Bool.or_false, List.any_eq_false]
  intro g _
  rw [goes_at g]
  decide
end Go.Am
