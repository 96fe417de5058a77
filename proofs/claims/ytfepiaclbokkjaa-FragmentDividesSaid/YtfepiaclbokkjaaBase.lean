/- The tables of this seat's program, as the abstract machine asks for them. No condition. -/
import Derived.Test.YtfepiaclbokkjaaAmE
import Derived.Test.YtfepiaclbokkjaaProg
import Derived.KernelRfl
namespace Go.Am
open Go.Proofs

theorem Try.mixed : Try.prog.follows .mixedOrders = true := by kernel_rfl
theorem Try.ti3 : tinfo Try.prog 3 = some { agg := false, size := 1, bytes := 8, elem := 0, slice := false, fields := [], zero := [.int .i64 0] } := by kernel_rfl
theorem Try.ti4 : tinfo Try.prog 4 = some { agg := false, size := 1, bytes := 1, elem := 0, slice := false, fields := [], zero := [.bool false] } := by kernel_rfl
theorem Try.ti9 : tinfo Try.prog 9 = some { agg := false, size := 1, bytes := 16, elem := 0, slice := false, fields := [], zero := [.string ⟨#[]⟩] } := by kernel_rfl
theorem Try.ti22 : tinfo Try.prog 22 = some { agg := false, size := 1, bytes := 24, elem := 43, slice := true, fields := [], zero := [.slice none 0 0] } := by kernel_rfl
theorem Try.ti24 : tinfo Try.prog 24 = some { agg := true, size := 2, bytes := 32, elem := 0, slice := false, fields := [(0, 1), (1, 1)], zero := [.int .i64 0, .slice none 0 0] } := by kernel_rfl
theorem Try.ti29 : tinfo Try.prog 29 = some { agg := false, size := 1, bytes := 24, elem := 3, slice := true, fields := [], zero := [.slice none 0 0] } := by kernel_rfl
theorem Try.ti33 : tinfo Try.prog 33 = some { agg := false, size := 1, bytes := 24, elem := 45, slice := true, fields := [], zero := [.slice none 0 0] } := by kernel_rfl
theorem Try.ti36 : tinfo Try.prog 36 = some { agg := false, size := 1, bytes := 24, elem := 38, slice := true, fields := [], zero := [.slice none 0 0] } := by kernel_rfl
theorem Try.ti38 : tinfo Try.prog 38 = some { agg := true, size := 5, bytes := 64, elem := 0, slice := false, fields := [(0, 1), (1, 1), (2, 1), (3, 1), (4, 1)], zero := [.int .i64 0, .string ⟨#[]⟩, .int .i64 0, .int .i64 0, .slice none 0 0] } := by kernel_rfl
theorem Try.ti39 : tinfo Try.prog 39 = some { agg := false, size := 1, bytes := 24, elem := 65, slice := true, fields := [], zero := [.slice none 0 0] } := by kernel_rfl
theorem Try.ti41 : tinfo Try.prog 41 = some { agg := true, size := 1, bytes := 24, elem := 0, slice := false, fields := [(0, 1)], zero := [.slice none 0 0] } := by kernel_rfl
theorem Try.ti43 : tinfo Try.prog 43 = some { agg := true, size := 12, bytes := 160, elem := 0, slice := false, fields := [(0, 1), (1, 1), (2, 1), (3, 1), (4, 1), (5, 1), (6, 5), (11, 1)], zero := [.int .i64 0, .int .i64 0, .int .i64 0, .int .i64 0, .string ⟨#[]⟩, .slice none 0 0, .int .i64 0, .string ⟨#[]⟩, .int .i64 0, .int .i64 0, .slice none 0 0, .slice none 0 0] } := by kernel_rfl
theorem Try.ti45 : tinfo Try.prog 45 = some { agg := true, size := 2, bytes := 16, elem := 0, slice := false, fields := [(0, 1), (1, 1)], zero := [.int .i64 0, .int .i64 0] } := by kernel_rfl
theorem Try.ti53 : tinfo Try.prog 53 = some { agg := false, size := 1, bytes := 24, elem := 55, slice := true, fields := [], zero := [.slice none 0 0] } := by kernel_rfl
theorem Try.ti55 : tinfo Try.prog 55 = some { agg := true, size := 2, bytes := 32, elem := 0, slice := false, fields := [(0, 1), (1, 1)], zero := [.int .i64 0, .slice none 0 0] } := by kernel_rfl
theorem Try.ti57 : tinfo Try.prog 57 = some { agg := false, size := 1, bytes := 24, elem := 59, slice := true, fields := [], zero := [.slice none 0 0] } := by kernel_rfl
theorem Try.ti59 : tinfo Try.prog 59 = some { agg := true, size := 2, bytes := 32, elem := 0, slice := false, fields := [(0, 1), (1, 1)], zero := [.int .i64 0, .slice none 0 0] } := by kernel_rfl
theorem Try.ti61 : tinfo Try.prog 61 = some { agg := false, size := 1, bytes := 24, elem := 4, slice := true, fields := [], zero := [.slice none 0 0] } := by kernel_rfl
theorem Try.ti63 : tinfo Try.prog 63 = some { agg := false, size := 1, bytes := 24, elem := 95, slice := true, fields := [], zero := [.slice none 0 0] } := by kernel_rfl
theorem Try.ti65 : tinfo Try.prog 65 = some { agg := true, size := 2, bytes := 32, elem := 0, slice := false, fields := [(0, 1), (1, 1)], zero := [.int .i64 0, .slice none 0 0] } := by kernel_rfl
theorem Try.ti67 : tinfo Try.prog 67 = some { agg := false, size := 1, bytes := 8, elem := 0, slice := false, fields := [], zero := [.int .i64 0] } := by kernel_rfl
theorem Try.ti95 : tinfo Try.prog 95 = some { agg := true, size := 2, bytes := 16, elem := 0, slice := false, fields := [(0, 1), (1, 1)], zero := [.int .i64 0, .int .i64 0] } := by kernel_rfl

attribute [go_sem] Try.ti3 Try.ti4 Try.ti9 Try.ti22 Try.ti24 Try.ti29 Try.ti33 Try.ti36 Try.ti38 Try.ti39 Try.ti41 Try.ti43 Try.ti45 Try.ti53 Try.ti55 Try.ti57 Try.ti59 Try.ti61 Try.ti63 Try.ti65 Try.ti67 Try.ti95
attribute [go_sem] Try.underlying3 Try.underlying5 Try.underlying9 Try.underlying22 Try.underlying29 Try.underlying33 Try.underlying36 Try.underlying39 Try.underlying53 Try.underlying57 Try.underlying61 Try.underlying63
end Go.Am
