/- The closed facts of the row of the law ProfileMirror, one by one. No condition. -/
import Derived.Test.YtgbeghjnllfdjaaGreatDoorLo
import Derived.Test.YtgbeghjnllfdjaaGreatDoorRows
import Derived.JoinedOf
import Derived.KernelRfl
set_option linter.unusedVariables false
namespace Go.Proofs.YtgbeghjnllfdjaaGreatDoor
namespace profileMirrorFacts
open Go
theorem and2 {a b : Bool} (ha : a = true) (hb : b = true) : (a && b) = true := by rw [ha, hb]; rfl
def c0 : List FuncId := [9, 10, 12, 28, 64, 100, 101, 200, 201, 29, 11, 21, 43, 69, 105, 44, 70, 106, 203, 318, 319, 426, 204, 320, 205, 321, 427, 428, 429, 511, 45, 71, 107, 206, 322, 108, 208, 207, 209, 211, 323, 210, 213, 325, 431, 324, 430, 512, 212, 109, 214, 326, 432, 513, 514, 215, 327, 433, 328, 329]
def c1 : List FuncId := [68, 104, 202, 314, 315, 162, 422, 423, 316, 317, 424, 425, 510, 233, 434, 330, 13, 30, 65, 102, 66, 31, 19, 38, 67, 103, 39, 32, 40, 16, 35, 36, 33, 34, 14, 26, 51, 78, 50, 77, 49, 73, 110, 75, 111, 221, 339, 441, 340, 222, 223, 236, 239, 351, 224, 341, 343, 342, 263, 112]
def c2 : List FuncId := [225, 87, 161, 344, 442, 345, 88, 443, 515, 444, 281, 282, 445, 516, 517, 552, 446, 447, 448, 449, 226, 237, 227, 346, 228, 347, 113, 229, 230, 231, 115, 116, 232, 348, 114, 117, 119, 235, 350, 238, 137, 118, 234, 349, 450, 120, 240, 352, 353, 451, 354, 355, 452, 453, 518, 356, 357, 358, 359, 121]
def c3 : List FuncId := [124, 242, 123, 241, 56, 122, 217, 216, 218, 331, 264, 333, 332, 435, 219, 334, 436, 335, 336, 125, 127, 243, 220, 337, 437, 438, 338, 440, 439, 74, 76, 126, 52, 79, 128, 244, 360, 454, 519, 455, 456, 361, 80, 129, 245, 246, 362, 457, 458, 520, 553, 247, 248, 363, 459, 249, 364, 460, 250, 252]
def c4 : List FuncId := [253, 251, 254, 130, 131, 255, 365, 267, 372, 371, 132, 257, 258, 461, 521, 375, 150, 266, 554, 555, 568, 556, 569, 535, 558, 560, 573, 559, 571, 576, 572, 577, 583, 584, 593, 585, 586, 594, 595, 596, 587, 588, 589, 590, 561, 522, 462, 366, 463, 464, 498, 528, 396, 480, 481, 536, 399, 484, 537, 482]
def c5 : List FuncId := [538, 465, 523, 529, 466, 467, 524, 468, 367, 469, 525, 526, 470, 256, 134, 133, 259, 260, 368, 471, 53, 81, 135, 262, 261, 369, 136, 138, 139, 140, 265, 370, 472, 299, 473, 527, 557, 570, 531, 530, 532, 406, 141, 82, 142, 269, 268, 373, 143, 144, 270, 272, 271, 374, 145, 273, 376, 474, 377, 378]
def c6 : List FuncId := [274, 83, 146, 276, 275, 379, 147, 84, 148, 278, 277, 380, 149, 85, 151, 279, 381, 387, 382, 475, 383, 384, 476, 477, 533, 385, 386, 388, 389, 152, 54, 86, 153, 154, 280, 155, 156, 283, 284, 390, 157, 158, 159, 160, 55, 57, 89, 163, 164, 285, 165, 166, 286, 287, 391, 167, 168, 169, 170, 58]
def c7 : List FuncId := [59, 90, 171, 172, 288, 173, 174, 289, 290, 392, 175, 176, 177, 178, 60, 61, 91, 179, 180, 291, 181, 182, 292, 293, 393, 183, 184, 185, 186, 62, 27, 63, 92, 93, 187, 294, 295, 296, 297, 94, 95, 188, 298, 395, 394, 478, 534, 479, 300, 397, 301, 398, 483, 96, 97, 189, 302, 303, 98, 190]
def c8 : List FuncId := [304, 400, 401, 308, 412, 402, 485, 487, 486, 488, 539, 562, 574, 578, 579, 580, 591, 581, 592, 582, 563, 489, 403, 490, 540, 541, 564, 542, 543, 565, 566, 575, 544, 545, 546, 547, 404, 199, 313, 191, 305, 405, 491, 492, 306, 407, 494, 493, 408, 496, 495, 409, 497, 410, 192, 193, 307, 411, 194, 99]
def c9 : List FuncId := [195, 197, 311, 310, 309, 413, 499, 500, 548, 501, 502, 549, 550, 567, 503, 504, 505, 506, 196, 198, 312, 414, 415, 507, 416, 417, 508, 509, 551, 418, 419, 420, 421, 23, 18]
theorem cl : Tryz.prog.closure 9 = c0 ++ (c1 ++ (c2 ++ (c3 ++ (c4 ++ (c5 ++ (c6 ++ (c7 ++ (c8 ++ (c9))))))))) := by kernel_rfl
theorem g0 : (c0.flatMap fun g => ((Tryz.prog.funcs[g]?).bind (·.body)).elim [] Code.globalsNamed) = [5, 6, 0, 0, 0, 3, 4] := by kernel_rfl
theorem e0 : (c0.filterMap fun g => (Tryz.prog.funcs[g]?).bind fun fn => if fn.body.isNone then entryReads.lookup fn.name else none) = ["internal/bytealg.MaxLen"] := by kernel_rfl
theorem g1 : (c1.flatMap fun g => ((Tryz.prog.funcs[g]?).bind (·.body)).elim [] Code.globalsNamed) = [2, 7, 1] := by kernel_rfl
theorem e1 : (c1.filterMap fun g => (Tryz.prog.funcs[g]?).bind fun fn => if fn.body.isNone then entryReads.lookup fn.name else none) = [] := by kernel_rfl
theorem g2 : (c2.flatMap fun g => ((Tryz.prog.funcs[g]?).bind (·.body)).elim [] Code.globalsNamed) = [] := by kernel_rfl
theorem e2 : (c2.filterMap fun g => (Tryz.prog.funcs[g]?).bind fun fn => if fn.body.isNone then entryReads.lookup fn.name else none) = [] := by kernel_rfl
theorem g3 : (c3.flatMap fun g => ((Tryz.prog.funcs[g]?).bind (·.body)).elim [] Code.globalsNamed) = [] := by kernel_rfl
theorem e3 : (c3.filterMap fun g => (Tryz.prog.funcs[g]?).bind fun fn => if fn.body.isNone then entryReads.lookup fn.name else none) = [] := by kernel_rfl
theorem g4 : (c4.flatMap fun g => ((Tryz.prog.funcs[g]?).bind (·.body)).elim [] Code.globalsNamed) = [] := by kernel_rfl
theorem e4 : (c4.filterMap fun g => (Tryz.prog.funcs[g]?).bind fun fn => if fn.body.isNone then entryReads.lookup fn.name else none) = [] := by kernel_rfl
theorem g5 : (c5.flatMap fun g => ((Tryz.prog.funcs[g]?).bind (·.body)).elim [] Code.globalsNamed) = [] := by kernel_rfl
theorem e5 : (c5.filterMap fun g => (Tryz.prog.funcs[g]?).bind fun fn => if fn.body.isNone then entryReads.lookup fn.name else none) = [] := by kernel_rfl
theorem g6 : (c6.flatMap fun g => ((Tryz.prog.funcs[g]?).bind (·.body)).elim [] Code.globalsNamed) = [] := by kernel_rfl
theorem e6 : (c6.filterMap fun g => (Tryz.prog.funcs[g]?).bind fun fn => if fn.body.isNone then entryReads.lookup fn.name else none) = [] := by kernel_rfl
theorem g7 : (c7.flatMap fun g => ((Tryz.prog.funcs[g]?).bind (·.body)).elim [] Code.globalsNamed) = [] := by kernel_rfl
theorem e7 : (c7.filterMap fun g => (Tryz.prog.funcs[g]?).bind fun fn => if fn.body.isNone then entryReads.lookup fn.name else none) = [] := by kernel_rfl
theorem g8 : (c8.flatMap fun g => ((Tryz.prog.funcs[g]?).bind (·.body)).elim [] Code.globalsNamed) = [] := by kernel_rfl
theorem e8 : (c8.filterMap fun g => (Tryz.prog.funcs[g]?).bind fun fn => if fn.body.isNone then entryReads.lookup fn.name else none) = [] := by kernel_rfl
theorem g9 : (c9.flatMap fun g => ((Tryz.prog.funcs[g]?).bind (·.body)).elim [] Code.globalsNamed) = [] := by kernel_rfl
theorem e9 : (c9.filterMap fun g => (Tryz.prog.funcs[g]?).bind fun fn => if fn.body.isNone then entryReads.lookup fn.name else none) = [] := by kernel_rfl
theorem vn : Rows.profileMirrorRow.named = Tryz.prog.varsNamed 9 := by
  unfold Program.varsNamed
  rw [cl]
  simp only [List.flatMap_append, List.filterMap_append, g0, e0, g1, e1, g2, e2, g3, e3, g4, e4, g5, e5, g6, e6, g7, e7, g8, e8, g9, e9]
  kernel_rfl
theorem ip : Rows.profileMirrorRow.inPlace = Tryz.prog.inPlace 9 := by
  unfold Program.inPlace
  rw [cl]
  kernel_rfl
theorem uf : Tryz.prog.unfollowed 9 = true := by
  unfold Program.unfollowed
  rw [cl]
  kernel_rfl
theorem rc : Tryz.prog.recurses 9 = true := by
  unfold Program.recurses
  rw [uf]
  rfl
theorem beq2 {a b : List String} (h : a = b) : (a == b) = true := by rw [h]; exact beq_self_eq_true _
theorem j0 : (fun (P : Program) (f : FuncId) (fn : Func) (s : ChangeSpec) (c : OpenClaim) => ((c.wf (OpenSpec.ofChange s) : Bool))) Tryz.prog 9 Tryz.f9 Rows.profileMirrorSpec Rows.profileMirrorRow = true := by kernel_rfl
theorem j1 : (fun (P : Program) (f : FuncId) (fn : Func) (s : ChangeSpec) (c : OpenClaim) => ((laidOutB P : Bool))) Tryz.prog 9 Tryz.f9 Rows.profileMirrorSpec Rows.profileMirrorRow = true := Go.Am.laid_out
theorem j2 : (fun (P : Program) (f : FuncId) (fn : Func) (s : ChangeSpec) (c : OpenClaim) => ((mapsRowed P : Bool))) Tryz.prog 9 Tryz.f9 Rows.profileMirrorSpec Rows.profileMirrorRow = true := by kernel_rfl
theorem j3 : (fun (P : Program) (f : FuncId) (fn : Func) (s : ChangeSpec) (c : OpenClaim) => ((fn.params.all (P.readableRec ·) : Bool))) Tryz.prog 9 Tryz.f9 Rows.profileMirrorSpec Rows.profileMirrorRow = true := by kernel_rfl
theorem j4 : (fun (P : Program) (f : FuncId) (fn : Func) (s : ChangeSpec) (c : OpenClaim) => ((namedTie P c.named s.vars : Bool))) Tryz.prog 9 Tryz.f9 Rows.profileMirrorSpec Rows.profileMirrorRow = true := by kernel_rfl
theorem j5 : (fun (P : Program) (f : FuncId) (fn : Func) (s : ChangeSpec) (c : OpenClaim) => (((c.stops == []) : Bool))) Tryz.prog 9 Tryz.f9 Rows.profileMirrorSpec Rows.profileMirrorRow = true := by kernel_rfl
theorem j6 : (fun (P : Program) (f : FuncId) (fn : Func) (s : ChangeSpec) (c : OpenClaim) => (((P.stops == []) : Bool))) Tryz.prog 9 Tryz.f9 Rows.profileMirrorSpec Rows.profileMirrorRow = true := by kernel_rfl
theorem j7 : (fun (P : Program) (f : FuncId) (fn : Func) (s : ChangeSpec) (c : OpenClaim) => (((c.knobs == []) : Bool))) Tryz.prog 9 Tryz.f9 Rows.profileMirrorSpec Rows.profileMirrorRow = true := by kernel_rfl
theorem j8 : (fun (P : Program) (f : FuncId) (fn : Func) (s : ChangeSpec) (c : OpenClaim) => (((P.stopKnobs == []) : Bool))) Tryz.prog 9 Tryz.f9 Rows.profileMirrorSpec Rows.profileMirrorRow = true := by kernel_rfl
theorem j9 : (fun (P : Program) (f : FuncId) (fn : Func) (s : ChangeSpec) (c : OpenClaim) => (((c.inPlace == P.inPlace f) : Bool))) Tryz.prog 9 Tryz.f9 Rows.profileMirrorSpec Rows.profileMirrorRow = true := beq2 ip
theorem j10 : (fun (P : Program) (f : FuncId) (fn : Func) (s : ChangeSpec) (c : OpenClaim) => (((c.unfollowed == P.unfollowed f) : Bool))) Tryz.prog 9 Tryz.f9 Rows.profileMirrorSpec Rows.profileMirrorRow = true := by
  show (Rows.profileMirrorRow.unfollowed == Tryz.prog.unfollowed 9) = true
  rw [uf]
  rfl
theorem j11 : (fun (P : Program) (f : FuncId) (fn : Func) (s : ChangeSpec) (c : OpenClaim) => (((c.recurses == P.recurses f) : Bool))) Tryz.prog 9 Tryz.f9 Rows.profileMirrorSpec Rows.profileMirrorRow = true := by
  show (Rows.profileMirrorRow.recurses == Tryz.prog.recurses 9) = true
  rw [rc]
  rfl
theorem j12 : (fun (P : Program) (f : FuncId) (fn : Func) (s : ChangeSpec) (c : OpenClaim) => (((c.named == P.varsNamed f) : Bool))) Tryz.prog 9 Tryz.f9 Rows.profileMirrorSpec Rows.profileMirrorRow = true := beq2 vn
theorem j13 : (fun (P : Program) (f : FuncId) (fn : Func) (s : ChangeSpec) (c : OpenClaim) => (((c.maps == (fn.params.toList ++ s.plain.varTypes P).any (P.mapsRec ·)) : Bool))) Tryz.prog 9 Tryz.f9 Rows.profileMirrorSpec Rows.profileMirrorRow = true := by kernel_rfl
theorem j14 : (fun (P : Program) (f : FuncId) (fn : Func) (s : ChangeSpec) (c : OpenClaim) => (((c.ifaces == (fn.params.toList ++ s.plain.varTypes P).any (P.ifacesRec ·)) : Bool))) Tryz.prog 9 Tryz.f9 Rows.profileMirrorSpec Rows.profileMirrorRow = true := by kernel_rfl
theorem j15 : (fun (P : Program) (f : FuncId) (fn : Func) (s : ChangeSpec) (c : OpenClaim) => (((c.mapsOut == P.mapsAmong fn.resultTypes.toList) : Bool))) Tryz.prog 9 Tryz.f9 Rows.profileMirrorSpec Rows.profileMirrorRow = true := by kernel_rfl
theorem j16 : (fun (P : Program) (f : FuncId) (fn : Func) (s : ChangeSpec) (c : OpenClaim) => (((c.loops == (fn.params.toList ++ s.plain.varTypes P).any (P.loopsFrom ·)) : Bool))) Tryz.prog 9 Tryz.f9 Rows.profileMirrorSpec Rows.profileMirrorRow = true := by kernel_rfl
theorem j17 : (fun (P : Program) (f : FuncId) (fn : Func) (s : ChangeSpec) (c : OpenClaim) => (((c.wideKeys == (fn.params.toList ++ s.plain.varTypes P ++ fn.resultTypes.toList).any (P.wideKeysFrom ·)) : Bool))) Tryz.prog 9 Tryz.f9 Rows.profileMirrorSpec Rows.profileMirrorRow = true := by kernel_rfl
theorem j18 : (fun (P : Program) (f : FuncId) (fn : Func) (s : ChangeSpec) (c : OpenClaim) => ((s.vars.all (P.varReadable ·) : Bool))) Tryz.prog 9 Tryz.f9 Rows.profileMirrorSpec Rows.profileMirrorRow = true := by kernel_rfl
theorem j19 : (fun (P : Program) (f : FuncId) (fn : Func) (s : ChangeSpec) (c : OpenClaim) => ((fn.resultTypes.all (fun t => P.readableRec t && decide (t < P.types.size)) : Bool))) Tryz.prog 9 Tryz.f9 Rows.profileMirrorSpec Rows.profileMirrorRow = true := by kernel_rfl
theorem j20 : (fun (P : Program) (f : FuncId) (fn : Func) (s : ChangeSpec) (c : OpenClaim) => (((c.ifacesOut == fn.resultTypes.toList.any (P.ifacesRec ·)) : Bool))) Tryz.prog 9 Tryz.f9 Rows.profileMirrorSpec Rows.profileMirrorRow = true := by kernel_rfl
theorem j21 : (fun (P : Program) (f : FuncId) (fn : Func) (s : ChangeSpec) (c : OpenClaim) => (((c.loopsOut == fn.resultTypes.toList.any (P.loopsFrom ·)) : Bool))) Tryz.prog 9 Tryz.f9 Rows.profileMirrorSpec Rows.profileMirrorRow = true := by kernel_rfl
theorem j22 : (fun (P : Program) (f : FuncId) (fn : Func) (s : ChangeSpec) (c : OpenClaim) => (((c.plainKeys == P.plainKeys) : Bool))) Tryz.prog 9 Tryz.f9 Rows.profileMirrorSpec Rows.profileMirrorRow = true := by kernel_rfl
theorem j23 : (fun (P : Program) (f : FuncId) (fn : Func) (s : ChangeSpec) (c : OpenClaim) => ((c.shortTexts.isNone : Bool))) Tryz.prog 9 Tryz.f9 Rows.profileMirrorSpec Rows.profileMirrorRow = true := by kernel_rfl
theorem j24 : (fun (P : Program) (f : FuncId) (fn : Func) (s : ChangeSpec) (c : OpenClaim) => ((P.stopsHeard : Bool))) Tryz.prog 9 Tryz.f9 Rows.profileMirrorSpec Rows.profileMirrorRow = true := by kernel_rfl
theorem j25 : (fun (P : Program) (f : FuncId) (fn : Func) (s : ChangeSpec) (c : OpenClaim) => ((P.mayEnter : Bool))) Tryz.prog 9 Tryz.f9 Rows.profileMirrorSpec Rows.profileMirrorRow = true := by kernel_rfl
theorem j26 : (fun (P : Program) (f : FuncId) (fn : Func) (s : ChangeSpec) (c : OpenClaim) => (((c.lifted == P.liftsFinal) : Bool))) Tryz.prog 9 Tryz.f9 Rows.profileMirrorSpec Rows.profileMirrorRow = true := by kernel_rfl
theorem j27 : (fun (P : Program) (f : FuncId) (fn : Func) (s : ChangeSpec) (c : OpenClaim) => (((P.make == some c.make) : Bool))) Tryz.prog 9 Tryz.f9 Rows.profileMirrorSpec Rows.profileMirrorRow = true := by kernel_rfl
theorem j28 : (fun (P : Program) (f : FuncId) (fn : Func) (s : ChangeSpec) (c : OpenClaim) => (((c.kinds == (if c.domain.isEmpty then [] else fn.params.toList.map fun t => match P.underlying t with | some (.int k) => some k | _ => none)) : Bool))) Tryz.prog 9 Tryz.f9 Rows.profileMirrorSpec Rows.profileMirrorRow = true := by kernel_rfl
theorem j29 : (fun (P : Program) (f : FuncId) (fn : Func) (s : ChangeSpec) (c : OpenClaim) => (((c.pinned == c.pinnedBy) : Bool))) Tryz.prog 9 Tryz.f9 Rows.profileMirrorSpec Rows.profileMirrorRow = true := by kernel_rfl
theorem j30 : (fun (P : Program) (f : FuncId) (fn : Func) (s : ChangeSpec) (c : OpenClaim) => (((c.veiled == (fn.params.toList ++ s.plain.varTypes P ++ fn.resultTypes.toList).any (P.veiledRec ·)) : Bool))) Tryz.prog 9 Tryz.f9 Rows.profileMirrorSpec Rows.profileMirrorRow = true := by kernel_rfl
theorem j31 : (fun (P : Program) (f : FuncId) (fn : Func) (s : ChangeSpec) (c : OpenClaim) => ((c.veiledFits P fn.params.toList (fn.params.toList ++ s.plain.varTypes P ++ fn.resultTypes.toList) : Bool))) Tryz.prog 9 Tryz.f9 Rows.profileMirrorSpec Rows.profileMirrorRow = true := by kernel_rfl
end profileMirrorFacts
end Go.Proofs.YtgbeghjnllfdjaaGreatDoor
