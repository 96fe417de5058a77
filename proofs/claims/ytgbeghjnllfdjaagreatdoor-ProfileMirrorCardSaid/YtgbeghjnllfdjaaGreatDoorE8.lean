/- Texts of the proof: E8. No condition. -/
import Derived.Test.YtgbeghjnllfdjaaGreatDoorE3
import Derived.Test.YtgbeghjnllfdjaaGreatDoorE7
import Derived.Test.YtgbeghjnllfdjaaGreatDoorR
set_option linter.unusedVariables false
set_option linter.unusedSimpArgs false
open Go Go.Proofs
namespace Go.Am
set_option maxRecDepth 1000000
noncomputable def kAna : CallFn := kOr kF (kOf ([⟨75, [cPre], cCodes⟩] ++ kFd ++ kFt))
theorem kAna_ok [Glb] (B : Base49) : CallFnOk Tryz.prog kAna := kOr_ok (kF_ok B) (kOf_ok (by
 intro p hp
 rcases List.mem_append.1 hp with hp | hp
 · rcases List.mem_append.1 hp with hp | hp
   · obtain rfl := List.mem_singleton.1 hp
     exact codes_pre B
   · exact find_ok p hp
 · exact B.feats p hp))
noncomputable def stAna : ESt := ⟨[[.c cPre, .c (.any), .c (.raw (.pointer none)), .c (.raw (.int .i64 0)), .c cCds, .c (.raw (.int .i64 0)), .ptr 1 0, .c (.any)],
 [.ptr 14 0, .c (.raw (.int .i64 0)), .c (.raw (.int .i64 0)), .c cCodes, .c cPre, .c cCodes, .c cCds, .c (.raw (.int .i64 0))],
 [.c (.raw (.int .i64 0)), .c (.raw (.bool false)), .c (.any), .c cPre, .c cCds, .mref 0, .agg [.c cPre, .c cCds, .mref 0, .emp, .emp, .emp], .ptr 1 0],
 [.c cPre, .c (.raw (.int .i64 13)), .c (.raw (.int .i64 13)), .c (.raw (.bool false)), .pim [.raw (.string ⟨#[115,105,103,110]⟩), .im 1 1 (rowFn [[.raw (.string ⟨#[116,111,112]⟩)]]), .im 2 2 (rowFn [[.raw (.string ⟨#[83,69,77]⟩), .raw (.string ⟨#[115,101,109]⟩)], [.raw (.string ⟨#[65,82,71,83]⟩), .raw (.string ⟨#[108,105,115,116]⟩)]])], .c (.agg [.raw (.string ⟨#[115,105,103,110]⟩), .im 1 1 (rowFn [[.raw (.string ⟨#[116,111,112]⟩)]]), .im 2 2 (rowFn [[.raw (.string ⟨#[83,69,77]⟩), .raw (.string ⟨#[115,101,109]⟩)], [.raw (.string ⟨#[65,82,71,83]⟩), .raw (.string ⟨#[108,105,115,116]⟩)]])]), .ptr 1 0, .ptr 1 0],
 [.ptr 1 2, .mref 0, .ptr 14 0, .c (.raw (.string ⟨#[115,105,103,110]⟩)), .c cCds, .fn 217 [.ptr 14 0], .c (.raw (.int .i64 12)), .c (.raw (.int .i64 13))],
 [.ptr 1 0, .c (.raw (.int .i64 0)), .c (.raw (.int .i64 0)), .c (.raw (.bool false)), .c (.any), .ptr 1 0, .c (.raw (.int .i64 0)), .c (.raw (.int .i64 0))],
 [.c (.raw (.bool false)), .c (.any), .c (.any), .c (.any), .c (.any), .c (.any), .c (.any), .c (.any)]],
 [.map [((.string ⟨#[116,111,112]⟩), 0, .c (.raw (.int .i64 0))), ((.string ⟨#[108,105,115,116]⟩), 1, .c (.raw (.int .i64 2))), ((.string ⟨#[99,111,110,115]⟩), 2, .c (.raw (.int .i64 3))), ((.string ⟨#[110,117,108,108]⟩), 3, .c (.raw (.int .i64 8))), ((.string ⟨#[100,108,105,115,116]⟩), 4, .c (.raw (.int .i64 4))), ((.string ⟨#[105,110,100,101,120]⟩), 5, .c (.raw (.int .i64 1))), ((.string ⟨#[104,97,110,100,108,101]⟩), 6, .c (.raw (.int .i64 7))), ((.string ⟨#[101,118,101,110,116]⟩), 7, .c (.raw (.int .i64 6))), ((.string ⟨#[101,110,116,105,116,121]⟩), 8, .c (.raw (.int .i64 5))), ((.string ⟨#[114,101,108]⟩), 9, .c (.raw (.int .i64 10))), ((.string ⟨#[113,101,113]⟩), 10, .c (.raw (.int .i64 9))), ((.string ⟨#[115,101,109]⟩), 11, .c (.raw (.int .i64 11))), ((.string ⟨#[115,105,103,110]⟩), 12, .c (.raw (.int .i64 12)))] 13,
 .box 231 [.c cPre, .c cCds, .mref 0, .c (.im 1 13 (rowFn [[.raw (.string ⟨#[65,82,71,83]⟩)], [.raw (.string ⟨#[67,79,78,83]⟩)], [.raw (.string ⟨#[70,73,82,83,84]⟩)], [.raw (.string ⟨#[72,73,71,72]⟩)], [.raw (.string ⟨#[73,78,68,69,88]⟩)], [.raw (.string ⟨#[76,65,66,69,76]⟩)], [.raw (.string ⟨#[76,65,83,84]⟩)], [.raw (.string ⟨#[76,73,83,84]⟩)], [.raw (.string ⟨#[76,79,87]⟩)], [.raw (.string ⟨#[82,69,76,83]⟩)], [.raw (.string ⟨#[82,69,83,84]⟩)], [.raw (.string ⟨#[83,69,77]⟩)], [.raw (.string ⟨#[84,79,80]⟩)]])), .own 17 13, .emp],
 .box 106 [.c (.raw (.string ⟨#[116,111,112]⟩)), .c (.im 0 0 (rowFn [])), .c (.im 0 0 (rowFn []))],
 .box 106 [.c (.raw (.string ⟨#[108,105,115,116]⟩)), .c (.im 1 1 (rowFn [[.raw (.string ⟨#[116,111,112]⟩)]])), .c (.im 0 0 (rowFn []))],
 .box 106 [.c (.raw (.string ⟨#[99,111,110,115]⟩)), .c (.im 1 1 (rowFn [[.raw (.string ⟨#[108,105,115,116]⟩)]])), .c (.im 2 2 (rowFn [[.raw (.string ⟨#[70,73,82,83,84]⟩), .raw (.string ⟨#[116,111,112]⟩)], [.raw (.string ⟨#[82,69,83,84]⟩), .raw (.string ⟨#[108,105,115,116]⟩)]]))],
 .box 106 [.c (.raw (.string ⟨#[110,117,108,108]⟩)), .c (.im 1 1 (rowFn [[.raw (.string ⟨#[108,105,115,116]⟩)]])), .c (.im 0 0 (rowFn []))],
 .box 106 [.c (.raw (.string ⟨#[100,108,105,115,116]⟩)), .c (.im 1 1 (rowFn [[.raw (.string ⟨#[116,111,112]⟩)]])), .c (.im 2 2 (rowFn [[.raw (.string ⟨#[76,73,83,84]⟩), .raw (.string ⟨#[108,105,115,116]⟩)], [.raw (.string ⟨#[76,65,83,84]⟩), .raw (.string ⟨#[108,105,115,116]⟩)]]))],
 .box 106 [.c (.raw (.string ⟨#[105,110,100,101,120]⟩)), .c (.im 1 1 (rowFn [[.raw (.string ⟨#[116,111,112]⟩)]])), .c (.im 0 0 (rowFn []))],
 .box 106 [.c (.raw (.string ⟨#[104,97,110,100,108,101]⟩)), .c (.im 1 1 (rowFn [[.raw (.string ⟨#[105,110,100,101,120]⟩)]])), .c (.im 0 0 (rowFn []))],
 .box 106 [.c (.raw (.string ⟨#[101,118,101,110,116]⟩)), .c (.im 1 1 (rowFn [[.raw (.string ⟨#[105,110,100,101,120]⟩)]])), .c (.im 0 0 (rowFn []))],
 .box 106 [.c (.raw (.string ⟨#[101,110,116,105,116,121]⟩)), .c (.im 1 1 (rowFn [[.raw (.string ⟨#[105,110,100,101,120]⟩)]])), .c (.im 0 0 (rowFn []))],
 .box 106 [.c (.raw (.string ⟨#[114,101,108]⟩)), .c (.im 1 1 (rowFn [[.raw (.string ⟨#[116,111,112]⟩)]])), .c (.im 2 1 (rowFn [[.raw (.string ⟨#[76,65,66,69,76]⟩), .raw (.string ⟨#[104,97,110,100,108,101]⟩)]]))],
 .box 106 [.c (.raw (.string ⟨#[113,101,113]⟩)), .c (.im 1 1 (rowFn [[.raw (.string ⟨#[116,111,112]⟩)]])), .c (.im 2 2 (rowFn [[.raw (.string ⟨#[72,73,71,72]⟩), .raw (.string ⟨#[104,97,110,100,108,101]⟩)], [.raw (.string ⟨#[76,79,87]⟩), .raw (.string ⟨#[104,97,110,100,108,101]⟩)]]))],
 .box 106 [.c (.raw (.string ⟨#[115,101,109]⟩)), .c (.im 1 1 (rowFn [[.raw (.string ⟨#[116,111,112]⟩)]])), .c (.im 2 4 (rowFn [[.raw (.string ⟨#[84,79,80]⟩), .raw (.string ⟨#[104,97,110,100,108,101]⟩)], [.raw (.string ⟨#[73,78,68,69,88]⟩), .raw (.string ⟨#[105,110,100,101,120]⟩)], [.raw (.string ⟨#[82,69,76,83]⟩), .raw (.string ⟨#[100,108,105,115,116]⟩)], [.raw (.string ⟨#[67,79,78,83]⟩), .raw (.string ⟨#[100,108,105,115,116]⟩)]]))],
 .box 106 [.c (.raw (.string ⟨#[115,105,103,110]⟩)), .c (.im 1 1 (rowFn [[.raw (.string ⟨#[116,111,112]⟩)]])), .c (.im 2 2 (rowFn [[.raw (.string ⟨#[83,69,77]⟩), .raw (.string ⟨#[115,101,109]⟩)], [.raw (.string ⟨#[65,82,71,83]⟩), .raw (.string ⟨#[108,105,115,116]⟩)]]))],
 .gone,
 .gone,
 .row 3 1 13 (rowFn [[.raw (.int .i64 12)], [.raw (.int .i64 11)], [.raw (.int .i64 3)], [.raw (.int .i64 9)], [.raw (.int .i64 11)], [.raw (.int .i64 10)], [.raw (.int .i64 4)], [.raw (.int .i64 4)], [.raw (.int .i64 9)], [.raw (.int .i64 11)], [.raw (.int .i64 3)], [.raw (.int .i64 12)], [.raw (.int .i64 11)]])],
 [17, 1, 17, 1, 17, 1, 17, 1, 17, 1, 17, 1, 17, 1, 17, 1, 17, 1, 17, 1, 17, 1, 17, 1, 17, 1, 0, 1, 0, 14, 14, 0, 13, 13, 0, 12, 12, 0, 11, 11, 0, 10, 10, 0, 9, 9, 0, 8, 8, 0, 7, 7, 0, 6, 6, 0, 5, 5, 0, 4, 4, 0, 3, 3, 0, 2, 2, 1, 0]⟩
end Go.Am
