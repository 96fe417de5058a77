/- Texts of the proof: QG. No condition. -/
import Derived.Test.YtgbeghjnllfdjaaGreatDoorS3
import Derived.Test.YtgbeghjnllfdjaaGreatDoorS2
import Derived.Test.YtgbeghjnllfdjaaGreatDoorEM
set_option linter.unusedVariables false
set_option linter.unusedSimpArgs false
namespace Go.Am
open Go.Proofs
attribute [local go_sem ↓] ofL_cons ofH_cons upd_apply
set_option maxHeartbeats 4000000
set_option maxRecDepth 100000
set_option linter.unusedSimpArgs false
theorem tot_eq (a b c d e f : Int) : AggBin Tryz.prog .eql 30 [.int .i64 a, .int .i64 b, .int .i64 c, .int .i64 d, .int .i64 e, .int .i64 f] [.int .i64 a, .int .i64 b, .int .i64 c, .int .i64 d, .int .i64 e, .int .i64 f] (.bool true) := by
 intro u z w
 have hm : Tryz.prog.eqGuardType Tryz.prog.depth 30 = false := by kernel_rfl
 have hp : Tryz.prog.stoodInHeld 30 = false := by kernel_rfl
 have hf : Tryz.prog.underlying 30 = some (.struct (Tryz.prog.fieldsOf 30)) := by kernel_rfl
 simp only [Sem.run_bind, run_eqGuard_agg w .eql 30 u z _ _ hm, Result.andThen_ok, run_eql_struct, run_equalIn_struct w 9999 30 _ _ hf hp]
 simp [go_sem, Tryz.underlying30]
theorem Tryz.tiGram : tinfo Tryz.prog 59 = some { agg := true, size := 8, bytes := 192, elem := 0, slice := false, fields := [(0, 2), (2, 1), (3, 1), (4, 1), (5, 1), (6, 1), (7, 1)], zero := [.slice none 0 0, .slice none 0 0, .slice none 0 0, .slice none 0 0, .slice none 0 0, .slice none 0 0, .slice none 0 0, .slice none 0 0] } := by kernel_rfl
attribute [local go_sem] Tryz.tiGram
def exS1 : ByteArray := ⟨#[114, 117, 110, 32, 114, 10, 115, 49, 32, 50, 32, 57, 32, 50, 48, 32, 48, 10]⟩
def exS2 : ByteArray := ⟨#[114, 117, 110]⟩
def exS3 : ByteArray := ⟨#[114, 117, 110, 32, 82, 10]⟩
def exA : Rn := ⟨⟨#[114]⟩, [⟨⟨#[115, 49]⟩, 2, 9, 20, false⟩]⟩
def exB : Rn := ⟨⟨#[116]⟩, [⟨⟨#[115, 49]⟩, 3, 9, 20, false⟩, ⟨⟨#[115, 50]⟩, 0, 0, 0, true⟩]⟩
def exL : List Df := [⟨⟨#[115, 49]⟩, 2, 2, 3⟩, ⟨⟨#[115, 50]⟩, 0, 0, 0⟩]
theorem ex_a : checkF exA = 0 := by kernel_rfl
theorem ex_b : checkF exB = 0 := by kernel_rfl
theorem ex_1 : encodeF exA = (exS1, 0) := by kernel_rfl
theorem ex_2 : decodeF exS1 = (exA, 0) := by
 have := back_dec (r := exA) (by rw [ex_1])
 rw [ex_1] at this
 exact this
theorem ex_3 : decodeF exS2 = (rn0, 9) := by kernel_rfl
theorem ex_4 : decodeF exS3 = (rn0, 1) := by
 rw [decode_at (s := exS3) (by decide) (l := [114, 117, 110, 32, 82]) (u := []) (n := ⟨#[82]⟩) (by rfl) (by kernel_rfl), decA_nil]
 kernel_rfl
theorem ex_5 : compareF exA exB = (exL, 0) := by kernel_rfl
def embC : AV → AV
 | .emp => .c .emp
 | x => x
theorem ra_embC {w : World} {Z : Nat → Prop} {h : AH} {gs : Gs} {v : Value} {x : AV} (r : RA w Z h gs v x) : RA w Z h gs v (embC x) := by
 unfold embC
 split
 · cases r with
   | emp A => exact .c _ _ (.emp A)
 · exact r
theorem ra_aggC {w : World} {Z : Nat → Prop} {h : AH} {gs : Gs} {v : Value} {xs : List AV} (r : RA w Z h gs v (.agg xs)) : RA w Z h gs v (.agg (xs.map embC)) := by
 cases r with
 | agg cs _ hl ho hh =>
   refine .agg cs _ (by rw [List.length_map]; exact hl) (fun i hi => ho i (by rw [List.length_map] at hi; exact hi)) fun i hi => ?_
   rw [List.length_map] at hi
   have e : (xs.map embC).getD i default = embC (xs.getD i default) := by rw [getD_lt (by simpa using hi), getD_lt hi, List.getElem_map]
   rw [e]
   exact ra_embC (hh i hi)
theorem awpl_weakS [Glb] {P : Program} {nt : Nat} {fo : List Nat} {ops : Array Oper} {l : List Oper} {Q : APost} {s : Slots} {h : AH} (d : Nat) {x y : AV} (hs : s d = x) (hxy : ∀ (w : World) (Z : Nat → Prop) (h : AH) (gs : Gs) (v : Value), RA w Z h gs v x → RA w Z h gs v y) (hn : AWpL P nt fo ops l Q (upd s d y) h) : AWpL P nt fo ops l Q s h := by
 intro E a w I ⟨gs, R⟩
 have hsl : ∀ t, RA w (Zf E.Z gs) h gs (a.tmps.getD t undef) (upd s d y t) := fun t => by
   by_cases e : t = d
   · subst e
     rw [upd_same]
     exact hxy _ _ _ _ _ (hs ▸ R.slots t)
   · rw [upd_ne _ _ _ _ e]
     exact R.slots t
 exact hn E a w I ⟨gs, { R with slots := hsl }⟩
variable [Glb]
theorem d1_ok [NoDr] [Tabs] [TabM] : APure Tryz.prog 21 [.str exS1] (.tup [.agg (rnC exA), .int 0]) := by
 have := decode_go exS1
 rw [ex_2] at this
 exact this
theorem d2_ok [NoDr] [Tabs] [TabM] : APure Tryz.prog 21 [.str exS2] (.tup [.agg (rnC rn0), .int 9]) := by
 have := decode_go exS2
 rw [ex_3] at this
 exact this
theorem d3_ok [NoDr] [Tabs] [TabM] : APure Tryz.prog 21 [.str exS3] (.tup [.agg (rnC rn0), .int 1]) := by
 have := decode_go exS3
 rw [ex_4] at this
 exact this
theorem x1_ok [Tabs] : APure Tryz.prog 19 [.agg (rnC exA)] (.tup [.str exS1, .int 0]) := by
 have := encode_ok exA (by decide)
 rw [ex_1] at this
 exact this
theorem c1_ok : APure Tryz.prog 16 [.agg (rnC exA), .agg (rnC exB)] (.tup [dfL exL, .int 0]) := by
 have := compare_ok exA exB (by decide) (by decide)
 rw [ex_5] at this
 exact this
theorem t1_ok : APure Tryz.prog 14 [.agg (rnC exB)] (.agg [.int 2, .int 1, .int 3, .int 9, .int 20, .int 1]) := by
 have := totals_ok exB (by decide) fun x hx => ((check_facts ex_b).2.2 x hx).2
 have e : totC exB.items = [.int 2, .int 1, .int 3, .int 9, .int 20, .int 1] := by kernel_rfl
 rw [e] at this
 exact this
theorem s1_ok : APure Tryz.prog 23 [.agg (rnC exA), .agg (rnC exA)] (.bool true) := by
 have := rsame_ok exA exA (by decide)
 rw [decide_eq_true rfl] at this
 exact this
theorem s2_ok : APure Tryz.prog 18 [dfL exL, dfL exL] (.bool true) := by
 have := rsameD_ok exL exL (by decide)
 rw [decide_eq_true rfl] at this
 exact this
theorem k1_ok : APure Tryz.prog 13 [.agg (rnC exB)] (.int 0) := by
 have := check_ok exB (by decide)
 rw [ex_b] at this
 exact this
theorem ex_ok [NoDr] [Tabs] [TabM] : APure Tryz.prog 11 [] (.bool true) := by
 have FF : True := trivial
 refine apure_of Tryz.func11 rfl (by kernel_rfl) (by simp [Tryz.ntmps11]) ?_
 rw [Tryz.ntmps11]
 refine awp_rseq (by decide) fun KK hKK => ?_
 refine m_assign ?_
 refine hKK _ _ ?_
 clear hKK KK
 refine awp_rseq (by decide) fun KK hKK => ?_
 first | refine m_build ?_ | refine m_buildA ?_
 refine m_sliceN ?_
 first | refine m_build ?_ | refine m_buildA ?_
 refine m_alloc ?_
 first | refine m_stPtr ?_ | refine m_stRp ?_
 refine hKK _ _ ?_
 clear hKK KK
 refine m_cut [(1, .ptr 1 0)] [(1, .box 24 ((rnC exA).map .c))] ?_
 refine awp_rseq (by decide) fun KK hKK => ?_
 first | refine m_build ?_ | refine m_buildA ?_
 first | refine m_build ?_ | refine m_buildA ?_
 refine m_sliceN ?_
 first | refine m_build ?_ | refine m_buildA ?_
 refine m_alloc ?_
 first | refine m_stPtr ?_ | refine m_stRp ?_
 refine hKK _ _ ?_
 clear hKK KK
 refine m_cut [(1, .ptr 1 0), (2, .ptr 2 0)] [(1, .box 24 ((rnC exA).map .c)), (2, .box 24 ((rnC exB).map .c))] ?_
 refine awp_rseq (by decide) fun KK hKK => ?_
 refine m_call (fun hG => d1_ok) ?_
 refine m_move ?_
 refine m_extract ?_
 refine m_extract ?_
 refine m_alloc ?_
 first | refine m_stPtr ?_ | refine m_stRp ?_
 refine m_assign ?_
 refine hKK _ _ ?_
 clear hKK KK
 refine m_cut [(1, .ptr 1 0), (2, .ptr 2 0), (3, .ptr 3 0), (4, .int 0)] [(1, .box 24 ((rnC exA).map .c)), (2, .box 24 ((rnC exB).map .c)), (3, .box 24 ((rnC exA).map .c))] ?_
 refine awp_rseq (by decide) fun KK hKK => ?_
 refine m_load ?_
 refine m_call (fun hG => x1_ok) ?_
 refine m_move ?_
 refine m_extract ?_
 refine m_extract ?_
 refine m_assign ?_
 refine m_assign ?_
 refine hKK _ _ ?_
 clear hKK KK
 refine m_cut [(1, .ptr 1 0), (2, .ptr 2 0), (3, .ptr 3 0), (4, .int 0), (5, .str exS1), (6, .int 0)] [(1, .box 24 ((rnC exA).map .c)), (2, .box 24 ((rnC exB).map .c)), (3, .box 24 ((rnC exA).map .c))] ?_
 refine awp_rseq (by decide) fun KK hKK => ?_
 refine m_call (fun hG => d2_ok) ?_
 refine m_move ?_
 refine m_extract ?_
 refine m_extract ?_
 refine m_alloc ?_
 first | refine m_stPtr ?_ | refine m_stRp ?_
 refine m_assign ?_
 refine hKK _ _ ?_
 clear hKK KK
 refine m_cut [(1, .ptr 1 0), (2, .ptr 2 0), (3, .ptr 3 0), (4, .int 0), (5, .str exS1), (6, .int 0), (8, .int 9)] [(1, .box 24 ((rnC exA).map .c)), (2, .box 24 ((rnC exB).map .c)), (3, .box 24 ((rnC exA).map .c))] ?_
 refine awp_rseq (by decide) fun KK hKK => ?_
 refine m_call (fun hG => d3_ok) ?_
 refine m_move ?_
 refine m_extract ?_
 refine m_extract ?_
 refine m_alloc ?_
 first | refine m_stPtr ?_ | refine m_stRp ?_
 refine m_assign ?_
 refine hKK _ _ ?_
 clear hKK KK
 refine m_cut [(1, .ptr 1 0), (2, .ptr 2 0), (3, .ptr 3 0), (4, .int 0), (5, .str exS1), (6, .int 0), (8, .int 9), (10, .int 1)] [(1, .box 24 ((rnC exA).map .c)), (2, .box 24 ((rnC exB).map .c)), (3, .box 24 ((rnC exA).map .c))] ?_
 refine awp_rseq (by decide) fun KK hKK => ?_
 refine m_load ?_
 refine m_load ?_
 refine m_call (fun hG => c1_ok) ?_
 refine m_move ?_
 refine m_extract ?_
 refine m_extract ?_
 refine m_assign ?_
 refine m_assign ?_
 refine hKK _ _ ?_
 clear hKK KK
 refine m_cut [(1, .ptr 1 0), (2, .ptr 2 0), (3, .ptr 3 0), (4, .int 0), (5, .str exS1), (6, .int 0), (8, .int 9), (10, .int 1), (11, .c (dfL exL)), (12, .int 0)] [(1, .box 24 ((rnC exA).map .c)), (2, .box 24 ((rnC exB).map .c)), (3, .box 24 ((rnC exA).map .c))] ?_
 refine awp_rseq (by decide) fun KK hKK => ?_
 refine m_load ?_
 refine m_call (fun hG => t1_ok) ?_
 refine m_alloc ?_
 first | refine m_stPtr ?_ | refine m_stRp ?_
 refine hKK _ _ ?_
 clear hKK KK
 refine m_cut [(1, .ptr 1 0), (2, .ptr 2 0), (3, .ptr 3 0), (4, .int 0), (5, .str exS1), (6, .int 0), (8, .int 9), (10, .int 1), (11, .c (dfL exL)), (12, .int 0), (13, .ptr 13 0)] [(1, .box 24 ((rnC exA).map .c)), (2, .box 24 ((rnC exB).map .c)), (3, .box 24 ((rnC exA).map .c)), (13, .box 30 [.int 2, .int 1, .int 3, .int 9, .int 20, .int 1])] ?_
 refine awp_seqL ?_
 refine awpl_op (by rfl) (by rfl) ?_
 refine m_build ?_
 refine run_nil ?_
 refine awpl_weakS 52 (by simp only [go_sem, reduceIte, Nat.reduceEqDiff] <;> rfl) (fun _ _ _ _ _ r => ra_aggC r) ?_
 refine awpl_op (by rfl) (by rfl) ?_
 refine m_call (fun hG => comp_ok) ?_
 refine run_nil ?_
 refine awpl_op (by rfl) (by rfl) ?_
 refine m_move ?_
 refine run_nil ?_
 refine awpl_op (by rfl) (by rfl) ?_
 refine m_extract ?_
 refine run_nil ?_
 refine awpl_op (by rfl) (by rfl) ?_
 refine m_extract ?_
 refine run_nil ?_
 refine awpl_op (by rfl) (by rfl) ?_
 refine m_extract ?_
 refine run_nil ?_
 refine awpl_op (by rfl) (by rfl) ?_
 refine m_alloc ?_
 refine run_nil ?_
 refine awpl_op (by rfl) (by rfl) ?_
 first | refine m_stPtr ?_ | refine m_stRp ?_
 refine run_nil ?_
 refine awpl_op (by rfl) (by rfl) ?_
 refine m_assign ?_
 refine run_nil ?_
 refine awpl_op (by rfl) (by rfl) ?_
 refine m_assign ?_
 refine run_nil ?_
 refine awpl_end ?_
 rw [thenQ_normal]
 refine m_cut [(1, .ptr 1 0), (2, .ptr 2 0), (3, .ptr 3 0), (4, .int 0), (5, .str exS1), (6, .int 0), (8, .int 9), (10, .int 1), (11, .c (dfL exL)), (12, .int 0), (13, .ptr 13 0), (14, .ptr 14 0), (16, .int 0)] [(1, .box 24 ((rnC exA).map .c)), (2, .box 24 ((rnC exB).map .c)), (3, .box 24 ((rnC exA).map .c)), (13, .box 30 [.int 2, .int 1, .int 3, .int 9, .int 20, .int 1]), (14, .box 59 [.c .any, .c .any, .c .any, .c .any, .c .any, .c .any, .c .any, .c .any])] ?_
 refine awp_rseq (by decide) fun KK hKK => ?_
 refine m_load ?_
 first | refine m_build ?_ | refine m_buildA ?_
 refine m_call (fun hG => mkbad_ok) ?_
 refine m_move ?_
 refine m_extract ?_
 refine m_extract ?_
 refine m_alloc ?_
 first | refine m_stPtr ?_ | refine m_stRp ?_
 refine m_assign ?_
 refine hKK _ _ ?_
 clear hKK KK
 refine m_cut [(1, .ptr 1 0), (2, .ptr 2 0), (3, .ptr 3 0), (4, .int 0), (5, .str exS1), (6, .int 0), (8, .int 9), (10, .int 1), (11, .c (dfL exL)), (12, .int 0), (13, .ptr 13 0), (16, .int 0), (18, .int 1)] [(1, .box 24 ((rnC exA).map .c)), (2, .box 24 ((rnC exB).map .c)), (3, .box 24 ((rnC exA).map .c)), (13, .box 30 [.int 2, .int 1, .int 3, .int 9, .int 20, .int 1])] ?_
 refine awp_rseq (by decide) fun KK hKK => ?_
 refine m_move ?_
 refine m_bin ?_
 refine m_move ?_
 refine g_load ?_
 refine g_load ?_
 refine g_call (fun hG => s1_ok) ?_
 refine m_pick ?_
 refine m_move ?_
 refine g_move ?_
 refine g_bin ?_
 refine m_pick ?_
 refine m_move ?_
 refine g_move ?_
 refine g_bin ?_
 refine m_pick ?_
 refine m_move ?_
 refine g_move ?_
 refine g_bin ?_
 refine m_pick ?_
 refine m_move ?_
 refine g_move ?_
 refine g_bin ?_
 refine m_pick ?_
 refine m_move ?_
 refine g_move ?_
 refine g_bin ?_
 refine m_pick ?_
 refine m_move ?_
 refine g_move ?_
 first | refine g_build ?_ | refine g_buildA ?_
 first | refine g_build ?_ | refine g_buildA ?_
 refine g_sliceN (hw := by intro hG; simp only [go_sem, reduceIte, Nat.reduceEqDiff, FF] <;> kernel_rfl) ?_
 refine g_call (fun hG => s2_ok) ?_
 refine m_pick ?_
 refine m_move ?_
 refine g_load ?_
 first | refine g_build ?_ | refine g_buildA ?_
 refine g_binA (tot_eq _ _ _ _ _ _) ?_
 refine m_pick ?_
 refine m_move ?_
 refine g_move ?_
 refine g_bin ?_
 refine m_pick ?_
 refine m_move ?_
 refine g_move ?_
 refine g_bin ?_
 refine m_pick ?_
 refine m_move ?_
 refine g_load ?_
 refine g_call (fun hG => k1_ok) ?_
 refine g_bin ?_
 refine m_pick ?_
 refine m_assign ?_
 refine hKK _ _ ?_
 clear hKK KK
 refine awp_ret ⟨[_], ⟨⟨(by simp only [go_sem, reduceIte, Nat.reduceEqDiff, FF]), (by simp only [go_sem, reduceIte, Nat.reduceEqDiff, FF] <;> rfl)⟩, trivial⟩, ?_⟩
 simp only [go_sem, reduceIte, Nat.reduceEqDiff, FF, tupled]
 refine CV.Sub.of_eq ?_
 kernel_rfl
end Go.Am
