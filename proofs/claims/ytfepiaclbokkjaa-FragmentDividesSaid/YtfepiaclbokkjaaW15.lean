/- Contract: the examples of the chapter hold. No condition. -/
import Derived.Test.YtfepiaclbokkjaaW14
namespace Go.Am
open Go.Proofs
attribute [local go_sem ↓] ofL_cons ofH_cons upd_apply
attribute [local go_sem] cellsE cellsC
set_option maxHeartbeats 2000000
set_option linter.unusedSimpArgs false
set_option linter.unusedVariables false

theorem item_len (a b c : Ed) : [a, b, c].length ≤ 14 := by simp
theorem item_okD (n : ByteArray) (f t : Int) : okD (itemE n f t).lex := ⟨by decide, trivial⟩
theorem ex_ok (w : Int) (n1 n2 n3 : ByteArray) (f1 t1 f2 t2 f3 t3 : Int) : ∀ e ∈ [itemE n1 f1 t1, itemE n2 f2 t2, itemE n3 f3 t3], okD e.lex := by
  intro e he
  simp only [List.mem_cons, List.not_mem_nil, or_false] at he
  rcases he with rfl | rfl | rfl <;> exact item_okD _ _ _
theorem sub_es3 (a b c : Ed) : CV.Sub (.im 12 3 fun i => [cellsE a, cellsE b, cellsE c].getD i []) (encEs [a, b, c]) := CV.Sub.im rfl (fun i hi => match i, hi with | 0, _ => rfl | 1, _ => rfl | 2, _ => rfl)
theorem sub_i2 (a b : Int) : CV.Sub (.im 1 2 fun i => [[.int a], [.int b]].getD i []) (encInts [a, b]) := CV.Sub.im rfl (fun i hi => match i, hi with | 0, _ => rfl | 1, _ => rfl)
theorem sub_i1 (a : Int) : CV.Sub (.im 1 1 fun i => [[.int a]].getD i []) (encInts [a]) := CV.Sub.im rfl (fun i hi => match i, hi with | 0, _ => rfl)
theorem sub_s1 (a b : Int) : CV.Sub (.im 2 1 fun i => [[.int a, .int b]].getD i []) (encSpans [(a, b)]) := CV.Sub.im rfl (fun i hi => match i, hi with | 0, _ => rfl)

theorem example_ok : APure Try.prog 10 [] (.bool true) := by
  have okA : Ok exA := canon_ok (build_wf 4 (item_len _ _ _) (ex_ok 4 _ _ _ _ _ _ _ _ _))
  have okB : Ok exB := canon_ok (build_wf 3 (item_len _ _ _) (ex_ok 3 _ _ _ _ _ _ _ _ _))
  have okC : Ok exC := canon_ok (build_wf 2 (item_len _ _ _) (ex_ok 2 _ _ _ _ _ _ _ _ _))
  have cA : APure Try.prog 22 [.agg (cellsC (buildF 4 [itemE ⟨#[97]⟩ 0 1, itemE ⟨#[98]⟩ 1 3, itemE ⟨#[99]⟩ 2 4]))] (.agg (cellsC exA)) := canon_ok' _ (build_wf 4 (item_len _ _ _) (ex_ok 4 _ _ _ _ _ _ _ _ _))
  have cB : APure Try.prog 22 [.agg (cellsC (buildF 3 [itemE ⟨#[97]⟩ 0 1, itemE ⟨#[98]⟩ 0 2, itemE ⟨#[99]⟩ 2 3]))] (.agg (cellsC exB)) := canon_ok' _ (build_wf 3 (item_len _ _ _) (ex_ok 3 _ _ _ _ _ _ _ _ _))
  have cC : APure Try.prog 22 [.agg (cellsC (buildF 2 [itemE ⟨#[97]⟩ 0 1, itemE ⟨#[98]⟩ 1 2, itemE ⟨#[99]⟩ 0 2]))] (.agg (cellsC exC)) := canon_ok' _ (build_wf 2 (item_len _ _ _) (ex_ok 2 _ _ _ _ _ _ _ _ _))
  have bA := build_ok 4 [itemE ⟨#[97]⟩ 0 1, itemE ⟨#[98]⟩ 1 3, itemE ⟨#[99]⟩ 2 4] (by decide) (ex_ok 4 _ _ _ _ _ _ _ _ _)
  have bB := build_ok 3 [itemE ⟨#[97]⟩ 0 1, itemE ⟨#[98]⟩ 0 2, itemE ⟨#[99]⟩ 2 3] (by decide) (ex_ok 3 _ _ _ _ _ _ _ _ _)
  have bC := build_ok 2 [itemE ⟨#[97]⟩ 0 1, itemE ⟨#[98]⟩ 1 2, itemE ⟨#[99]⟩ 0 2] (by decide) (ex_ok 2 _ _ _ _ _ _ _ _ _)
  have e1 := ex1
  have e2 := ex2
  have e3 := ex3
  have e4 := ex4
  have e5 := ex5
  have l1 : (coverF exA).length ≤ 1000000 := by rw [of_decide_eq_true e1]; decide
  have l2 : (gapsF exA [0, 1]).length ≤ 1000000 := by rw [of_decide_eq_true e2]; decide
  have l3 : (maxF exB).length ≤ 1000000 := by rw [of_decide_eq_true e3]; decide
  have l4 : (coverF exC).length ≤ 1000000 := by rw [of_decide_eq_true e4]; decide
  have l5 : (gapsF exA []).length ≤ 1000000 := by rw [of_decide_eq_true e5]; decide
  have FF : True := trivial
  refine apure_of Try.func10 rfl (by kernel_rfl) (by simp [Try.ntmps10]) ?_
  rw [Try.ntmps10]
  refine awp_rseq (by decide) fun KK hKK => ?_
  refine m_assign ?_
  refine hKK _ _ ?_
  clear hKK KK
  refine awp_rseq (by decide) fun KK hKK => ?_
  refine m_call (fun hG => item_ok _ _ _) ?_
  refine m_call (fun hG => item_ok _ _ _) ?_
  refine m_call (fun hG => item_ok _ _ _) ?_
  refine m_sliceN ?_
  refine m_callS (hsub := by exact ⟨CV.Sub.refl _, sub_es3 (itemE ⟨#[97]⟩ 0 1) (itemE ⟨#[98]⟩ 1 3) (itemE ⟨#[99]⟩ 2 4), trivial⟩) (fun hG => bA) ?_
  refine m_call (fun hG => cA) ?_
  refine m_alloc ?_
  first | refine m_stPtr ?_ | refine m_stRp ?_
  refine hKK _ _ ?_
  clear hKK KK
  generalize exA = A at okA e1 e2 e5 l1 l2 l5 ⊢
  refine awp_rseq (by decide) fun KK hKK => ?_
  refine m_call (fun hG => item_ok _ _ _) ?_
  refine m_call (fun hG => item_ok _ _ _) ?_
  refine m_call (fun hG => item_ok _ _ _) ?_
  refine m_sliceN ?_
  refine m_callS (hsub := by exact ⟨CV.Sub.refl _, sub_es3 (itemE ⟨#[97]⟩ 0 1) (itemE ⟨#[98]⟩ 0 2) (itemE ⟨#[99]⟩ 2 3), trivial⟩) (fun hG => bB) ?_
  refine m_call (fun hG => cB) ?_
  refine m_alloc ?_
  first | refine m_stPtr ?_ | refine m_stRp ?_
  refine hKK _ _ ?_
  clear hKK KK
  generalize exB = B at okB e3 l3 ⊢
  refine awp_rseq (by decide) fun KK hKK => ?_
  refine m_call (fun hG => item_ok _ _ _) ?_
  refine m_call (fun hG => item_ok _ _ _) ?_
  refine m_call (fun hG => item_ok _ _ _) ?_
  refine m_sliceN ?_
  refine m_callS (hsub := by exact ⟨CV.Sub.refl _, sub_es3 (itemE ⟨#[97]⟩ 0 1) (itemE ⟨#[98]⟩ 1 2) (itemE ⟨#[99]⟩ 0 2), trivial⟩) (fun hG => bC) ?_
  refine m_call (fun hG => cC) ?_
  refine m_alloc ?_
  first | refine m_stPtr ?_ | refine m_stRp ?_
  refine hKK _ _ ?_
  clear hKK KK
  generalize exC = C at okC e4 l4 ⊢
  have FF := And.intro e1 (And.intro e2 (And.intro e3 (And.intro e4 (And.intro e5 FF))))
  refine awp_rseq (by decide) fun KK hKK => ?_
  refine m_load ?_
  refine m_call (fun hG => cover_ok A okA) ?_
  refine m_sliceN ?_
  refine m_callS (hsub := by exact ⟨CV.Sub.refl _, sub_i2 0 1, trivial⟩) (fun hG => same_ok (coverF A) [0, 1] l1) ?_
  refine m_move ?_
  refine g_load ?_
  refine g_sliceN ?_
  refine g_callS (hsub := by exact ⟨CV.Sub.refl _, sub_i2 0 1, trivial⟩) (fun hG => gaps_ok A okA [0, 1] (by decide)) ?_
  refine g_build ?_
  refine g_sliceN ?_
  refine g_callS (hsub := by exact ⟨CV.Sub.refl _, sub_s1 3 4, trivial⟩) (fun hG => sameSpans_ok (gapsF A [0, 1]) [(3, 4)] l2) ?_
  refine m_pick ?_
  refine m_move ?_
  refine g_load ?_
  refine g_call (fun hG => maximal_ok B okB.len) ?_
  refine g_sliceN ?_
  refine g_callS (hsub := by exact ⟨CV.Sub.refl _, sub_i2 1 2, trivial⟩) (fun hG => same_ok (maxF B) [1, 2] l3) ?_
  refine m_pick ?_
  refine m_move ?_
  refine g_load ?_
  refine g_call (fun hG => cover_ok C okC) ?_
  refine g_sliceN ?_
  refine g_callS (hsub := by exact ⟨CV.Sub.refl _, sub_i1 2, trivial⟩) (fun hG => same_ok (coverF C) [2] l4) ?_
  refine m_pick ?_
  refine m_move ?_
  refine g_load ?_
  refine g_callS (hsub := by exact ⟨CV.Sub.refl _, CV.Sub.im0 rfl rfl, trivial⟩) (fun hG => gaps_ok A okA [] (by decide)) ?_
  refine g_build ?_
  refine g_sliceN ?_
  refine g_callS (hsub := by exact ⟨CV.Sub.refl _, sub_s1 0 4, trivial⟩) (fun hG => sameSpans_ok (gapsF A []) [(0, 4)] l5) ?_
  refine m_pick ?_
  refine m_assign ?_
  refine hKK _ _ ?_
  clear hKK KK
  refine awp_ret ⟨[_], ⟨⟨(by simp only [go_sem, reduceIte, Nat.reduceEqDiff, FF]), (by simp only [go_sem, reduceIte, Nat.reduceEqDiff, FF] <;> rfl)⟩, trivial⟩, ?_⟩
  simp only [go_sem, reduceIte, Nat.reduceEqDiff, FF, tupled]
  exact CV.Sub.refl _
end Go.Am
