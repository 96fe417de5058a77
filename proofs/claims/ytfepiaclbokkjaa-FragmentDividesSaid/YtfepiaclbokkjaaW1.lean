/- Contracts of the small functions that look at derivations. No condition. -/
import Derived.Test.YtfepiaclbokkjaaBase
import Derived.Test.YtfepiaclbokkjaaAmG
import Derived.Test.YtfepiaclbokkjaaData
namespace Go.Am
open Go.Proofs
attribute [local go_sem ↓] ofL_cons ofH_cons upd_apply
attribute [local go_sem] cellsD
set_option maxHeartbeats 1000000
set_option linter.unusedSimpArgs false
theorem nodes_ok : ∀ (N : Nat) (d : Dv) (most : Int), d.size ≤ N → 1 ≤ most → most ≤ 1000 → APure Try.prog 28 [.agg (cellsD d), .int most] (.int (nodesD d most)) := by
  intro N
  induction N with
  | zero => intro d; cases d; simp [Dv.size]
  | succ N ih =>
  intro d most hN h1 h2
  have FF : True := trivial
  refine apure_of Try.func28 rfl (by kernel_rfl) (by simp [Try.ntmps28]) ?_
  rw [Try.ntmps28]
  refine awp_rseq (by decide) fun KK hKK => ?_
  refine m_box ?_
  refine m_assign ?_
  refine hKK _ _ ?_
  clear hKK KK
  refine awp_rseq (by decide) fun KK hKK => ?_
  refine m_assign ?_
  refine hKK _ _ ?_
  clear hKK KK
  refine awp_seq ?_
  refine awp_rseq (by decide) fun KK hKK => ?_
  refine m_assign ?_
  refine hKK _ _ ?_
  clear hKK KK
  refine awp_block ?_
  refine m_for (ι := Nat × Int) (fun i => [(1, .int most), (2, .ptr 2 0), (5, .int i.2), (6, .int i.1)]) (fun i => [(2, .box 38 ((cellsD d).map .c))]) (fun i => d.kids.length - i.1) (fun i => i.1 ≤ d.kids.length ∧ (i.1 : Int) < i.2 ∧ i.2 ≤ most ∧ nodesL (d.kids.drop i.1) most i.2 = nodesD d most) ((0, 1)) ?_ ?_
  · exact ⟨Nat.zero_le _, by decide, h1, by cases d; rfl⟩
  · rintro ⟨i, c⟩ ⟨hi, hc1, hc2, hres⟩
    dsimp only at hi hc1 hc2 hres ⊢
    refine awp_seq ?_
    refine awp_rseq (by decide) fun KK hKK => ?_
    refine m_move ?_
    refine m_field ?_
    refine m_load ?_
    refine m_len ?_
    refine m_bin ?_
    refine m_move ?_
    refine g_move ?_
    refine g_move ?_
    refine g_bin ?_
    refine m_pick ?_
    refine hKK _ _ ?_
    clear hKK KK
    refine m_cond (fun hc => ?_) (fun hc => ?_)
    · simp only [Bool.and_eq_true, decide_eq_true_eq] at hc
      obtain ⟨hil, hcm⟩ := hc
      have hil' : i < d.kids.length := by omega
      refine awp_skip ?_
      first | rw [thenQ_normal] | rw [blockQ_normal, thenQ_normal]
      refine awp_seq (awp_block ?_)
      have hbd := nodesD_bd (d.kids.getD i default) (most - c) (by omega)
      have w1 : IntKind.i64.wrap (most - c) = most - c := wrap_in (by omega)
      have w2 : IntKind.i64.wrap (c + nodesD (d.kids.getD i default) (most - c)) = c + nodesD (d.kids.getD i default) (most - c) := wrap_in (by omega)
      have w3 : IntKind.i64.wrap ((i : Int) + 1) = ((i + 1 : Nat) : Int) := wrap_in (by omega)
      refine awp_rlast (by decide) fun KK hKK => ?_
      refine st0 rfl (k_move (by simp only [go_sem, reduceIte, Nat.reduceEqDiff, FF, w1, w2, encDs_getD, hil'] <;> rfl)) ?_
      refine st0 rfl (k_field (by simp only [go_sem, reduceIte, Nat.reduceEqDiff, FF, w1, w2, encDs_getD, hil'] <;> rfl) (by simp only [go_sem] <;> rfl) (by rfl) (by rfl) (by simp only [go_sem, reduceIte, Nat.reduceEqDiff, FF, w1, w2, encDs_getD, hil', Nat.reduceAdd, Nat.reduceSub, Nat.reduceMul, Nat.reduceLeDiff] <;> rfl) (by intro hG; simp only [go_sem])) ?_
      refine st1 rfl (k_load (by simp only [go_sem, reduceIte, Nat.reduceEqDiff, FF, w1, w2, encDs_getD, hil'] <;> rfl) (by simp only [go_sem] <;> rfl) (by rfl) (by intro hG; simp only [go_sem]) (by first | exact lm_ptr (by simp only [go_sem, reduceIte, Nat.reduceEqDiff, FF, w1, w2, encDs_getD, hil'] <;> rfl) (by simp only [go_sem, reduceIte, Nat.reduceEqDiff, FF, w1, w2, encDs_getD, hil', Nat.reduceAdd, Nat.reduceSub, Nat.reduceMul, Nat.reduceLeDiff] <;> rfl) (fun _ => Nat.le_of_ble_eq_true rfl) | exact lm_pim (by simp only [go_sem, reduceIte, Nat.reduceEqDiff, FF, w1, w2, encDs_getD, hil', Nat.reduceAdd, Nat.reduceSub, Nat.reduceMul, Nat.reduceLeDiff] <;> rfl) (fun _ => Nat.le_of_ble_eq_true rfl) | exact lm_rp (by simp only [go_sem, reduceIte, Nat.reduceEqDiff, FF, w1, w2, encDs_getD, hil'] <;> rfl) (by simp only [go_sem, reduceIte, Nat.reduceEqDiff, FF, w1, w2, encDs_getD, hil', Nat.reduceAdd, Nat.reduceSub, Nat.reduceMul, Nat.reduceLeDiff] <;> rfl) (by intro hG; (repeat' apply And.intro) <;> first | rfl | omega | (dsimp only; omega) | (simp; done)))) ?_
      refine st0 rfl (k_move (by simp only [go_sem, reduceIte, Nat.reduceEqDiff, FF, w1, w2, encDs_getD, hil'] <;> rfl)) ?_
      refine st1 rfl (k_index (by simp only [go_sem, reduceIte, Nat.reduceEqDiff, FF, w1, w2, encDs_getD, hil'] <;> rfl) (by simp only [go_sem, reduceIte, Nat.reduceEqDiff, FF, w1, w2, encDs_getD, hil'] <;> rfl) (by simp only [go_sem] <;> rfl) (by rfl) (by simp only [go_sem] <;> rfl) (by rfl) (by intro hG; simp only [go_sem]) (by first | exact im_im (by first | (simp only [go_sem, reduceIte, Nat.reduceEqDiff, FF, w1, w2, encDs_getD, hil', Nat.reduceAdd, Nat.reduceSub, Nat.reduceMul, Nat.reduceLeDiff, Int.reduceToNat] <;> rfl) | rfl) (by intro hG; (repeat' apply And.intro) <;> first | rfl | omega | (dsimp only; omega) | (simp; done)) | exact im_own (by simp only [go_sem, reduceIte, Nat.reduceEqDiff, FF, w1, w2, encDs_getD, hil'] <;> rfl) (by first | (simp only [go_sem, reduceIte, Nat.reduceEqDiff, FF, w1, w2, encDs_getD, hil', Nat.reduceAdd, Nat.reduceSub, Nat.reduceMul, Nat.reduceLeDiff, Int.reduceToNat] <;> rfl) | rfl) (by intro hG; (repeat' apply And.intro) <;> first | rfl | omega | (dsimp only; omega) | (simp; done)) | exact im_osub (by simp only [go_sem, reduceIte, Nat.reduceEqDiff, FF, w1, w2, encDs_getD, hil'] <;> rfl) (by first | (simp only [go_sem, reduceIte, Nat.reduceEqDiff, FF, w1, w2, encDs_getD, hil', Nat.reduceAdd, Nat.reduceSub, Nat.reduceMul, Nat.reduceLeDiff, Int.reduceToNat] <;> rfl) | rfl) (by intro hG; (repeat' apply And.intro) <;> first | rfl | omega | (dsimp only; omega) | (simp; done)))) ?_
      refine st1 rfl (k_load (by simp only [go_sem, reduceIte, Nat.reduceEqDiff, FF, w1, w2, encDs_getD, hil'] <;> rfl) (by simp only [go_sem] <;> rfl) (by rfl) (by intro hG; simp only [go_sem]) (by first | exact lm_ptr (by simp only [go_sem, reduceIte, Nat.reduceEqDiff, FF, w1, w2, encDs_getD, hil'] <;> rfl) (by simp only [go_sem, reduceIte, Nat.reduceEqDiff, FF, w1, w2, encDs_getD, hil', Nat.reduceAdd, Nat.reduceSub, Nat.reduceMul, Nat.reduceLeDiff] <;> rfl) (fun _ => Nat.le_of_ble_eq_true rfl) | exact lm_pim (by simp only [go_sem, reduceIte, Nat.reduceEqDiff, FF, w1, w2, encDs_getD, hil', Nat.reduceAdd, Nat.reduceSub, Nat.reduceMul, Nat.reduceLeDiff] <;> rfl) (fun _ => Nat.le_of_ble_eq_true rfl) | exact lm_rp (by simp only [go_sem, reduceIte, Nat.reduceEqDiff, FF, w1, w2, encDs_getD, hil'] <;> rfl) (by simp only [go_sem, reduceIte, Nat.reduceEqDiff, FF, w1, w2, encDs_getD, hil', Nat.reduceAdd, Nat.reduceSub, Nat.reduceMul, Nat.reduceLeDiff] <;> rfl) (by intro hG; (repeat' apply And.intro) <;> first | rfl | omega | (dsimp only; omega) | (simp; done)))) ?_
      refine st0 rfl (k_move (by simp only [go_sem, reduceIte, Nat.reduceEqDiff, FF, w1, w2, encDs_getD, hil'] <;> rfl)) ?_
      refine st0 rfl (k_move (by simp only [go_sem, reduceIte, Nat.reduceEqDiff, FF, w1, w2, encDs_getD, hil'] <;> rfl)) ?_
      refine st0 rfl (k_bin (by simp only [go_sem, reduceIte, Nat.reduceEqDiff, FF, w1, w2, encDs_getD, hil'] <;> rfl) (by simp only [go_sem, reduceIte, Nat.reduceEqDiff, FF, w1, w2, encDs_getD, hil'] <;> rfl) (by rfl) (by rfl) (by simp only [go_sem, reduceIte, Nat.reduceEqDiff, FF, w1, w2, encDs_getD, hil'] <;> rfl) (by intro hG; simp only [go_sem])) ?_
      refine st1 rfl (k_call (by simp only [go_sem, reduceIte, Nat.reduceEqDiff, FF, w1, w2, encDs_getD, hil'] <;> rfl) rfl (by simp only [go_sem, reduceIte, Nat.reduceEqDiff, FF, w1, w2, encDs_getD, hil'] <;> rfl) (by intro hG; simp only [go_sem]) (by rfl) (Subs.refl _) (fun hG => ih (d.kids.getD i default) (most - c) (by have := kids_sizeD d i hil'; omega) (by omega) (by omega))) ?_
      refine st0 rfl (k_bin (by simp only [go_sem, reduceIte, Nat.reduceEqDiff, FF, w1, w2, encDs_getD, hil'] <;> rfl) (by simp only [go_sem, reduceIte, Nat.reduceEqDiff, FF, w1, w2, encDs_getD, hil'] <;> rfl) (by rfl) (by rfl) (by simp only [go_sem, reduceIte, Nat.reduceEqDiff, FF, w1, w2, encDs_getD, hil'] <;> rfl) (by intro hG; simp only [go_sem])) ?_
      refine st0 rfl (k_assign (by simp only [go_sem, reduceIte, Nat.reduceEqDiff, FF, w1, w2, encDs_getD, hil'] <;> rfl)) ?_
      refine hKK _ _ ?_
      clear hKK KK
      rw [blockQ_normal, thenQ_normal]
      have FF := And.intro w3 FF
      refine awp_rlast (by decide) fun KK hKK => ?_
      refine m_move ?_
      refine m_bin ?_
      refine m_assign ?_
      refine hKK _ _ ?_
      clear hKK KK
      try rw [thenQ_normal]
      refine m_next ((i + 1, c + nodesD (d.kids.getD i default) (most - c))) ?_ ?_
      · refine ⟨by omega, by dsimp only; omega, by dsimp only; omega, ?_⟩
        dsimp only
        rw [← hres, List.drop_eq_getElem_cons hil', getD_lt hil']
        simp only [nodesL, hcm, if_true]
      · dsimp only; omega
    · refine awp_exit ?_
      simp only [thenQ_exit, blockQ_exit, reduceIte]
      rw [thenQ_normal]
      refine awp_rseq (by decide) fun KK hKK => ?_
      refine m_move ?_
      refine m_assign ?_
      refine hKK _ _ ?_
      clear hKK KK
      refine awp_ret ⟨[_], ⟨⟨(by simp only [go_sem, reduceIte, Nat.reduceEqDiff, FF]), (by simp only [go_sem, reduceIte, Nat.reduceEqDiff, FF] <;> rfl)⟩, trivial⟩, ?_⟩
      simp only [go_sem, reduceIte, Nat.reduceEqDiff, FF, tupled]
      refine CV.Sub.of_eq ?_
      rw [← hres]
      simp only [Bool.and_eq_false_iff, decide_eq_false_iff_not] at hc
      rcases hc with hc | hc
      · have : i = d.kids.length := by omega
        subst this
        simp [nodesL]
      · cases hd : d.kids.drop i with
        | nil => simp [nodesL]
        | cons d r => simp [nodesL, hc]

theorem ints_ok (a b : Int) : APure Try.prog 36 [.int a, .int b] (.int (intsF a b)) := by
  have FF : True := trivial
  refine apure_of Try.func36 rfl (by kernel_rfl) (by simp [Try.ntmps36]) ?_
  rw [Try.ntmps36]
  refine awp_rseq (by decide) fun KK hKK => ?_
  refine m_assign ?_
  refine hKK _ _ ?_
  clear hKK KK
  refine awp_seq ?_
  refine awp_rseq (by decide) fun KK hKK => ?_
  refine m_move ?_
  refine m_move ?_
  refine m_bin ?_
  refine hKK _ _ ?_
  clear hKK KK
  refine m_cond (fun hc => ?_) (fun hc => ?_)
  · refine awp_rseq (by decide) fun KK hKK => ?_
    refine m_assign ?_
    refine hKK _ _ ?_
    clear hKK KK
    refine awp_ret ⟨[_], ⟨⟨(by simp only [go_sem, reduceIte, Nat.reduceEqDiff, FF]), (by simp only [go_sem, reduceIte, Nat.reduceEqDiff, FF] <;> rfl)⟩, trivial⟩, ?_⟩
    simp only [go_sem, reduceIte, Nat.reduceEqDiff, FF, tupled]
    refine CV.Sub.of_eq ?_
    have : a < b := by simpa using hc
    simp [intsF, this]
  · refine awp_skip ?_
    first | rw [thenQ_normal] | rw [blockQ_normal, thenQ_normal]
    refine awp_seq ?_
    have h1 : ¬ a < b := by simpa using hc
    refine awp_rseq (by decide) fun KK hKK => ?_
    refine m_move ?_
    refine m_move ?_
    refine m_bin ?_
    refine hKK _ _ ?_
    clear hKK KK
    refine m_cond (fun hc => ?_) (fun hc => ?_)
    · refine awp_rseq (by decide) fun KK hKK => ?_
      refine m_assign ?_
      refine hKK _ _ ?_
      clear hKK KK
      refine awp_ret ⟨[_], ⟨⟨(by simp only [go_sem, reduceIte, Nat.reduceEqDiff, FF]), (by simp only [go_sem, reduceIte, Nat.reduceEqDiff, FF] <;> rfl)⟩, trivial⟩, ?_⟩
      simp only [go_sem, reduceIte, Nat.reduceEqDiff, FF, tupled]
      refine CV.Sub.of_eq ?_
      have h2 : b < a := by simpa using hc
      simp [intsF, h1, h2]
    · refine awp_skip ?_
      first | rw [thenQ_normal] | rw [blockQ_normal, thenQ_normal]
      have h2 : ¬ b < a := by simpa using hc
      refine awp_rseq (by decide) fun KK hKK => ?_
      refine m_assign ?_
      refine hKK _ _ ?_
      clear hKK KK
      refine awp_ret ⟨[_], ⟨⟨(by simp only [go_sem, reduceIte, Nat.reduceEqDiff, FF]), (by simp only [go_sem, reduceIte, Nat.reduceEqDiff, FF] <;> rfl)⟩, trivial⟩, ?_⟩
      simp only [go_sem, reduceIte, Nat.reduceEqDiff, FF, tupled]
      refine CV.Sub.of_eq ?_
      simp [intsF, h1, h2]

theorem zero_ok (d : Dv) : APure Try.prog 38 [.agg (cellsD d)] (.bool (zeroD d)) := by
  have FF : True := trivial
  refine apure_of Try.func38 rfl (by kernel_rfl) (by simp [Try.ntmps38]) ?_
  rw [Try.ntmps38]
  refine awp_rseq (by decide) fun KK hKK => ?_
  refine m_box ?_
  refine m_assign ?_
  refine hKK _ _ ?_
  clear hKK KK
  refine awp_rseq (by decide) fun KK hKK => ?_
  refine m_field ?_
  refine m_load ?_
  refine m_bin ?_
  refine m_move ?_
  refine g_field ?_
  refine g_load ?_
  refine g_bin ?_
  refine m_pick ?_
  refine m_move ?_
  refine g_field ?_
  refine g_load ?_
  refine g_bin ?_
  refine m_pick ?_
  refine m_move ?_
  refine g_field ?_
  refine g_load ?_
  refine g_bin ?_
  refine m_pick ?_
  refine m_move ?_
  refine g_field ?_
  refine g_load ?_
  refine g_len ?_
  refine g_bin ?_
  refine m_pick ?_
  refine m_assign ?_
  refine hKK _ _ ?_
  clear hKK KK
  refine awp_ret ⟨[_], ⟨⟨(by simp only [go_sem, reduceIte, Nat.reduceEqDiff, FF]), (by simp only [go_sem, reduceIte, Nat.reduceEqDiff, FF] <;> rfl)⟩, trivial⟩, ?_⟩
  simp only [go_sem, reduceIte, Nat.reduceEqDiff, FF, tupled]
  exact CV.Sub.refl _
end Go.Am
