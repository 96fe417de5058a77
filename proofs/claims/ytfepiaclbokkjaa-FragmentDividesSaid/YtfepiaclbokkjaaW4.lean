/- Contracts: a well formed edge, adding an edge, building a chart. No condition. -/
import Derived.Test.YtfepiaclbokkjaaW3
namespace Go.Am
open Go.Proofs
attribute [local go_sem ↓] ofL_cons ofH_cons upd_apply
attribute [local go_sem] cellsD cellsE cellsC
set_option maxHeartbeats 1000000
set_option linter.unusedSimpArgs false

theorem chain_drop (c : Ch) {ks : List Int} {i : Nat} (at_ : Int) (h : i < ks.length) : chain c (ks.drop i) at_ = if decide (ks.getD i 0 < 0) || decide ((c.edges.length : Int) ≤ ks.getD i 0) || (c.edges.getD (ks.getD i 0).toNat default).frm != at_ then none else chain c (ks.drop (i + 1)) (c.edges.getD (ks.getD i 0).toNat default).to := by
  rw [List.drop_eq_getElem_cons h, chain, getD_lt h]
  rfl

theorem formed_ok (c : Ch) (e : Ed) : APure Try.prog 34 [.agg (cellsC c), .agg (cellsE e)] (.bool (formedF c e)) := by
  have FF : True := trivial
  refine apure_of Try.func34 rfl (by kernel_rfl) (by simp [Try.ntmps34]) ?_
  rw [Try.ntmps34]
  refine awp_rseq (by decide) fun KK hKK => ?_
  refine m_box ?_
  refine m_box ?_
  refine m_assign ?_
  refine hKK _ _ ?_
  clear hKK KK
  refine awp_seq ?_
  refine awp_rseq (by decide) fun KK hKK => ?_
  refine m_field ?_
  refine m_load ?_
  refine m_bin ?_
  refine hKK _ _ ?_
  clear hKK KK
  refine m_cond (fun hc => ?_) (fun hc => ?_)
  · refine awp_rseq (by decide) fun KK hKK => ?_
    refine m_field ?_
    refine m_load ?_
    refine m_field ?_
    refine m_field ?_
    refine m_load ?_
    refine m_bin ?_
    refine m_move ?_
    refine g_field ?_
    refine g_load ?_
    refine g_len ?_
    refine g_bin ?_
    refine m_pick ?_
    refine m_move ?_
    refine g_field ?_
    refine g_load ?_
    refine g_bin ?_
    refine m_pick ?_
    refine m_move ?_
    refine g_field ?_
    refine g_load ?_
    refine g_call (fun hG => lexical_ok _ e.lex (Nat.le_refl _)) ?_
    refine m_pick ?_
    refine m_move ?_
    refine g_field ?_
    refine g_field ?_
    refine g_load ?_
    refine g_field ?_
    refine g_load ?_
    refine g_bin ?_
    refine m_pick ?_
    refine m_move ?_
    refine g_field ?_
    refine g_field ?_
    refine g_load ?_
    refine g_field ?_
    refine g_load ?_
    refine g_bin ?_
    refine m_pick ?_
    refine m_assign ?_
    refine hKK _ _ ?_
    clear hKK KK
    refine awp_ret ⟨[_], ⟨⟨(by simp only [go_sem, reduceIte, Nat.reduceEqDiff, FF]), (by simp only [go_sem, reduceIte, Nat.reduceEqDiff, FF] <;> rfl)⟩, trivial⟩, ?_⟩
    simp only [go_sem, reduceIte, Nat.reduceEqDiff, FF, tupled]
    refine CV.Sub.of_eq ?_
    unfold formedF
    rw [if_pos hc]
  refine awp_skip ?_
  first | rw [thenQ_normal] | rw [blockQ_normal, thenQ_normal]
  have hk0 := hc
  clear hc
  refine awp_seq ?_
  refine awp_rseq (by decide) fun KK hKK => ?_
  refine m_field ?_
  refine m_load ?_
  refine m_bin ?_
  refine m_move ?_
  refine g_field ?_
  refine g_load ?_
  refine g_call (fun hG => zero_ok e.lex) ?_
  refine g_not ?_
  refine m_pick ?_
  refine m_move ?_
  refine g_field ?_
  refine g_load ?_
  refine g_len ?_
  refine g_bin ?_
  refine m_pick ?_
  refine m_move ?_
  refine g_field ?_
  refine g_load ?_
  refine g_len ?_
  refine g_bin ?_
  refine m_pick ?_
  refine hKK _ _ ?_
  clear hKK KK
  refine m_cond (fun hc => ?_) (fun hc => ?_)
  · refine awp_rseq (by decide) fun KK hKK => ?_
    refine m_assign ?_
    refine hKK _ _ ?_
    clear hKK KK
    refine awp_ret ⟨[_], ⟨⟨(by simp only [go_sem, reduceIte, Nat.reduceEqDiff, FF]), (by simp only [go_sem, reduceIte, Nat.reduceEqDiff, FF] <;> rfl)⟩, trivial⟩, ?_⟩
    simp only [go_sem, reduceIte, Nat.reduceEqDiff, FF, tupled]
    refine CV.Sub.of_eq ?_
    unfold formedF
    rw [if_neg (by rw [hk0]; decide), if_pos hc]
  refine awp_skip ?_
  first | rw [thenQ_normal] | rw [blockQ_normal, thenQ_normal]
  have hspec : formedF c e = formedR c e (chain c e.kids e.frm) := by
    unfold formedF
    rw [if_neg (by rw [hk0]; decide), if_neg (by rw [hc]; decide)]
  have hlen : e.kids.length ≤ 2 := by simp only [Bool.or_eq_false_iff, decide_eq_false_iff_not] at hc; omega
  rw [hspec]
  clear hc
  refine awp_rseq (by decide) fun KK hKK => ?_
  refine m_field ?_
  refine m_load ?_
  refine m_assign ?_
  refine hKK _ _ ?_
  clear hKK KK
  refine awp_seq ?_
  refine awp_rseq (by decide) fun KK hKK => ?_
  refine m_assign ?_
  refine hKK _ _ ?_
  clear hKK KK
  refine awp_block ?_
  refine m_for (ι := Nat × Int) (fun i => [(2, .ptr 2 0), (3, .ptr 3 0), (5, .int i.2), (6, .int i.1)]) (fun i => [(2, .box 24 ((cellsC c).map .c)), (3, .box 43 ((cellsE e).map .c))]) (fun i => e.kids.length - i.1) (fun i => i.1 ≤ e.kids.length ∧ chain c (e.kids.drop i.1) i.2 = chain c e.kids e.frm) ((0, e.frm)) ?_ ?_
  · exact ⟨Nat.zero_le _, rfl⟩
  rintro ⟨i, a⟩ ⟨hi, hres⟩
  dsimp only at hi hres ⊢
  refine awp_seq ?_
  refine awp_rseq (by decide) fun KK hKK => ?_
  refine m_move ?_
  refine m_field ?_
  refine m_load ?_
  refine m_len ?_
  refine m_bin ?_
  refine hKK _ _ ?_
  clear hKK KK
  refine m_cond (fun hc => ?_) (fun hc => ?_)
  · simp only [decide_eq_true_eq] at hc
    have hi' : i < e.kids.length := by omega
    have w3 : IntKind.i64.wrap ((i : Int) + 1) = ((i + 1 : Nat) : Int) := wrap_in (by omega)
    have hstep := chain_drop c a hi'
    rw [hres] at hstep
    refine awp_skip ?_
    first | rw [thenQ_normal] | rw [blockQ_normal, thenQ_normal]
    refine awp_seq (awp_block ?_)
    clear hc
    refine awp_rseq (by decide) fun KK hKK => ?_
    refine m_field ?_
    refine m_load ?_
    refine m_move ?_
    refine m_index ?_
    refine m_load ?_
    refine m_assign ?_
    refine hKK _ _ ?_
    clear hKK KK
    refine awp_seq ?_
    refine awp_rseq (by decide) fun KK hKK => ?_
    refine m_move ?_
    refine m_bin ?_
    refine m_move ?_
    refine g_move ?_
    refine g_field ?_
    refine g_load ?_
    refine g_len ?_
    refine g_bin ?_
    refine m_pick ?_
    refine m_move ?_
    refine g_field ?_
    refine g_load ?_
    refine g_move ?_
    refine g_index ?_
    refine g_field ?_
    refine g_load ?_
    refine g_move ?_
    refine g_bin ?_
    refine m_pick ?_
    refine hKK _ _ ?_
    clear hKK KK
    refine m_cond (fun hc => ?_) (fun hc => ?_)
    · refine awp_rseq (by decide) fun KK hKK => ?_
      refine m_assign ?_
      refine hKK _ _ ?_
      clear hKK KK
      refine awp_ret ⟨[_], ⟨⟨(by simp only [go_sem, reduceIte, Nat.reduceEqDiff, FF]), (by simp only [go_sem, reduceIte, Nat.reduceEqDiff, FF] <;> rfl)⟩, trivial⟩, ?_⟩
      simp only [go_sem, reduceIte, Nat.reduceEqDiff, FF, tupled]
      refine CV.Sub.of_eq ?_
      rw [hstep, if_pos hc]
      rfl
    refine awp_skip ?_
    first | rw [thenQ_normal] | rw [blockQ_normal, thenQ_normal]
    rw [if_neg (by rw [hc]; decide)] at hstep
    have hin : 0 ≤ e.kids.getD i 0 ∧ e.kids.getD i 0 < (c.edges.length : Int) := by simp only [Bool.or_eq_false_iff, decide_eq_false_iff_not] at hc; omega
    clear hc
    refine awp_rlast (by decide) fun KK hKK => ?_
    refine m_field ?_
    refine m_load ?_
    refine m_move ?_
    refine m_index ?_
    refine m_field ?_
    refine m_load ?_
    refine m_assign ?_
    refine hKK _ _ ?_
    clear hKK KK
    first | rw [thenQ_normal] | rw [blockQ_normal, thenQ_normal]
    have FF := And.intro w3 FF
    refine awp_rlast (by decide) fun KK hKK => ?_
    refine m_move ?_
    refine m_bin ?_
    refine m_assign ?_
    refine hKK _ _ ?_
    clear hKK KK
    try rw [thenQ_normal]
    refine m_next ((i + 1, (edgeAt c (e.kids.getD i 0)).to)) ?_ ?_
    · exact ⟨hi', hstep.symm⟩
    · dsimp only; omega
  · refine awp_exit ?_
    simp only [thenQ_exit, blockQ_exit, reduceIte, Nat.reduceEqDiff]
    try rw [thenQ_normal]
    have hi' : i = e.kids.length := by simp only [decide_eq_false_iff_not] at hc; omega
    have hch : chain c e.kids e.frm = some a := by rw [← hres, hi', List.drop_length]; rfl
    rw [hch, formedR]
    clear hc
    refine awp_seq ?_
    refine awp_rseq (by decide) fun KK hKK => ?_
    refine m_move ?_
    refine m_field ?_
    refine m_load ?_
    refine m_bin ?_
    refine hKK _ _ ?_
    clear hKK KK
    refine m_cond (fun hc => ?_) (fun hc => ?_)
    · refine awp_rseq (by decide) fun KK hKK => ?_
      refine m_assign ?_
      refine hKK _ _ ?_
      clear hKK KK
      refine awp_ret ⟨[_], ⟨⟨(by simp only [go_sem, reduceIte, Nat.reduceEqDiff, FF]), (by simp only [go_sem, reduceIte, Nat.reduceEqDiff, FF] <;> rfl)⟩, trivial⟩, ?_⟩
      simp only [go_sem, reduceIte, Nat.reduceEqDiff, FF, tupled]
      exact CV.Sub.of_eq (by rw [hc]; rfl)
    refine awp_skip ?_
    first | rw [thenQ_normal] | rw [blockQ_normal, thenQ_normal]
    rw [hc, Bool.not_false, Bool.true_and]
    clear hc
    refine awp_rseq (by decide) fun KK hKK => ?_
    refine m_assign ?_
    refine hKK _ _ ?_
    clear hKK KK
    refine awp_seq ?_
    refine awp_rseq (by decide) fun KK hKK => ?_
    refine m_field ?_
    refine m_load ?_
    refine m_len ?_
    refine m_bin ?_
    refine hKK _ _ ?_
    clear hKK KK
    refine m_cond (fun hc => ?_) (fun hc => ?_)
    · have hl1 : e.kids.length = 1 := by simp only [beq_iff_eq] at hc; omega
      have hin := chain_in c _ _ _ hch (e.kids.getD 0 0) (by rw [getD_lt (by omega)]; exact List.getElem_mem _)
      have hu : unaryOf c e = IntKind.i64.wrap ((edgeAt c (e.kids.getD 0 0)).unary + 1) := by unfold unaryOf; rw [if_pos hc]
      clear hc
      refine awp_rlast_draw Try.mixed (by decide) (by kernel_rfl) fun KK hKK => ?_
      refine m_field ?_
      refine m_load ?_
      refine m_field ?_
      refine m_load ?_
      refine m_index ?_
      refine m_load ?_
      refine m_index ?_
      refine m_field ?_
      refine m_load ?_
      refine m_bin ?_
      refine m_assign ?_
      refine hKK _ _ ?_
      clear hKK KK
      first | rw [thenQ_normal] | rw [blockQ_normal, thenQ_normal]
      refine awp_rseq (by decide) fun KK hKK => ?_
      refine m_field ?_
      refine m_load ?_
      refine m_move ?_
      refine m_bin ?_
      refine m_move ?_
      refine g_move ?_
      refine g_bin ?_
      refine m_pick ?_
      refine m_assign ?_
      refine hKK _ _ ?_
      clear hKK KK
      refine awp_ret ⟨[_], ⟨⟨(by simp only [go_sem, reduceIte, Nat.reduceEqDiff, FF]), (by simp only [go_sem, reduceIte, Nat.reduceEqDiff, FF] <;> rfl)⟩, trivial⟩, ?_⟩
      simp only [go_sem, reduceIte, Nat.reduceEqDiff, FF, tupled]
      exact CV.Sub.of_eq (by rw [hu]; rfl)
    refine awp_skip ?_
    first | rw [thenQ_normal] | rw [blockQ_normal, thenQ_normal]
    have hu : unaryOf c e = 0 := by unfold unaryOf; rw [if_neg (by rw [hc]; decide)]
    refine awp_rseq (by decide) fun KK hKK => ?_
    refine m_field ?_
    refine m_load ?_
    refine m_move ?_
    refine m_bin ?_
    refine m_move ?_
    refine g_move ?_
    refine g_bin ?_
    refine m_pick ?_
    refine m_assign ?_
    refine hKK _ _ ?_
    clear hKK KK
    refine awp_ret ⟨[_], ⟨⟨(by simp only [go_sem, reduceIte, Nat.reduceEqDiff, FF]), (by simp only [go_sem, reduceIte, Nat.reduceEqDiff, FF] <;> rfl)⟩, trivial⟩, ?_⟩
    simp only [go_sem, reduceIte, Nat.reduceEqDiff, FF, tupled]
    exact CV.Sub.of_eq (by rw [hu])
end Go.Am
