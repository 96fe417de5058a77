/- Contracts: the cover of a chart, twice. No condition. -/
import Derived.Test.YtfepiaclbokkjaaSpec2
namespace Go.Am
open Go.Proofs
attribute [local go_sem ↓] ofL_cons ofH_cons upd_apply
attribute [local go_sem] cellsE cellsC cellsP
set_option maxHeartbeats 2000000
set_option linter.unusedSimpArgs false

theorem cover_ok (c : Ch) (h : Ok c) : APure Try.prog 14 [.agg (cellsC c)] (encInts (coverF c)) := by
  obtain ⟨W, hW⟩ : ∃ W : Nat, c.words = (W : Int) := ⟨c.words.toNat, by have := h.words; omega⟩
  have hWt : c.words.toNat = W := by rw [hW]; rfl
  have hW2 : W ≤ 32 := by have := h.words; omega
  have hL := h.len
  have w1 : IntKind.i64.wrap ((W : Int) + 1) = ((W + 1 : Nat) : Int) := wrap_in (by omega)
  have w2 : IntKind.i64.wrap ((W : Int) - 1) = (W : Int) - 1 - ((0 : Nat) : Int) := by rw [wrap_in (by omega)]; omega
  have FF : True := trivial
  refine apure_of Try.func14 rfl (by kernel_rfl) (by simp [Try.ntmps14]) ?_
  rw [Try.ntmps14]
  have FF := And.intro hW FF
  refine awp_rseq (by decide) fun KK hKK => ?_
  refine m_box ?_
  refine m_assign ?_
  refine hKK _ _ ?_
  clear hKK KK
  have FF := And.intro w1 FF
  refine awp_rseq (by decide) fun KK hKK => ?_
  refine m_field ?_
  refine m_load ?_
  refine m_bin ?_
  refine m_make ?_
  refine m_assign ?_
  refine hKK _ _ ?_
  clear hKK KK
  refine awp_seq ?_
  have FF := And.intro w2 FF
  refine awp_rseq (by decide) fun KK hKK => ?_
  refine m_field ?_
  refine m_load ?_
  refine m_bin ?_
  refine m_assign ?_
  refine hKK _ _ ?_
  clear hKK KK
  refine awp_block ?_
  refine m_forH (ι := Nat) (fun k => [(1, .ptr 1 0), (3, .own 14 (W + 1)), (4, .int ((W : Int) - 1 - k))]) (fun k => [(1, .box 24 ((cellsC c).map .c)), (14, .row 55 2 (W + 1) (fun q => cellsP (dpB c k q)))]) (fun k => W - k) (fun k => k ≤ W) (0) ?_ ?_ ?_
  · exact Nat.zero_le _
  · exact List.forall_mem_cons.2 ⟨objLe_of (by simp only [go_sem, reduceIte, Nat.reduceEqDiff, List.length_append, List.length_cons, List.length_nil, FF]), List.forall_mem_cons.2 ⟨objLe_rows rfl (fun i hi => ⟨CV.Sub.refl _, CV.Sub.im0 rfl rfl, trivial⟩), List.forall_mem_nil _⟩⟩
  intro k hk
  refine awp_seq ?_
  refine awp_rseq (by decide) fun KK hKK => ?_
  refine m_move ?_
  refine m_bin ?_
  refine hKK _ _ ?_
  clear hKK KK
  refine m_cond (fun hc => ?_) (fun hc => ?_)
  · simp only [decide_eq_true_eq] at hc
    obtain ⟨a, ha⟩ : ∃ a, a = W - (k + 1) := ⟨_, rfl⟩
    have hat : (W : Int) - 1 - k = (a : Int) := by omega
    have haw : a < W := by omega
    have w3 : IntKind.i64.wrap ((a : Int) + 1) = ((a + 1 : Nat) : Int) := wrap_in (by omega)
    have w4 : IntKind.i64.wrap ((a : Int) - 1) = (W : Int) - 1 - ((k + 1 : Nat) : Int) := by rw [wrap_in (by omega)]; omega
    have hdp : ∀ q, a < q → q ≤ W → PlOk W q (dpB c k q) := fun q h1 h2 => by
      have := dpB_ok h k (by omega) q (by omega) (by omega)
      rwa [hWt] at this
    refine awp_skip ?_
    first | rw [thenQ_normal] | rw [blockQ_normal, thenQ_normal]
    refine awp_seq (awp_block ?_)
    clear hc
    have FF := And.intro hW (And.intro hat FF)
    have FF := And.intro w3 FF
    refine awp_rseq (by decide) fun KK hKK => ?_
    refine m_move ?_
    refine m_move ?_
    refine m_bin ?_
    refine m_index ?_
    refine m_load ?_
    refine m_alloc ?_
    first | refine m_stPtr ?_ | refine m_stRp ?_
    refine hKK _ _ ?_
    clear hKK KK
    refine awp_seq ?_
    refine awp_rseq (by decide) fun KK hKK => ?_
    refine m_field ?_
    refine m_load ?_
    refine m_len ?_
    refine m_move ?_
    refine hKK _ _ ?_
    clear hKK KK
    refine awp_block ?_
    refine m_for (ι := Nat) (fun i => [(1, .ptr 1 0), (3, .own 14 (W + 1)), (4, .int a), (5, .ptr 5 0), (28, .c (encEs c.edges)), (29, .int c.edges.length), (30, .int i)]) (fun i => [(1, .box 24 ((cellsC c).map .c)), (14, .row 55 2 (W + 1) (fun q => cellsP (dpB c k q))), (5, .box 55 ((cellsP (rowTo c a (dpB c k) i)).map .c))]) (fun i => c.edges.length - i) (fun i => i ≤ c.edges.length) (0) ?_ ?_
    · exact Nat.zero_le _
    intro i hi
    refine awp_rseq (by decide) fun KK hKK => ?_
    refine m_bin ?_
    refine hKK _ _ ?_
    clear hKK KK
    refine awp_seq ?_
    refine m_cond (fun hc => ?_) (fun hc => ?_)
    · simp only [decide_eq_true_eq] at hc
      have hi' : i < c.edges.length := by omega
      have w5 : IntKind.i64.wrap ((i : Int) + 1) = ((i + 1 : Nat) : Int) := wrap_in (by omega)
      obtain ⟨e, he⟩ : ∃ e, e = c.edges.getD i default := ⟨_, rfl⟩
      have hs := h.span e (by rw [he, getD_lt hi']; exact List.getElem_mem _)
      have hro := rowTo_ok h (P := dpB c k) (at_ := a) (by omega) (fun q h1 h2 => by rw [hWt] at h2 ⊢; exact hdp q h1 h2) i hi
      refine awp_skip ?_
      first | rw [thenQ_normal] | rw [blockQ_normal, thenQ_normal]
      refine awp_seq (awp_block ?_)
      clear hc
      have FF := And.intro he.symm FF
      refine awp_rseq (by decide) fun KK hKK => ?_
      refine m_move ?_
      refine m_index ?_
      refine m_load ?_
      refine m_alloc ?_
      refine m_assign ?_
      first | refine m_stPtr ?_ | refine m_stRp ?_
      refine hKK _ _ ?_
      clear hKK KK
      refine awp_seq ?_
      refine awp_rseq (by decide) fun KK hKK => ?_
      refine m_field ?_
      refine m_load ?_
      refine m_move ?_
      refine m_bin ?_
      refine hKK _ _ ?_
      clear hKK KK
      refine m_cond (fun hc => ?_) (fun hc => ?_)
      · have hst : rowTo c a (dpB c k) (i + 1) = rowTo c a (dpB c k) i := by rw [rowTo, rowStep, if_pos (by rw [← he]; exact hc)]
        refine awp_exit ?_
        simp only [thenQ_exit, blockQ_exit, reduceIte, Nat.reduceEqDiff]
        try rw [thenQ_normal]
        have FF := And.intro w5 FF
        refine awp_rlast (by decide) fun KK hKK => ?_
        refine m_bin ?_
        refine m_move ?_
        refine hKK _ _ ?_
        clear hKK KK
        have FF := And.intro hst FF
        try rw [thenQ_normal]
        refine m_next (i + 1) ?_ ?_
        · exact hi'
        · omega
      refine awp_skip ?_
      first | rw [thenQ_normal] | rw [blockQ_normal, thenQ_normal]
      have hfr : e.frm = (a : Int) := by simpa using hc
      obtain ⟨R, hR⟩ : ∃ R, R = dpB c k e.to.toNat := ⟨_, rfl⟩
      obtain ⟨p1, p2, p3⟩ : PlOk W e.to.toNat R := by rw [hR]; exact hdp _ (by omega) (by omega)
      have hpl : planI c (dpB c k) i = (R.1 + (e.to - e.frm), (i : Int) :: R.2) := by unfold planI; rw [← he, ← hR]
      have hst : rowTo c a (dpB c k) (i + 1) = if betterF (R.1 + (e.to - e.frm), (i : Int) :: R.2) (rowTo c a (dpB c k) i) then (R.1 + (e.to - e.frm), (i : Int) :: R.2) else rowTo c a (dpB c k) i := by
        rw [rowTo, rowStep, if_neg (by rw [← he, hc]; decide), hpl]
      have w6 : IntKind.i64.wrap (1 + ((R.2.length : Nat) : Int)) = ((R.2.length + 1 : Nat) : Int) := by rw [wrap_in (by omega)]; omega
      have w7 : IntKind.i64.wrap (R.1 + e.to) = R.1 + e.to := wrap_in (by omega)
      have w8 : IntKind.i64.wrap (R.1 + e.to - e.frm) = R.1 + (e.to - e.frm) := by rw [wrap_in (by omega)]; omega
      clear hc
      have FF := And.intro hR.symm FF
      refine awp_rseq (by decide) fun KK hKK => ?_
      refine m_move ?_
      refine m_field ?_
      refine m_load ?_
      refine m_index ?_
      refine m_load ?_
      refine m_alloc ?_
      first | refine m_stPtr ?_ | refine m_stRp ?_
      refine hKK _ _ ?_
      clear hKK KK
      have FF := And.intro w6 FF
      refine awp_rseq (by decide) fun KK hKK => ?_
      refine m_field ?_
      refine m_load ?_
      refine m_len ?_
      refine m_bin ?_
      refine m_make ?_
      refine m_assign ?_
      refine hKK _ _ ?_
      clear hKK KK
      refine awp_rseq (by decide) fun KK hKK => ?_
      refine m_move ?_
      refine m_move ?_
      refine m_index ?_
      first | refine m_stPtr ?_ | refine m_stRp ?_
      refine hKK _ _ ?_
      clear hKK KK
      refine awp_rseq_draw Try.mixed (by decide) (by kernel_rfl) fun KK hKK => ?_
      refine m_move ?_
      first | refine m_slOwn ?_ | refine m_slIm ?_
      refine m_field ?_
      refine m_load ?_
      first | refine m_copyOwn ?_ | refine m_copySub ?_
      refine hKK _ _ ?_
      clear hKK KK
      refine m_cutH [(1, .ptr 1 0), (3, .own 14 (W + 1)), (4, .int a), (5, .ptr 5 0), (7, .ptr 7 0), (8, .ptr 8 0), (28, .c (encEs c.edges)), (29, .int c.edges.length), (30, .int i), (9, .own 48 (R.2.length + 1))] [(1, .box 24 ((cellsC c).map .c)), (14, .row 55 2 (W + 1) (fun q => cellsP (dpB c k q))), (5, .box 55 ((cellsP (rowTo c a (dpB c k) i)).map .c)), (7, .box 43 ((cellsE e).map .c)), (8, .box 55 ((cellsP R).map .c)), (48, .row 3 1 (R.2.length + 1) (fun q => [.int (((i : Int) :: R.2).getD q 0)]))] ?_ ?_
      · exact List.forall_mem_cons.2 ⟨objLe_of (by simp only [go_sem, reduceIte, Nat.reduceEqDiff, List.length_append, List.length_cons, List.length_nil, FF]), List.forall_mem_cons.2 ⟨objLe_of (by simp only [go_sem, reduceIte, Nat.reduceEqDiff, List.length_append, List.length_cons, List.length_nil, FF]), List.forall_mem_cons.2 ⟨objLe_of (by simp only [go_sem, reduceIte, Nat.reduceEqDiff, List.length_append, List.length_cons, List.length_nil, FF]), List.forall_mem_cons.2 ⟨objLe_of (by simp only [go_sem, reduceIte, Nat.reduceEqDiff, List.length_append, List.length_cons, List.length_nil, FF]), List.forall_mem_cons.2 ⟨objLe_of (by simp only [go_sem, reduceIte, Nat.reduceEqDiff, List.length_append, List.length_cons, List.length_nil, FF]), List.forall_mem_cons.2 ⟨objLe_row (fun q hq => by first | (cases q <;> simp [upd_apply, setLC, Nat.min_def] <;> omega) | trace_state), List.forall_mem_nil _⟩⟩⟩⟩⟩⟩
      refine m_frz 48 [(1, .ptr 1 0), (3, .own 14 (W + 1)), (4, .int a), (5, .ptr 5 0), (7, .ptr 7 0), (8, .ptr 8 0), (28, .c (encEs c.edges)), (29, .int c.edges.length), (30, .int i), (9, .c (encInts ((i : Int) :: R.2)))] [(1, .box 24 ((cellsC c).map .c)), (14, .row 55 2 (W + 1) (fun q => cellsP (dpB c k q))), (5, .box 55 ((cellsP (rowTo c a (dpB c k) i)).map .c)), (7, .box 43 ((cellsE e).map .c)), (8, .box 55 ((cellsP R).map .c))] ?_
      have FF := And.intro w7 (And.intro w8 FF)
      refine awp_rseq (by decide) fun KK hKK => ?_
      refine m_field ?_
      refine m_load ?_
      refine m_field ?_
      refine m_load ?_
      refine m_bin ?_
      refine m_field ?_
      refine m_load ?_
      refine m_bin ?_
      refine m_move ?_
      refine m_build ?_
      refine m_alloc ?_
      first | refine m_stPtr ?_ | refine m_stRp ?_
      refine hKK _ _ ?_
      clear hKK KK
      refine awp_rseq (by decide) fun KK hKK => ?_
      refine m_load ?_
      refine m_load ?_
      refine m_call (fun hG => better_ok (R.1 + (e.to - e.frm), (i : Int) :: R.2) (rowTo c a (dpB c k) i) (by show (_ :: _ : List Int).length ≤ _; rw [List.length_cons]; omega)) ?_
      refine hKK _ _ ?_
      clear hKK KK
      refine m_cond (fun hc => ?_) (fun hc => ?_)
      · rw [if_pos hc] at hst
        refine awp_rlast (by decide) fun KK hKK => ?_
        refine m_load ?_
        first | refine m_stPtr ?_ | refine m_stRp ?_
        refine hKK _ _ ?_
        clear hKK KK
        first | rw [thenQ_normal] | rw [blockQ_normal, thenQ_normal]
        have FF := And.intro w5 FF
        refine awp_rlast (by decide) fun KK hKK => ?_
        refine m_bin ?_
        refine m_move ?_
        refine hKK _ _ ?_
        clear hKK KK
        have FF := And.intro hst FF
        try rw [thenQ_normal]
        refine m_next (i + 1) ?_ ?_
        · exact hi'
        · omega
      · rw [if_neg (by rw [hc]; decide)] at hst
        refine awp_skip ?_
        first | rw [thenQ_normal] | rw [blockQ_normal, thenQ_normal]
        have FF := And.intro w5 FF
        refine awp_rlast (by decide) fun KK hKK => ?_
        refine m_bin ?_
        refine m_move ?_
        refine hKK _ _ ?_
        clear hKK KK
        have FF := And.intro hst FF
        try rw [thenQ_normal]
        refine m_next (i + 1) ?_ ?_
        · exact hi'
        · omega
    · refine awp_exit ?_
      simp only [thenQ_exit, blockQ_exit, reduceIte, Nat.reduceEqDiff]
      try rw [thenQ_normal]
      have hi' : i = c.edges.length := by simp only [decide_eq_false_iff_not] at hc; omega
      have hro : rowTo c a (dpB c k) i = rowF c a (dpB c k) := by rw [hi']; rfl
      have hdk : dpB c (k + 1) = upd (dpB c k) a (rowF c a (dpB c k)) := by rw [dpB, hWt, ← ha]
      rw [hro]
      clear hc
      refine awp_rlast (by decide) fun KK hKK => ?_
      refine m_move ?_
      refine m_move ?_
      refine m_load ?_
      refine m_index ?_
      first | refine m_stPtr ?_ | refine m_stRp ?_
      refine hKK _ _ ?_
      clear hKK KK
      first | rw [thenQ_normal] | rw [blockQ_normal, thenQ_normal]
      have FF := And.intro w4 FF
      refine awp_rlast (by decide) fun KK hKK => ?_
      refine m_move ?_
      refine m_bin ?_
      refine m_assign ?_
      refine hKK _ _ ?_
      clear hKK KK
      try rw [thenQ_normal]
      refine m_nextH (k + 1) ?_ ?_ ?_
      · omega
      · omega
      · rw [hdk]
        exact List.forall_mem_cons.2 ⟨objLe_of (by simp only [go_sem, reduceIte, Nat.reduceEqDiff, List.length_append, List.length_cons, List.length_nil, FF]), List.forall_mem_cons.2 ⟨objLe_row (fun q hq => by by_cases e : q = a <;> simp [upd_apply, e, cellsP, setLC] <;> trace_state), List.forall_mem_nil _⟩⟩
  · refine awp_exit ?_
    simp only [thenQ_exit, blockQ_exit, reduceIte, Nat.reduceEqDiff]
    try rw [thenQ_normal]
    have hk' : k = W := by simp only [decide_eq_false_iff_not] at hc; omega
    have hcv : coverF c = (dpB c k 0).2 := by unfold coverF; rw [hWt, hk']
    rw [hcv]
    clear hc
    refine awp_rseq (by decide) fun KK hKK => ?_
    refine m_move ?_
    refine m_index ?_
    refine m_field ?_
    refine m_load ?_
    refine m_assign ?_
    refine hKK _ _ ?_
    clear hKK KK
    refine awp_ret ⟨[_], ⟨⟨(by simp only [go_sem, reduceIte, Nat.reduceEqDiff, FF]), (by simp only [go_sem, reduceIte, Nat.reduceEqDiff, FF] <;> rfl)⟩, trivial⟩, ?_⟩
    simp only [go_sem, reduceIte, Nat.reduceEqDiff, FF, tupled]
    exact CV.Sub.refl _
end Go.Am
