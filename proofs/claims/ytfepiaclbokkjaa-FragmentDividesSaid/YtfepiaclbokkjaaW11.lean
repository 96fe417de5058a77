/- Contracts: the cover of a chart, as the reference has it. No condition. -/
import Derived.Test.YtfepiaclbokkjaaW10
namespace Go.Am
open Go.Proofs
attribute [local go_sem ↓] ofL_cons ofH_cons upd_apply
attribute [local go_sem] cellsE cellsC cellsP
set_option maxHeartbeats 2000000
set_option linter.unusedSimpArgs false

theorem plan_snoc (f : Nat → Pl) (n : Nat) (x : Pl) (g : Nat → Pl) (h1 : ∀ j, j < n → g j = f j) (h2 : g n = x) {ty : TypeId} :
    objLe (.row ty 2 (n + 1) (fun q => if q < n then cellsP (f q) else [cellsP x].getD (q - n) [])) (.row ty 2 (n + 1) (fun q => cellsP (g q))) := by
  refine objLe_row fun i hi => ?_
  by_cases h : i < n
  · simp only [h, if_true, h1 i h]
  · have : i = n := by omega
    subst this
    simp [h2]

theorem rcover_ok (c : Ch) (h : Ok c) : APure Try.prog 15 [.agg (cellsC c)] (encInts (coverF c)) := by
  obtain ⟨W, hW⟩ : ∃ W : Nat, c.words = (W : Int) := ⟨c.words.toNat, by have := h.words; omega⟩
  have hWt : c.words.toNat = W := by rw [hW]; rfl
  have hW2 : W ≤ 32 := by have := h.words; omega
  have hL := h.len
  have w2 : IntKind.i64.wrap ((W : Int) - 1) = (W : Int) - 1 - ((0 : Nat) : Int) := by rw [wrap_in (by omega)]; omega
  have FF : True := trivial
  refine apure_of Try.func15 rfl (by kernel_rfl) (by simp [Try.ntmps15]) ?_
  rw [Try.ntmps15]
  have FF := And.intro hW FF
  refine awp_rseq (by decide) fun KK hKK => ?_
  refine m_box ?_
  refine m_assign ?_
  refine hKK _ _ ?_
  clear hKK KK
  refine awp_rseq (by decide) fun KK hKK => ?_
  refine m_slice0 ?_
  refine m_assign ?_
  refine hKK _ _ ?_
  clear hKK KK
  refine awp_rseq (by decide) fun KK hKK => ?_
  refine m_move ?_
  refine m_build ?_
  refine m_sliceN ?_
  first | refine m_appOwn ?_ | refine m_appEmp ?_
  refine m_assign ?_
  refine hKK _ _ ?_
  clear hKK KK
  refine awp_seq ?_
  have FF := And.intro w2 FF
  refine awp_rseq (by decide) fun KK hKK => ?_
  refine m_field ?_
  refine m_load ?_
  refine m_bin ?_
  refine m_assign ?_
  refine hKK _ _ ?_
  clear hKK KK
  refine awp_block ?_
  refine m_forH (ι := Nat) (fun k => [(1, .ptr 1 0), (3, .own 15 (k + 1)), (4, .int ((W : Int) - 1 - k))]) (fun k => [(1, .box 24 ((cellsC c).map .c)), (15, .row 59 2 (k + 1) (fun q => cellsP (dpB c k (W - q))))]) (fun k => W - k) (fun k => k ≤ W) (0) ?_ ?_ ?_
  · exact Nat.zero_le _
  · exact List.forall_mem_cons.2 ⟨objLe_of (by simp only [go_sem, reduceIte, Nat.reduceEqDiff, List.length_append, List.length_cons, List.length_nil, FF]), List.forall_mem_cons.2 ⟨objLe_rows rfl (fun i hi => by rcases i with _ | i <;> first | exact ⟨CV.Sub.refl _, CV.Sub.im0 rfl rfl, trivial⟩ | omega), List.forall_mem_nil _⟩⟩
  intro k hk
  refine awp_seq ?_
  refine awp_rseq (by decide) fun KK hKK => ?_
  refine m_move ?_
  refine m_bin ?_
  refine hKK _ _ ?_
  clear hKK KK
  refine m_cond (fun hc => ?_) (fun hc => ?_)
  · simp only [decide_eq_true_eq] at hc
    obtain ⟨a, ha⟩ : ∃ a, a = W - (k + 1) := ⟨_, rfl⟩
    have hat : (W : Int) - 1 - k = (a : Int) := by omega
    have haw : a < W := by omega
    have hak : W - k = a + 1 := by omega
    have w3 : IntKind.i64.wrap ((W : Int) - (a : Int)) = ((k + 1 : Nat) : Int) := by rw [wrap_in (by omega)]; omega
    have w3' : IntKind.i64.wrap (((k + 1 : Nat) : Int) - 1) = (k : Int) := by rw [wrap_in (by omega)]; omega
    have w4 : IntKind.i64.wrap ((a : Int) - 1) = (W : Int) - 1 - ((k + 1 : Nat) : Int) := by rw [wrap_in (by omega)]; omega
    have hdp : ∀ q, a < q → q ≤ W → PlOk W q (dpB c k q) := fun q h1 h2 => by
      have := dpB_ok h k (by omega) q (by omega) (by omega)
      rwa [hWt] at this
    refine awp_skip ?_
    first | rw [thenQ_normal] | rw [blockQ_normal, thenQ_normal]
    refine awp_seq (awp_block ?_)
    clear hc
    have FF := And.intro hW (And.intro hat FF)
    have FF := And.intro w3 (And.intro w3' (And.intro hak FF))
    refine awp_rseq (by decide) fun KK hKK => ?_
    refine m_move ?_
    refine m_field ?_
    refine m_load ?_
    refine m_move ?_
    refine m_bin ?_
    refine m_bin ?_
    refine m_index ?_
    refine m_load ?_
    refine m_alloc ?_
    first | refine m_stPtr ?_ | refine m_stRp ?_
    refine hKK _ _ ?_
    clear hKK KK
    refine awp_seq ?_
    refine awp_rseq (by decide) fun KK hKK => ?_
    refine m_assign ?_
    refine hKK _ _ ?_
    clear hKK KK
    refine awp_block ?_
    refine m_for (ι := Nat) (fun i => [(1, .ptr 1 0), (3, .own 15 (k + 1)), (4, .int a), (5, .ptr 5 0), (6, .int i)]) (fun i => [(1, .box 24 ((cellsC c).map .c)), (15, .row 59 2 (k + 1) (fun q => cellsP (dpB c k (W - q)))), (5, .box 59 ((cellsP (rowTo c a (dpB c k) i)).map .c))]) (fun i => c.edges.length - i) (fun i => i ≤ c.edges.length) (0) ?_ ?_
    · exact Nat.zero_le _
    intro i hi
    refine awp_seq ?_
    refine awp_rseq (by decide) fun KK hKK => ?_
    refine m_move ?_
    refine m_field ?_
    refine m_load ?_
    refine m_len ?_
    refine m_bin ?_
    refine hKK _ _ ?_
    clear hKK KK
    refine m_cond (fun hc => ?_) (fun hc => ?_)
    · simp only [decide_eq_true_eq] at hc
      have hi' : i < c.edges.length := by omega
      have w5 : IntKind.i64.wrap ((i : Int) + 1) = ((i + 1 : Nat) : Int) := wrap_in (by omega)
      obtain ⟨e, he⟩ : ∃ e, e = c.edges.getD i default := ⟨_, rfl⟩
      have hs := h.span e (by rw [he, getD_lt hi']; exact List.getElem_mem _)
      have hro := rowTo_ok h (P := dpB c k) (at_ := a) (by omega) (fun q h1 h2 => by rw [hWt] at h2 ⊢; exact hdp q h1 h2) i hi
      refine awp_skip ?_
      first | rw [thenQ_normal] | rw [blockQ_normal, thenQ_normal]
      refine awp_seq (awp_block ?_)
      clear hc
      have FF := And.intro he.symm FF
      refine awp_rseq (by decide) fun KK hKK => ?_
      refine m_field ?_
      refine m_load ?_
      refine m_move ?_
      refine m_index ?_
      refine m_load ?_
      refine m_alloc ?_
      first | refine m_stPtr ?_ | refine m_stRp ?_
      refine hKK _ _ ?_
      clear hKK KK
      refine awp_seq ?_
      refine awp_rseq (by decide) fun KK hKK => ?_
      refine m_field ?_
      refine m_load ?_
      refine m_move ?_
      refine m_bin ?_
      refine hKK _ _ ?_
      clear hKK KK
      refine m_cond (fun hc => ?_) (fun hc => ?_)
      · have hst : rowTo c a (dpB c k) (i + 1) = rowTo c a (dpB c k) i := by rw [rowTo, rowStep, if_pos (by rw [← he]; exact hc)]
        refine awp_exit ?_
        simp only [thenQ_exit, blockQ_exit, reduceIte, Nat.reduceEqDiff]
        try rw [thenQ_normal]
        have FF := And.intro w5 FF
        refine awp_rlast (by decide) fun KK hKK => ?_
        refine m_move ?_
        refine m_bin ?_
        refine m_assign ?_
        refine hKK _ _ ?_
        clear hKK KK
        have FF := And.intro hst FF
        try rw [thenQ_normal]
        refine m_next (i + 1) ?_ ?_
        · exact hi'
        · omega
      refine awp_skip ?_
      first | rw [thenQ_normal] | rw [blockQ_normal, thenQ_normal]
      have hfr : e.frm = (a : Int) := by simpa using hc
      obtain ⟨R, hR⟩ : ∃ R, R = dpB c k e.to.toNat := ⟨_, rfl⟩
      obtain ⟨p1, p2, p3⟩ : PlOk W e.to.toNat R := by rw [hR]; exact hdp _ (by omega) (by omega)
      have hpl : planI c (dpB c k) i = (R.1 + (e.to - e.frm), (i : Int) :: R.2) := by unfold planI; rw [← he, ← hR]
      have hst : rowTo c a (dpB c k) (i + 1) = if betterF (R.1 + (e.to - e.frm), (i : Int) :: R.2) (rowTo c a (dpB c k) i) then (R.1 + (e.to - e.frm), (i : Int) :: R.2) else rowTo c a (dpB c k) i := by
        rw [rowTo, rowStep, if_neg (by rw [← he, hc]; decide), hpl]
      obtain ⟨t, ht⟩ : ∃ t : Nat, t = W - e.to.toNat := ⟨_, rfl⟩
      have hte : W - t = e.to.toNat := by omega
      have w6 : IntKind.i64.wrap ((W : Int) - e.to) = (t : Int) := by rw [wrap_in (by omega)]; omega
      have w7 : IntKind.i64.wrap (e.to - e.frm) = e.to - e.frm := wrap_in (by omega)
      have w8 : IntKind.i64.wrap (e.to - e.frm + R.1) = R.1 + (e.to - e.frm) := by rw [wrap_in (by omega)]; omega
      clear hc
      have FF := And.intro w6 (And.intro hte (And.intro hR.symm FF))
      refine awp_rseq (by decide) fun KK hKK => ?_
      refine m_move ?_
      refine m_field ?_
      refine m_load ?_
      refine m_field ?_
      refine m_load ?_
      refine m_bin ?_
      refine m_index ?_
      refine m_load ?_
      refine m_alloc ?_
      first | refine m_stPtr ?_ | refine m_stRp ?_
      refine hKK _ _ ?_
      clear hKK KK
      have FF := And.intro w7 (And.intro w8 FF)
      refine awp_rseq (by decide) fun KK hKK => ?_
      refine m_field ?_
      refine m_load ?_
      refine m_field ?_
      refine m_load ?_
      refine m_bin ?_
      refine m_field ?_
      refine m_load ?_
      refine m_bin ?_
      refine m_build ?_
      refine m_alloc ?_
      first | refine m_stPtr ?_ | refine m_stRp ?_
      refine hKK _ _ ?_
      clear hKK KK
      refine awp_rseq (by decide) fun KK hKK => ?_
      refine m_field ?_
      refine m_load ?_
      refine m_move ?_
      refine m_sliceN ?_
      first | refine m_appOwn ?_ | refine m_appEmp ?_
      refine m_field ?_
      first | refine m_stPtr ?_ | refine m_stRp ?_
      refine hKK _ _ ?_
      clear hKK KK
      refine awp_seq ?_
      refine awp_rseq (by decide) fun KK hKK => ?_
      refine m_assign ?_
      refine hKK _ _ ?_
      clear hKK KK
      refine awp_block ?_
      refine m_forH (ι := Nat) (fun j => [(1, .ptr 1 0), (3, .own 15 (k + 1)), (4, .int a), (5, .ptr 5 0), (6, .int i), (7, .ptr 7 0), (8, .ptr 8 0), (9, .ptr 9 0), (10, .int j)]) (fun j => [(1, .box 24 ((cellsC c).map .c)), (15, .row 59 2 (k + 1) (fun q => cellsP (dpB c k (W - q)))), (5, .box 59 ((cellsP (rowTo c a (dpB c k) i)).map .c)), (7, .box 43 ((cellsE e).map .c)), (8, .box 59 ((cellsP R).map .c)), (9, .box 59 [.int (R.1 + (e.to - e.frm)), .own 68 (((i : Int) :: R.2.take j)).length]), (68, .row 3 1 (((i : Int) :: R.2.take j)).length (fun q => [.int (((i : Int) :: R.2.take j).getD q 0)]))]) (fun j => R.2.length - j) (fun j => j ≤ R.2.length) (0) ?_ ?_ ?_
      · exact Nat.zero_le _
      · exact List.forall_mem_cons.2 ⟨objLe_of (by simp only [go_sem, reduceIte, Nat.reduceEqDiff, List.length_append, List.length_cons, List.length_nil, FF]), List.forall_mem_cons.2 ⟨objLe_of (by simp only [go_sem, reduceIte, Nat.reduceEqDiff, List.length_append, List.length_cons, List.length_nil, FF]), List.forall_mem_cons.2 ⟨objLe_of (by simp only [go_sem, reduceIte, Nat.reduceEqDiff, List.length_append, List.length_cons, List.length_nil, FF]), List.forall_mem_cons.2 ⟨objLe_of (by simp only [go_sem, reduceIte, Nat.reduceEqDiff, List.length_append, List.length_cons, List.length_nil, FF]), List.forall_mem_cons.2 ⟨objLe_of (by simp only [go_sem, reduceIte, Nat.reduceEqDiff, List.length_append, List.length_cons, List.length_nil, FF]), List.forall_mem_cons.2 ⟨objLe_of (by simp only [go_sem, reduceIte, Nat.reduceEqDiff, List.length_append, List.length_cons, List.length_nil, FF]), List.forall_mem_cons.2 ⟨objLe_rown rfl (fun q hq => by rcases q with _ | q <;> first | rfl | omega), List.forall_mem_nil _⟩⟩⟩⟩⟩⟩⟩
      intro j hj
      refine awp_seq ?_
      refine awp_rseq (by decide) fun KK hKK => ?_
      refine m_move ?_
      refine m_field ?_
      refine m_load ?_
      refine m_len ?_
      refine m_bin ?_
      refine hKK _ _ ?_
      clear hKK KK
      refine m_cond (fun hc => ?_) (fun hc => ?_)
      · simp only [decide_eq_true_eq] at hc
        have hj' : j < R.2.length := by omega
        have w9 : IntKind.i64.wrap ((j : Int) + 1) = ((j + 1 : Nat) : Int) := wrap_in (by omega)
        have htk : (i : Int) :: R.2.take (j + 1) = ((i : Int) :: R.2.take j) ++ [R.2.getD j 0] := by rw [take_snoc hj', getD_lt hj']; rfl
        have hln : ((i : Int) :: R.2.take j).length ≤ 100 := by rw [List.length_cons, List.length_take]; omega
        generalize ((i : Int) :: R.2.take j) = Y at htk hln ⊢
        refine awp_skip ?_
        first | rw [thenQ_normal] | rw [blockQ_normal, thenQ_normal]
        refine awp_seq (awp_block ?_)
        clear hc
        refine awp_rlast_draw Try.mixed (by decide) (by kernel_rfl) fun KK hKK => ?_
        refine m_field ?_
        refine m_load ?_
        refine m_field ?_
        refine m_load ?_
        refine m_move ?_
        refine m_index ?_
        refine m_load ?_
        refine m_sliceN ?_
        first | refine m_appOwn ?_ | refine m_appEmp ?_
        refine m_field ?_
        first | refine m_stPtr ?_ | refine m_stRp ?_
        refine hKK _ _ ?_
        clear hKK KK
        first | rw [thenQ_normal] | rw [blockQ_normal, thenQ_normal]
        have FF := And.intro w9 FF
        refine awp_rlast (by decide) fun KK hKK => ?_
        refine m_move ?_
        refine m_bin ?_
        refine m_assign ?_
        refine hKK _ _ ?_
        clear hKK KK
        try rw [thenQ_normal]
        refine ⟨j + 1, ?_, ?_, (by simp only [List.forall_mem_cons, List.forall_mem_nil, go_sem, reduceIte, Nat.reduceEqDiff, FF, htk, List.length_append, List.length_cons, List.length_nil]; all_goals ((repeat' apply And.intro) <;> first | trivial | rfl | exact objLe_refl _ | (intro _ _; exact Subs.refl _))), ?_⟩
        · exact hj'
        · omega
        · rw [htk]
          exact List.forall_mem_cons.2 ⟨objLe_of (by simp only [go_sem, reduceIte, Nat.reduceEqDiff, List.length_append, List.length_cons, List.length_nil, FF]), List.forall_mem_cons.2 ⟨objLe_of (by simp only [go_sem, reduceIte, Nat.reduceEqDiff, List.length_append, List.length_cons, List.length_nil, FF]), List.forall_mem_cons.2 ⟨objLe_of (by simp only [go_sem, reduceIte, Nat.reduceEqDiff, List.length_append, List.length_cons, List.length_nil, FF]), List.forall_mem_cons.2 ⟨objLe_of (by simp only [go_sem, reduceIte, Nat.reduceEqDiff, List.length_append, List.length_cons, List.length_nil, FF]), List.forall_mem_cons.2 ⟨objLe_of (by simp only [go_sem, reduceIte, Nat.reduceEqDiff, List.length_append, List.length_cons, List.length_nil, FF]), List.forall_mem_cons.2 ⟨objLe_of (by simp only [go_sem, reduceIte, Nat.reduceEqDiff, List.length_append, List.length_cons, List.length_nil, FF]), List.forall_mem_cons.2 ⟨snoc_row (fun x => [CV.int x]) 0 Y (R.2.getD j 0), List.forall_mem_nil _⟩⟩⟩⟩⟩⟩⟩
      refine awp_exit ?_
      simp only [thenQ_exit, blockQ_exit, reduceIte, Nat.reduceEqDiff]
      try rw [thenQ_normal]
      have hj' : j = R.2.length := by simp only [decide_eq_false_iff_not] at hc; omega
      rw [hj', List.take_length]
      clear hc
      refine m_frz 68 [(1, .ptr 1 0), (3, .own 15 (k + 1)), (4, .int a), (5, .ptr 5 0), (6, .int i), (9, .ptr 9 0)] [(1, .box 24 ((cellsC c).map .c)), (15, .row 59 2 (k + 1) (fun q => cellsP (dpB c k (W - q)))), (5, .box 59 ((cellsP (rowTo c a (dpB c k) i)).map .c)), (9, .box 59 ((cellsP (R.1 + (e.to - e.frm), (i : Int) :: R.2)).map .c))] ?_
      refine awp_rseq (by decide) fun KK hKK => ?_
      refine m_load ?_
      refine m_load ?_
      refine m_call (fun hG => rbetter_ok (R.1 + (e.to - e.frm), (i : Int) :: R.2) (rowTo c a (dpB c k) i) (by show (_ :: _ : List Int).length ≤ _; rw [List.length_cons]; omega)) ?_
      refine hKK _ _ ?_
      clear hKK KK
      refine m_cond (fun hc => ?_) (fun hc => ?_)
      · rw [if_pos hc] at hst
        refine awp_rlast (by decide) fun KK hKK => ?_
        refine m_load ?_
        first | refine m_stPtr ?_ | refine m_stRp ?_
        refine hKK _ _ ?_
        clear hKK KK
        first | rw [thenQ_normal] | rw [blockQ_normal, thenQ_normal]
        have FF := And.intro w5 FF
        refine awp_rlast (by decide) fun KK hKK => ?_
        refine m_move ?_
        refine m_bin ?_
        refine m_assign ?_
        refine hKK _ _ ?_
        clear hKK KK
        have FF := And.intro hst FF
        try rw [thenQ_normal]
        refine m_next (i + 1) ?_ ?_
        · exact hi'
        · omega
      · rw [if_neg (by rw [hc]; decide)] at hst
        refine awp_skip ?_
        first | rw [thenQ_normal] | rw [blockQ_normal, thenQ_normal]
        have FF := And.intro w5 FF
        refine awp_rlast (by decide) fun KK hKK => ?_
        refine m_move ?_
        refine m_bin ?_
        refine m_assign ?_
        refine hKK _ _ ?_
        clear hKK KK
        have FF := And.intro hst FF
        try rw [thenQ_normal]
        refine m_next (i + 1) ?_ ?_
        · exact hi'
        · omega
    · refine awp_exit ?_
      simp only [thenQ_exit, blockQ_exit, reduceIte, Nat.reduceEqDiff]
      try rw [thenQ_normal]
      have hi' : i = c.edges.length := by simp only [decide_eq_false_iff_not] at hc; omega
      have hro : rowTo c a (dpB c k) i = rowF c a (dpB c k) := by rw [hi']; rfl
      have hdk : dpB c (k + 1) = upd (dpB c k) a (rowF c a (dpB c k)) := by rw [dpB, hWt, ← ha]
      rw [hro]
      clear hc
      refine awp_rlast (by decide) fun KK hKK => ?_
      refine m_move ?_
      refine m_load ?_
      refine m_sliceN ?_
      first | refine m_appOwn ?_ | refine m_appEmp ?_
      refine m_assign ?_
      refine hKK _ _ ?_
      clear hKK KK
      first | rw [thenQ_normal] | rw [blockQ_normal, thenQ_normal]
      have FF := And.intro w4 FF
      refine awp_rlast (by decide) fun KK hKK => ?_
      refine m_move ?_
      refine m_bin ?_
      refine m_assign ?_
      refine hKK _ _ ?_
      clear hKK KK
      try rw [thenQ_normal]
      refine m_nextH (k + 1) ?_ ?_ ?_
      · omega
      · omega
      · rw [hdk]
        exact List.forall_mem_cons.2 ⟨objLe_of (by simp only [go_sem, reduceIte, Nat.reduceEqDiff, List.length_append, List.length_cons, List.length_nil, FF]), List.forall_mem_cons.2 ⟨plan_snoc (fun q => dpB c k (W - q)) (k + 1) (rowF c a (dpB c k)) _ (fun j hj => by rw [upd_ne _ _ _ _ (by omega)]) (by rw [← ha, upd_same]), List.forall_mem_nil _⟩⟩
  · refine awp_exit ?_
    simp only [thenQ_exit, blockQ_exit, reduceIte, Nat.reduceEqDiff]
    try rw [thenQ_normal]
    have hk' : k = W := by simp only [decide_eq_false_iff_not] at hc; omega
    have hcv : coverF c = (dpB c k 0).2 := by unfold coverF; rw [hWt, hk']
    have w0 : W - W = 0 := Nat.sub_self W
    rw [hcv, hk']
    clear hc
    have FF := And.intro w0 FF
    refine awp_rseq (by decide) fun KK hKK => ?_
    refine m_move ?_
    refine m_field ?_
    refine m_load ?_
    refine m_index ?_
    refine m_field ?_
    refine m_load ?_
    refine m_assign ?_
    refine hKK _ _ ?_
    clear hKK KK
    refine awp_ret ⟨[_], ⟨⟨(by simp only [go_sem, reduceIte, Nat.reduceEqDiff, FF]), (by simp only [go_sem, reduceIte, Nat.reduceEqDiff, FF] <;> rfl)⟩, trivial⟩, ?_⟩
    simp only [go_sem, reduceIte, Nat.reduceEqDiff, FF, tupled]
    exact CV.Sub.refl _
end Go.Am
