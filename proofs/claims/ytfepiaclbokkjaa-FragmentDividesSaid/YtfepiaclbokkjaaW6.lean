/- Contracts: the canonical order, the canonical chart. No condition. -/
import Derived.Test.YtfepiaclbokkjaaW5
namespace Go.Am
open Go.Proofs
attribute [local go_sem ↓] ofL_cons ofH_cons upd_apply
attribute [local go_sem] cellsD cellsE cellsC
set_option maxHeartbeats 1000000
set_option linter.unusedSimpArgs false

theorem before_ok (c : Ch) (h : WF c) (i k : Nat) (hi : i < c.edges.length) (hk : k < c.edges.length) : APure Try.prog 29 [.agg (cellsC c), .int i, .int k] (.bool (beforeF c i k)) := by
  have FF : True := trivial
  refine apure_of Try.func29 rfl (by kernel_rfl) (by simp [Try.ntmps29]) ?_
  rw [Try.ntmps29]
  unfold beforeF
  refine awp_rseq (by decide) fun KK hKK => ?_
  refine m_box ?_
  refine m_assign ?_
  refine hKK _ _ ?_
  clear hKK KK
  refine awp_rseq (by decide) fun KK hKK => ?_
  refine m_field ?_
  refine m_load ?_
  refine m_move ?_
  refine m_index ?_
  refine m_load ?_
  refine m_alloc ?_
  first | refine m_stPtr ?_ | refine m_stRp ?_
  refine hKK _ _ ?_
  clear hKK KK
  refine awp_rseq (by decide) fun KK hKK => ?_
  refine m_field ?_
  refine m_load ?_
  refine m_move ?_
  refine m_index ?_
  refine m_load ?_
  refine m_alloc ?_
  first | refine m_stPtr ?_ | refine m_stRp ?_
  refine hKK _ _ ?_
  clear hKK KK
  refine awp_seq ?_
  refine awp_rseq (by decide) fun KK hKK => ?_
  refine m_field ?_
  refine m_load ?_
  refine m_field ?_
  refine m_load ?_
  refine m_bin ?_
  refine m_field ?_
  refine m_load ?_
  refine m_field ?_
  refine m_load ?_
  refine m_bin ?_
  refine m_bin ?_
  refine hKK _ _ ?_
  clear hKK KK
  refine m_cond (fun hc => ?_) (fun hc => ?_)
  · rw [if_pos hc]
    refine awp_rseq (by decide) fun KK hKK => ?_
    refine m_field ?_
    refine m_load ?_
    refine m_field ?_
    refine m_load ?_
    refine m_bin ?_
    refine m_field ?_
    refine m_load ?_
    refine m_field ?_
    refine m_load ?_
    refine m_bin ?_
    refine m_bin ?_
    refine m_assign ?_
    refine hKK _ _ ?_
    clear hKK KK
    refine awp_ret ⟨[_], ⟨⟨(by simp only [go_sem, reduceIte, Nat.reduceEqDiff, FF]), (by simp only [go_sem, reduceIte, Nat.reduceEqDiff, FF] <;> rfl)⟩, trivial⟩, ?_⟩
    simp only [go_sem, reduceIte, Nat.reduceEqDiff, FF, tupled]
    exact CV.Sub.refl _
  refine awp_skip ?_
  first | rw [thenQ_normal] | rw [blockQ_normal, thenQ_normal]
  rw [if_neg (by rw [hc]; decide)]
  clear hc
  refine awp_seq ?_
  refine awp_rseq (by decide) fun KK hKK => ?_
  refine m_field ?_
  refine m_load ?_
  refine m_field ?_
  refine m_load ?_
  refine m_bin ?_
  refine hKK _ _ ?_
  clear hKK KK
  refine m_cond (fun hc => ?_) (fun hc => ?_)
  · rw [if_pos hc]
    refine awp_rseq (by decide) fun KK hKK => ?_
    refine m_field ?_
    refine m_load ?_
    refine m_field ?_
    refine m_load ?_
    refine m_bin ?_
    refine m_assign ?_
    refine hKK _ _ ?_
    clear hKK KK
    refine awp_ret ⟨[_], ⟨⟨(by simp only [go_sem, reduceIte, Nat.reduceEqDiff, FF]), (by simp only [go_sem, reduceIte, Nat.reduceEqDiff, FF] <;> rfl)⟩, trivial⟩, ?_⟩
    simp only [go_sem, reduceIte, Nat.reduceEqDiff, FF, tupled]
    exact CV.Sub.refl _
  refine awp_skip ?_
  first | rw [thenQ_normal] | rw [blockQ_normal, thenQ_normal]
  rw [if_neg (by rw [hc]; decide)]
  clear hc
  refine awp_seq ?_
  refine awp_rseq (by decide) fun KK hKK => ?_
  refine m_field ?_
  refine m_load ?_
  refine m_field ?_
  refine m_load ?_
  refine m_bin ?_
  refine hKK _ _ ?_
  clear hKK KK
  refine m_cond (fun hc => ?_) (fun hc => ?_)
  · rw [if_pos hc]
    refine awp_rseq (by decide) fun KK hKK => ?_
    refine m_field ?_
    refine m_load ?_
    refine m_field ?_
    refine m_load ?_
    refine m_bin ?_
    refine m_assign ?_
    refine hKK _ _ ?_
    clear hKK KK
    refine awp_ret ⟨[_], ⟨⟨(by simp only [go_sem, reduceIte, Nat.reduceEqDiff, FF]), (by simp only [go_sem, reduceIte, Nat.reduceEqDiff, FF] <;> rfl)⟩, trivial⟩, ?_⟩
    simp only [go_sem, reduceIte, Nat.reduceEqDiff, FF, tupled]
    exact CV.Sub.refl _
  refine awp_skip ?_
  first | rw [thenQ_normal] | rw [blockQ_normal, thenQ_normal]
  rw [if_neg (by rw [hc]; decide)]
  clear hc
  refine awp_rseq_draw Try.mixed (by decide) (by kernel_rfl) fun KK hKK => ?_
  refine m_load ?_
  refine m_move ?_
  refine m_call (fun hG => deriv_ok c h.founded i) ?_
  refine m_load ?_
  refine m_move ?_
  refine m_call (fun hG => deriv_ok c h.founded k) ?_
  refine m_call (fun hG => compare_ok _ (derN c i) (derN c k) (Nat.le_refl _) (okD_derN h i hi)) ?_
  refine m_bin ?_
  refine m_assign ?_
  refine hKK _ _ ?_
  clear hKK KK
  refine awp_ret ⟨[_], ⟨⟨(by simp only [go_sem, reduceIte, Nat.reduceEqDiff, FF]), (by simp only [go_sem, reduceIte, Nat.reduceEqDiff, FF] <;> rfl)⟩, trivial⟩, ?_⟩
  simp only [go_sem, reduceIte, Nat.reduceEqDiff, FF, tupled]
  exact CV.Sub.refl _

theorem canon_ok' (c : Ch) (h : WF c) : APure Try.prog 22 [.agg (cellsC c)] (.agg (cellsC (canonF c))) := by
  have hL := h.founded.1
  have FF : True := trivial
  refine apure_of Try.func22 rfl (by kernel_rfl) (by simp [Try.ntmps22]) ?_
  rw [Try.ntmps22]
  refine awp_rseq (by decide) fun KK hKK => ?_
  refine m_box ?_
  refine m_alloc ?_
  refine hKK _ _ ?_
  clear hKK KK
  refine awp_rseq (by decide) fun KK hKK => ?_
  refine m_slice0 ?_
  refine m_assign ?_
  refine hKK _ _ ?_
  clear hKK KK
  refine awp_seq ?_
  refine awp_rseq (by decide) fun KK hKK => ?_
  refine m_assign ?_
  refine hKK _ _ ?_
  clear hKK KK
  refine awp_block ?_
  refine AWp.weak (weak_adopt 3 100 3 1 (fun q => [.int (((nums c).take 0).getD q 0)]) (by simp only [go_sem, reduceIte, Nat.reduceEqDiff, FF]) (by simp only [go_sem, reduceIte, Nat.reduceEqDiff, FF])) ?_
  refine m_for (ι := Nat) (fun i => [(1, .ptr 1 0), (2, .ptr 2 0), (3, .own 100 ((nums c).take i).length), (4, .int i)]) (fun i => [(1, .box 24 ((cellsC c).map .c)), (2, .box 24 [.int 0, .emp]), (100, .row 3 1 ((nums c).take i).length (fun q => [.int (((nums c).take i).getD q 0)]))]) (fun i => c.edges.length - i) (fun i => i ≤ c.edges.length) (0) ?_ ?_
  · exact Nat.zero_le _
  intro i hi
  refine awp_seq ?_
  refine awp_rseq (by decide) fun KK hKK => ?_
  refine m_move ?_
  refine m_field ?_
  refine m_load ?_
  refine m_len ?_
  refine m_bin ?_
  refine hKK _ _ ?_
  clear hKK KK
  refine m_cond (fun hc => ?_) (fun hc => ?_)
  · simp only [decide_eq_true_eq] at hc
    have hi' : i < c.edges.length := by omega
    have w3 : IntKind.i64.wrap ((i : Int) + 1) = ((i + 1 : Nat) : Int) := wrap_in (by omega)
    have hlen : ((nums c).take i).length = i := by rw [List.length_take, nums_length]; omega
    refine awp_skip ?_
    first | rw [thenQ_normal] | rw [blockQ_normal, thenQ_normal]
    refine awp_seq (awp_block ?_)
    clear hc
    refine awp_rseq (by decide) fun KK hKK => ?_
    refine m_assign ?_
    refine hKK _ _ ?_
    clear hKK KK
    refine awp_seq ?_
    refine awp_rseq (by decide) fun KK hKK => ?_
    refine m_assign ?_
    refine hKK _ _ ?_
    clear hKK KK
    refine awp_block ?_
    refine m_for (ι := Nat) (fun k => [(1, .ptr 1 0), (2, .ptr 2 0), (3, .own 100 ((nums c).take i).length), (4, .int i), (5, .int (cnt (fun k => beforeF c k i) k : Nat)), (6, .int k)]) (fun k => [(1, .box 24 ((cellsC c).map .c)), (2, .box 24 [.int 0, .emp]), (100, .row 3 1 ((nums c).take i).length (fun q => [.int (((nums c).take i).getD q 0)]))]) (fun k => c.edges.length - k) (fun k => k ≤ c.edges.length) (0) ?_ ?_
    · exact Nat.zero_le _
    intro k hk
    refine awp_seq ?_
    refine awp_rseq (by decide) fun KK hKK => ?_
    refine m_move ?_
    refine m_field ?_
    refine m_load ?_
    refine m_len ?_
    refine m_bin ?_
    refine hKK _ _ ?_
    clear hKK KK
    refine m_cond (fun hc => ?_) (fun hc => ?_)
    · simp only [decide_eq_true_eq] at hc
      have hk' : k < c.edges.length := by omega
      have w4 : IntKind.i64.wrap ((k : Int) + 1) = ((k + 1 : Nat) : Int) := wrap_in (by omega)
      have hcl := cnt_le (fun k => beforeF c k i) k
      have w5 : IntKind.i64.wrap (((cnt (fun k => beforeF c k i) k : Nat) : Int) + 1) = ((cnt (fun k => beforeF c k i) k + 1 : Nat) : Int) := wrap_in (by omega)
      refine awp_skip ?_
      first | rw [thenQ_normal] | rw [blockQ_normal, thenQ_normal]
      refine awp_seq (awp_block ?_)
      clear hc
      refine awp_rseq (by decide) fun KK hKK => ?_
      refine m_load ?_
      refine m_move ?_
      refine m_move ?_
      refine m_call (fun hG => before_ok c h k i hk' hi') ?_
      refine hKK _ _ ?_
      clear hKK KK
      refine m_cond (fun hc => ?_) (fun hc => ?_)
      · have hcn : cnt (fun k => beforeF c k i) (k + 1) = cnt (fun k => beforeF c k i) k + 1 := by rw [cnt, if_pos hc]
        have FF := And.intro w5 FF
        refine awp_rlast (by decide) fun KK hKK => ?_
        refine m_move ?_
        refine m_bin ?_
        refine m_assign ?_
        refine hKK _ _ ?_
        clear hKK KK
        first | rw [thenQ_normal] | rw [blockQ_normal, thenQ_normal]
        have FF := And.intro w4 FF
        refine awp_rlast (by decide) fun KK hKK => ?_
        refine m_move ?_
        refine m_bin ?_
        refine m_assign ?_
        refine hKK _ _ ?_
        clear hKK KK
        have FF := And.intro hcn FF
        try rw [thenQ_normal]
        refine m_next (k + 1) ?_ ?_
        · exact hk'
        · omega
      · have hcn : cnt (fun k => beforeF c k i) (k + 1) = cnt (fun k => beforeF c k i) k := by rw [cnt, if_neg (by rw [hc]; decide)]
        refine awp_skip ?_
        first | rw [thenQ_normal] | rw [blockQ_normal, thenQ_normal]
        have FF := And.intro w4 FF
        refine awp_rlast (by decide) fun KK hKK => ?_
        refine m_move ?_
        refine m_bin ?_
        refine m_assign ?_
        refine hKK _ _ ?_
        clear hKK KK
        have FF := And.intro hcn FF
        try rw [thenQ_normal]
        refine m_next (k + 1) ?_ ?_
        · exact hk'
        · omega
    · refine awp_exit ?_
      simp only [thenQ_exit, blockQ_exit, reduceIte, Nat.reduceEqDiff]
      try rw [thenQ_normal]
      have hk' : k = c.edges.length := by simp only [decide_eq_false_iff_not] at hc; omega
      have hnum : ((cnt (fun k => beforeF c k i) k : Nat) : Int) = (nums c).getD i 0 := by rw [nums_get c hi', hk']; rfl
      clear hc
      refine awp_rlast (by decide) fun KK hKK => ?_
      refine m_move ?_
      refine m_move ?_
      refine m_sliceN ?_
      first | refine m_appOwn ?_ | refine m_appEmp ?_
      refine m_assign ?_
      refine hKK _ _ ?_
      clear hKK KK
      first | rw [thenQ_normal] | rw [blockQ_normal, thenQ_normal]
      have FF := And.intro w3 FF
      refine awp_rlast (by decide) fun KK hKK => ?_
      refine m_move ?_
      refine m_bin ?_
      refine m_assign ?_
      refine hKK _ _ ?_
      clear hKK KK
      have hKi : (nums c).take (i + 1) = (nums c).take i ++ [((cnt (fun k => beforeF c k i) k : Nat) : Int)] := by rw [take_snoc (by rw [nums_length]; exact hi'), hnum, getD_lt (by rw [nums_length]; exact hi')]
      try rw [thenQ_normal]
      refine ⟨i + 1, ?_, ?_, (by simp only [List.forall_mem_cons, List.forall_mem_nil, go_sem, reduceIte, Nat.reduceEqDiff, FF, hKi, List.length_append, List.length_cons, List.length_nil]; all_goals ((repeat' apply And.intro) <;> first | trivial | rfl | exact objLe_refl _ | (intro _ _; exact Subs.refl _))), ?_⟩
      · exact hi'
      · omega
      · rw [hKi]
        exact List.forall_mem_cons.2 ⟨objLe_refl _, List.forall_mem_cons.2 ⟨objLe_refl _, List.forall_mem_cons.2 ⟨snoc_row (fun x => [CV.int x]) 0 ((nums c).take i) ((cnt (fun k => beforeF c k i) k : Nat) : Int), List.forall_mem_nil _⟩⟩⟩
  · refine awp_exit ?_
    simp only [thenQ_exit, blockQ_exit, reduceIte, Nat.reduceEqDiff]
    try rw [thenQ_normal]
    have hi' : i = c.edges.length := by simp only [decide_eq_false_iff_not] at hc; omega
    have hKt : (nums c).take i = nums c := by rw [hi', ← nums_length, List.take_length]
    rw [hKt]
    clear hc
    refine m_frz 100 [(1, .ptr 1 0), (2, .ptr 2 0), (3, .c (encInts (nums c)))] [(1, .box 24 ((cellsC c).map .c)), (2, .box 24 [.int 0, .emp])] ?_
    have hnl := nums_length c
    refine awp_rseq (by decide) fun KK hKK => ?_
    refine m_field ?_
    refine m_load ?_
    refine m_build ?_
    refine m_alloc ?_
    first | refine m_stPtr ?_ | refine m_stRp ?_
    refine hKK _ _ ?_
    clear hKK KK
    refine awp_seq ?_
    refine awp_rseq (by decide) fun KK hKK => ?_
    refine m_assign ?_
    refine hKK _ _ ?_
    clear hKK KK
    refine awp_block ?_
    refine AWp.weak (weak_adoptB 7 1 101 _ _ 43 12 (fun q => cellsE ((accN c 0).getD q default)) (by simp only [go_sem, reduceIte, Nat.reduceEqDiff, FF] <;> rfl) (by rfl) (by simp only [go_sem, reduceIte, Nat.reduceEqDiff, FF])) ?_
    refine m_for (ι := Nat) (fun n => [(1, .ptr 1 0), (2, .ptr 2 0), (3, .c (encInts (nums c))), (7, .ptr 7 0), (8, .int n)]) (fun n => [(1, .box 24 ((cellsC c).map .c)), (2, .box 24 [.int 0, .emp]), (7, .box 24 [.int c.words, .own 101 ((accN c n)).length]), (101, .row 43 12 ((accN c n)).length (fun q => cellsE (((accN c n)).getD q default)))]) (fun n => c.edges.length - n) (fun n => n ≤ c.edges.length) (0) ?_ ?_
    · exact Nat.zero_le _
    intro n hn
    refine awp_seq ?_
    refine awp_rseq (by decide) fun KK hKK => ?_
    refine m_move ?_
    refine m_field ?_
    refine m_load ?_
    refine m_len ?_
    refine m_bin ?_
    refine hKK _ _ ?_
    clear hKK KK
    refine m_cond (fun hc => ?_) (fun hc => ?_)
    · simp only [decide_eq_true_eq] at hc
      have hn' : n < c.edges.length := by omega
      have w3 : IntKind.i64.wrap ((n : Int) + 1) = ((n + 1 : Nat) : Int) := wrap_in (by omega)
      have hA : (accN c n).length ≤ n * c.edges.length := (canonN_all c (fun _ => True) (fun _ _ => trivial) n hn).2
      have hA2 : n * c.edges.length ≤ 1000 * 1000 := Nat.mul_le_mul (by omega) hL
      refine awp_skip ?_
      first | rw [thenQ_normal] | rw [blockQ_normal, thenQ_normal]
      refine awp_seq (awp_block ?_)
      clear hc
      refine awp_rseq (by decide) fun KK hKK => ?_
      refine m_assign ?_
      refine hKK _ _ ?_
      clear hKK KK
      refine awp_block ?_
      refine m_for (ι := Nat) (fun j => [(1, .ptr 1 0), (2, .ptr 2 0), (3, .c (encInts (nums c))), (7, .ptr 7 0), (8, .int n), (9, .int j)]) (fun j => [(1, .box 24 ((cellsC c).map .c)), (2, .box 24 [.int 0, .emp]), (7, .box 24 [.int c.words, .own 101 ((accJ c n j)).length]), (101, .row 43 12 ((accJ c n j)).length (fun q => cellsE (((accJ c n j)).getD q default)))]) (fun j => c.edges.length - j) (fun j => j ≤ c.edges.length) (0) ?_ ?_
      · exact Nat.zero_le _
      intro j hj
      refine awp_seq ?_
      refine awp_rseq (by decide) fun KK hKK => ?_
      refine m_move ?_
      refine m_field ?_
      refine m_load ?_
      refine m_len ?_
      refine m_bin ?_
      refine hKK _ _ ?_
      clear hKK KK
      refine m_cond (fun hc => ?_) (fun hc => ?_)
      · simp only [decide_eq_true_eq] at hc
        have hj' : j < c.edges.length := by omega
        have w4 : IntKind.i64.wrap ((j : Int) + 1) = ((j + 1 : Nat) : Int) := wrap_in (by omega)
        have hB : (accJ c n j).length ≤ (accN c n).length + j := (canonI_all c n (fun _ => True) (fun _ _ => trivial) j (accN c n) hj fun _ _ => trivial).2
        refine awp_skip ?_
        first | rw [thenQ_normal] | rw [blockQ_normal, thenQ_normal]
        refine awp_seq (awp_block ?_)
        clear hc
        refine awp_seq ?_
        refine awp_rseq (by decide) fun KK hKK => ?_
        refine m_move ?_
        refine m_move ?_
        refine m_index ?_
        refine m_load ?_
        refine m_move ?_
        refine m_bin ?_
        refine hKK _ _ ?_
        clear hKK KK
        refine m_cond (fun hc => ?_) (fun hc => ?_)
        · have hcn : accJ c n (j + 1) = accJ c n j := by rw [accJ_succ, canonI, if_pos hc]
          refine awp_exit ?_
          simp only [thenQ_exit, blockQ_exit, reduceIte, Nat.reduceEqDiff]
          try rw [thenQ_normal]
          have FF := And.intro w4 FF
          refine awp_rlast (by decide) fun KK hKK => ?_
          refine m_move ?_
          refine m_bin ?_
          refine m_assign ?_
          refine hKK _ _ ?_
          clear hKK KK
          have FF := And.intro hcn FF
          try rw [thenQ_normal]
          refine m_next (j + 1) ?_ ?_
          · exact hj'
          · omega
        have hcn : accJ c n (j + 1) = accJ c n j ++ [renum c (c.edges.getD j default)] := by rw [accJ_succ, canonI, if_neg (by rw [hc]; decide)]
        refine awp_skip ?_
        first | rw [thenQ_normal] | rw [blockQ_normal, thenQ_normal]
        clear hc
        have hkj := h.founded.2 j hj'
        obtain ⟨e, he⟩ : ∃ e, e = c.edges.getD j default := ⟨_, rfl⟩
        rw [← he] at hkj
        rw [← he] at hcn
        have FF := And.intro he.symm FF
        refine awp_rseq (by decide) fun KK hKK => ?_
        refine m_field ?_
        refine m_load ?_
        refine m_move ?_
        refine m_index ?_
        refine m_load ?_
        refine m_alloc ?_
        first | refine m_stPtr ?_ | refine m_stRp ?_
        refine hKK _ _ ?_
        clear hKK KK
        refine awp_rseq (by decide) fun KK hKK => ?_
        refine m_slice0 ?_
        refine m_assign ?_
        refine hKK _ _ ?_
        clear hKK KK
        refine awp_seq ?_
        refine awp_rseq (by decide) fun KK hKK => ?_
        refine m_assign ?_
        refine hKK _ _ ?_
        clear hKK KK
        refine awp_block ?_
        refine AWp.weak (weak_adopt 11 102 3 1 (fun q => [.int (((renum c e).kids.take 0).getD q 0)]) (by simp only [go_sem, reduceIte, Nat.reduceEqDiff, FF]) (by simp only [go_sem, reduceIte, Nat.reduceEqDiff, FF])) ?_
        refine m_for (ι := Nat) (fun k => [(1, .ptr 1 0), (2, .ptr 2 0), (3, .c (encInts (nums c))), (7, .ptr 7 0), (8, .int n), (9, .int j), (10, .ptr 10 0), (11, .own 102 ((renum c e).kids.take k).length), (12, .int k)]) (fun k => [(1, .box 24 ((cellsC c).map .c)), (2, .box 24 [.int 0, .emp]), (7, .box 24 [.int c.words, .own 101 ((accJ c n j)).length]), (101, .row 43 12 ((accJ c n j)).length (fun q => cellsE (((accJ c n j)).getD q default))), (10, .box 43 ((cellsE e).map .c)), (102, .row 3 1 ((renum c e).kids.take k).length (fun q => [.int (((renum c e).kids.take k).getD q 0)]))]) (fun k => e.kids.length - k) (fun k => k ≤ e.kids.length) (0) ?_ ?_
        · exact Nat.zero_le _
        intro k hk
        have hrl : (renum c e).kids.length = e.kids.length := by unfold renum; rw [List.length_map]
        refine awp_seq ?_
        refine awp_rseq (by decide) fun KK hKK => ?_
        refine m_move ?_
        refine m_field ?_
        refine m_load ?_
        refine m_len ?_
        refine m_bin ?_
        refine hKK _ _ ?_
        clear hKK KK
        refine m_cond (fun hc => ?_) (fun hc => ?_)
        · simp only [decide_eq_true_eq] at hc
          have hk' : k < e.kids.length := by omega
          have hkl := hkj.1
          have w5 : IntKind.i64.wrap ((k : Int) + 1) = ((k + 1 : Nat) : Int) := wrap_in (by omega)
          have hlen : ((renum c e).kids.take k).length = k := by rw [List.length_take]; omega
          have hkk := hkj.2 (e.kids.getD k 0) (by rw [getD_lt hk']; exact List.getElem_mem hk')
          refine awp_skip ?_
          first | rw [thenQ_normal] | rw [blockQ_normal, thenQ_normal]
          refine awp_seq (awp_block ?_)
          clear hc
          refine awp_rlast (by decide) fun KK hKK => ?_
          refine m_move ?_
          refine m_move ?_
          refine m_field ?_
          refine m_load ?_
          refine m_move ?_
          refine m_index ?_
          refine m_load ?_
          refine m_index ?_
          refine m_load ?_
          refine m_sliceN ?_
          first | refine m_appOwn ?_ | refine m_appEmp ?_
          refine m_assign ?_
          refine hKK _ _ ?_
          clear hKK KK
          first | rw [thenQ_normal] | rw [blockQ_normal, thenQ_normal]
          have FF := And.intro w5 FF
          refine awp_rlast (by decide) fun KK hKK => ?_
          refine m_move ?_
          refine m_bin ?_
          refine m_assign ?_
          refine hKK _ _ ?_
          clear hKK KK
          have hKi : (renum c e).kids.take (k + 1) = (renum c e).kids.take k ++ [(nums c).getD (e.kids.getD k 0).toNat 0] := by
            rw [take_snoc (by rw [hrl]; exact hk')]
            congr 2
            simp only [renum, List.getElem_map, getD_lt hk']
          try rw [thenQ_normal]
          refine ⟨k + 1, ?_, ?_, (by simp only [List.forall_mem_cons, List.forall_mem_nil, go_sem, reduceIte, Nat.reduceEqDiff, FF, hKi, List.length_append, List.length_cons, List.length_nil]; all_goals ((repeat' apply And.intro) <;> first | trivial | rfl | exact objLe_refl _ | (intro _ _; exact Subs.refl _))), ?_⟩
          · exact hk'
          · omega
          · rw [hKi]
            exact List.forall_mem_cons.2 ⟨objLe_refl _, List.forall_mem_cons.2 ⟨objLe_refl _, List.forall_mem_cons.2 ⟨objLe_refl _, List.forall_mem_cons.2 ⟨objLe_refl _, List.forall_mem_cons.2 ⟨objLe_refl _, List.forall_mem_cons.2 ⟨snoc_row (fun x => [CV.int x]) 0 ((renum c e).kids.take k) ((nums c).getD (e.kids.getD k 0).toNat 0), List.forall_mem_nil _⟩⟩⟩⟩⟩⟩
        · refine awp_exit ?_
          simp only [thenQ_exit, blockQ_exit, reduceIte, Nat.reduceEqDiff]
          try rw [thenQ_normal]
          have hk' : k = e.kids.length := by simp only [decide_eq_false_iff_not] at hc; omega
          have hKt : (renum c e).kids.take k = (renum c e).kids := by rw [hk', ← hrl, List.take_length]
          rw [hKt]
          clear hc
          refine m_frz 102 [(1, .ptr 1 0), (2, .ptr 2 0), (3, .c (encInts (nums c))), (7, .ptr 7 0), (8, .int n), (9, .int j), (10, .ptr 10 0), (11, .c (encInts (renum c e).kids))] [(1, .box 24 ((cellsC c).map .c)), (2, .box 24 [.int 0, .emp]), (7, .box 24 [.int c.words, .own 101 ((accJ c n j)).length]), (101, .row 43 12 ((accJ c n j)).length (fun q => cellsE (((accJ c n j)).getD q default))), (10, .box 43 ((cellsE e).map .c))] ?_
          refine awp_rseq (by decide) fun KK hKK => ?_
          refine m_move ?_
          refine m_field ?_
          first | refine m_stPtr ?_ | refine m_stRp ?_
          refine hKK _ _ ?_
          clear hKK KK
          refine awp_rlast (by decide) fun KK hKK => ?_
          refine m_field ?_
          refine m_load ?_
          refine m_load ?_
          refine m_sliceN ?_
          first | refine m_appOwn ?_ | refine m_appEmp ?_
          refine m_field ?_
          first | refine m_stPtr ?_ | refine m_stRp ?_
          refine hKK _ _ ?_
          clear hKK KK
          first | rw [thenQ_normal] | rw [blockQ_normal, thenQ_normal]
          have FF := And.intro w4 FF
          refine awp_rlast (by decide) fun KK hKK => ?_
          refine m_move ?_
          refine m_bin ?_
          refine m_assign ?_
          refine hKK _ _ ?_
          clear hKK KK
          try rw [thenQ_normal]
          refine ⟨j + 1, ?_, ?_, (by simp only [List.forall_mem_cons, List.forall_mem_nil, go_sem, reduceIte, Nat.reduceEqDiff, FF, hcn, List.length_append, List.length_cons, List.length_nil]; all_goals ((repeat' apply And.intro) <;> first | trivial | rfl | exact objLe_refl _ | (intro _ _; exact Subs.refl _))), ?_⟩
          · exact hj'
          · omega
          · rw [hcn]
            exact List.forall_mem_cons.2 ⟨objLe_refl _, List.forall_mem_cons.2 ⟨objLe_refl _, List.forall_mem_cons.2 ⟨objLe_of (by simp only [go_sem, reduceIte, Nat.reduceEqDiff, List.length_append, List.length_cons, List.length_nil, FF]), List.forall_mem_cons.2 ⟨snoc_row cellsE default (accJ c n j) (renum c e), List.forall_mem_nil _⟩⟩⟩⟩
      · refine awp_exit ?_
        simp only [thenQ_exit, blockQ_exit, reduceIte, Nat.reduceEqDiff]
        try rw [thenQ_normal]
        have hj' : j = c.edges.length := by simp only [decide_eq_false_iff_not] at hc; omega
        have hcn : accN c (n + 1) = accJ c n j := by rw [accN_succ, hj']
        clear hc
        first | rw [thenQ_normal] | rw [blockQ_normal, thenQ_normal]
        have FF := And.intro w3 FF
        refine awp_rlast (by decide) fun KK hKK => ?_
        refine m_move ?_
        refine m_bin ?_
        refine m_assign ?_
        refine hKK _ _ ?_
        clear hKK KK
        have FF := And.intro hcn FF
        try rw [thenQ_normal]
        refine m_next (n + 1) ?_ ?_
        · exact hn'
        · omega
    · refine awp_exit ?_
      simp only [thenQ_exit, blockQ_exit, reduceIte, Nat.reduceEqDiff]
      try rw [thenQ_normal]
      have hn' : n = c.edges.length := by simp only [decide_eq_false_iff_not] at hc; omega
      have hcn : canonF c = ⟨c.words, accN c n⟩ := by unfold canonF accN; rw [hn']
      rw [hcn]
      clear hc
      refine m_frz 101 [(2, .ptr 2 0), (7, .ptr 7 0)] [(2, .box 24 [.int 0, .emp]), (7, .box 24 [.int c.words, .c (encEs (accN c n))])] ?_
      refine awp_rseq (by decide) fun KK hKK => ?_
      refine m_load ?_
      first | refine m_stPtr ?_ | refine m_stRp ?_
      refine hKK _ _ ?_
      clear hKK KK
      refine awp_ret ⟨[_], ⟨k_load (by simp only [go_sem, reduceIte, Nat.reduceEqDiff, FF] <;> rfl) (by simp only [go_sem] <;> rfl) (by rfl) (by intro hG; simp only [go_sem]) (by exact lm_ptr (by simp only [go_sem, reduceIte, Nat.reduceEqDiff, FF] <;> rfl) (by simp only [go_sem, reduceIte, Nat.reduceEqDiff, FF, Nat.reduceAdd, Nat.reduceSub, Nat.reduceMul, Nat.reduceLeDiff] <;> rfl) (fun _ => Nat.le_of_ble_eq_true rfl)), trivial⟩, ?_⟩
      simp only [go_sem, reduceIte, Nat.reduceEqDiff, FF, tupled]
      exact CV.Sub.refl _
end Go.Am
