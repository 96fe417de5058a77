/- Contracts: the maximal edges, twice. No condition. -/
import Derived.Test.YtfepiaclbokkjaaW7
namespace Go.Am
open Go.Proofs
attribute [local go_sem ↓] ofL_cons ofH_cons upd_apply
attribute [local go_sem] cellsD cellsE cellsC
set_option maxHeartbeats 1000000
set_option linter.unusedSimpArgs false

def anyTo (p : Nat → Bool) : Nat → Bool
  | 0 => false
  | n + 1 => anyTo p n || p n
def longer (c : Ch) (i : Nat) : Nat → Bool := fun k => extF (c.edges.getD k default) (c.edges.getD i default)
def maxTo (c : Ch) : Nat → List Int
  | 0 => []
  | i + 1 => if anyTo (longer c i) c.edges.length then maxTo c i else maxTo c i ++ [(i : Int)]
def maxF (c : Ch) : List Int := maxTo c c.edges.length
theorem maxTo_len (c : Ch) : ∀ i, (maxTo c i).length ≤ i
  | 0 => Nat.le_refl _
  | i + 1 => by
    have := maxTo_len c i
    rw [maxTo]
    split
    · omega
    · rw [List.length_append, List.length_cons, List.length_nil]; omega

theorem maximal_ok (c : Ch) (hL : c.edges.length ≤ 1000000) : APure Try.prog 12 [.agg (cellsC c)] (encInts (maxF c)) := by
  have FF : True := trivial
  refine apure_of Try.func12 rfl (by kernel_rfl) (by simp [Try.ntmps12]) ?_
  rw [Try.ntmps12]
  refine awp_rseq (by decide) fun KK hKK => ?_
  refine m_box ?_
  refine m_assign ?_
  refine hKK _ _ ?_
  clear hKK KK
  refine awp_rseq (by decide) fun KK hKK => ?_
  refine m_assign ?_
  refine hKK _ _ ?_
  clear hKK KK
  refine awp_seq ?_
  refine awp_rseq (by decide) fun KK hKK => ?_
  refine m_field ?_
  refine m_load ?_
  refine m_len ?_
  refine m_move ?_
  refine hKK _ _ ?_
  clear hKK KK
  refine awp_block ?_
  refine AWp.weak (weak_adopt 3 100 3 1 (fun q => [.int ((maxTo c 0).getD q 0)]) (by simp only [go_sem, reduceIte, Nat.reduceEqDiff, FF]) (by simp only [go_sem, reduceIte, Nat.reduceEqDiff, FF])) ?_
  refine m_for (ι := Nat) (fun i => [(1, .ptr 1 0), (3, .own 100 (maxTo c i).length), (10, .c (encEs c.edges)), (11, .int c.edges.length), (12, .int i)]) (fun i => [(1, .box 24 ((cellsC c).map .c)), (100, .row 3 1 (maxTo c i).length (fun q => [.int ((maxTo c i).getD q 0)]))]) (fun i => c.edges.length - i) (fun i => i ≤ c.edges.length) (0) ?_ ?_
  · exact Nat.zero_le _
  intro i hi
  refine awp_rseq (by decide) fun KK hKK => ?_
  refine m_bin ?_
  refine hKK _ _ ?_
  clear hKK KK
  refine awp_seq ?_
  refine m_cond (fun hc => ?_) (fun hc => ?_)
  · simp only [decide_eq_true_eq] at hc
    have hi' : i < c.edges.length := by omega
    have w3 : IntKind.i64.wrap ((i : Int) + 1) = ((i + 1 : Nat) : Int) := wrap_in (by omega)
    have hml := maxTo_len c i
    refine awp_skip ?_
    first | rw [thenQ_normal] | rw [blockQ_normal, thenQ_normal]
    refine awp_seq (awp_block ?_)
    clear hc
    refine awp_rseq (by decide) fun KK hKK => ?_
    refine m_move ?_
    refine m_index ?_
    refine m_load ?_
    refine m_alloc ?_
    refine m_assign ?_
    first | refine m_stPtr ?_ | refine m_stRp ?_
    refine hKK _ _ ?_
    clear hKK KK
    refine awp_rseq (by decide) fun KK hKK => ?_
    refine m_assign ?_
    refine hKK _ _ ?_
    clear hKK KK
    refine awp_seq ?_
    refine awp_rseq (by decide) fun KK hKK => ?_
    refine m_field ?_
    refine m_load ?_
    refine m_len ?_
    refine m_move ?_
    refine hKK _ _ ?_
    clear hKK KK
    refine awp_block ?_
    refine m_for (ι := Nat) (fun k => [(1, .ptr 1 0), (3, .own 100 (maxTo c i).length), (4, .int i), (5, .ptr 5 0), (6, .bool (anyTo (longer c i) k)), (10, .c (encEs c.edges)), (11, .int c.edges.length), (12, .int i), (18, .c (encEs c.edges)), (19, .int c.edges.length), (20, .int k)]) (fun k => [(1, .box 24 ((cellsC c).map .c)), (5, .box 43 ((cellsE (c.edges.getD i default)).map .c)), (100, .row 3 1 (maxTo c i).length (fun q => [.int ((maxTo c i).getD q 0)]))]) (fun k => c.edges.length - k) (fun k => k ≤ c.edges.length) (0) ?_ ?_
    · exact Nat.zero_le _
    intro k hk
    refine awp_rseq (by decide) fun KK hKK => ?_
    refine m_bin ?_
    refine hKK _ _ ?_
    clear hKK KK
    refine awp_seq ?_
    refine m_cond (fun hc => ?_) (fun hc => ?_)
    · simp only [decide_eq_true_eq] at hc
      have hk' : k < c.edges.length := by omega
      have w4 : IntKind.i64.wrap ((k : Int) + 1) = ((k + 1 : Nat) : Int) := wrap_in (by omega)
      refine awp_skip ?_
      first | rw [thenQ_normal] | rw [blockQ_normal, thenQ_normal]
      refine awp_seq (awp_block ?_)
      clear hc
      refine awp_rseq (by decide) fun KK hKK => ?_
      refine m_index ?_
      refine m_load ?_
      refine m_alloc ?_
      first | refine m_stPtr ?_ | refine m_stRp ?_
      refine hKK _ _ ?_
      clear hKK KK
      refine awp_rlast (by decide) fun KK hKK => ?_
      refine m_move ?_
      refine m_move ?_
      refine g_load ?_
      refine g_load ?_
      refine g_call (fun hG => extends_ok (c.edges.getD k default) (c.edges.getD i default)) ?_
      refine m_pick ?_
      refine m_assign ?_
      refine hKK _ _ ?_
      clear hKK KK
      first | rw [thenQ_normal] | rw [blockQ_normal, thenQ_normal]
      have FF := And.intro w4 FF
      refine awp_rlast (by decide) fun KK hKK => ?_
      refine m_bin ?_
      refine m_move ?_
      refine hKK _ _ ?_
      clear hKK KK
      try rw [thenQ_normal]
      refine ⟨k + 1, ?_, ?_, (by simp only [List.forall_mem_cons, List.forall_mem_nil, go_sem, reduceIte, Nat.reduceEqDiff, FF, anyTo, longer]; all_goals ((repeat' apply And.intro) <;> first | trivial | rfl | exact objLe_refl _ | (intro _ _; exact Subs.refl _))), (by simp only [List.forall_mem_cons, List.forall_mem_nil, go_sem, reduceIte, Nat.reduceEqDiff, FF, anyTo, longer]; all_goals ((repeat' apply And.intro) <;> first | trivial | rfl | exact objLe_refl _ | (intro _ _; exact Subs.refl _)))⟩
      · exact hk'
      · omega
    · refine awp_exit ?_
      simp only [thenQ_exit, blockQ_exit, reduceIte, Nat.reduceEqDiff]
      try rw [thenQ_normal]
      have hk' : k = c.edges.length := by simp only [decide_eq_false_iff_not] at hc; omega
      rw [hk']
      clear hc
      refine awp_rseq (by decide) fun KK hKK => ?_
      refine m_move ?_
      refine m_not ?_
      refine hKK _ _ ?_
      clear hKK KK
      refine m_cond (fun hc => ?_) (fun hc => ?_)
      · have hm : maxTo c (i + 1) = maxTo c i ++ [(i : Int)] := by rw [maxTo, if_neg (by simpa using hc)]
        refine awp_rlast (by decide) fun KK hKK => ?_
        refine m_move ?_
        refine m_move ?_
        refine m_sliceN ?_
        first | refine m_appOwn ?_ | refine m_appEmp ?_
        refine m_assign ?_
        refine hKK _ _ ?_
        clear hKK KK
        first | rw [thenQ_normal] | rw [blockQ_normal, thenQ_normal]
        have FF := And.intro w3 FF
        refine awp_rlast (by decide) fun KK hKK => ?_
        refine m_bin ?_
        refine m_move ?_
        refine hKK _ _ ?_
        clear hKK KK
        try rw [thenQ_normal]
        refine ⟨i + 1, ?_, ?_, (by simp only [List.forall_mem_cons, List.forall_mem_nil, go_sem, reduceIte, Nat.reduceEqDiff, FF, hm, List.length_append, List.length_cons, List.length_nil]; all_goals ((repeat' apply And.intro) <;> first | trivial | rfl | exact objLe_refl _ | (intro _ _; exact Subs.refl _))), ?_⟩
        · exact hi'
        · omega
        · rw [hm]
          exact List.forall_mem_cons.2 ⟨objLe_refl _, List.forall_mem_cons.2 ⟨snoc_row (fun x => [CV.int x]) 0 (maxTo c i) (i : Int), List.forall_mem_nil _⟩⟩
      · have hm : maxTo c (i + 1) = maxTo c i := by rw [maxTo, if_pos (by simpa using hc)]
        refine awp_skip ?_
        first | rw [thenQ_normal] | rw [blockQ_normal, thenQ_normal]
        have FF := And.intro w3 FF
        refine awp_rlast (by decide) fun KK hKK => ?_
        refine m_bin ?_
        refine m_move ?_
        refine hKK _ _ ?_
        clear hKK KK
        have FF := And.intro hm FF
        try rw [thenQ_normal]
        refine m_next (i + 1) ?_ ?_
        · exact hi'
        · omega
  · refine awp_exit ?_
    simp only [thenQ_exit, blockQ_exit, reduceIte, Nat.reduceEqDiff]
    try rw [thenQ_normal]
    have hi' : i = c.edges.length := by simp only [decide_eq_false_iff_not] at hc; omega
    have hm : maxF c = maxTo c i := by unfold maxF; rw [hi']
    rw [hm]
    refine m_frz 100 [(3, .c (encInts (maxTo c i)))] [] ?_
    refine awp_rseq (by decide) fun KK hKK => ?_
    refine m_move ?_
    refine m_assign ?_
    refine hKK _ _ ?_
    clear hKK KK
    refine awp_ret ⟨[_], ⟨⟨(by simp only [go_sem, reduceIte, Nat.reduceEqDiff, FF]), (by simp only [go_sem, reduceIte, Nat.reduceEqDiff, FF] <;> rfl)⟩, trivial⟩, ?_⟩
    simp only [go_sem, reduceIte, Nat.reduceEqDiff, FF, tupled]
    exact CV.Sub.refl _

theorem rmaximal_ok (c : Ch) (hL : c.edges.length ≤ 1000000) : APure Try.prog 13 [.agg (cellsC c)] (encInts (maxF c)) := by
  have FF : True := trivial
  refine apure_of Try.func13 rfl (by kernel_rfl) (by simp [Try.ntmps13]) ?_
  rw [Try.ntmps13]
  refine awp_rseq (by decide) fun KK hKK => ?_
  refine m_box ?_
  refine m_assign ?_
  refine hKK _ _ ?_
  clear hKK KK
  refine awp_rseq (by decide) fun KK hKK => ?_
  refine m_slice0 ?_
  refine m_assign ?_
  refine hKK _ _ ?_
  clear hKK KK
  refine awp_seq ?_
  refine awp_rseq (by decide) fun KK hKK => ?_
  refine m_assign ?_
  refine hKK _ _ ?_
  clear hKK KK
  refine awp_block ?_
  refine AWp.weak (weak_adopt 3 100 3 1 (fun q => [.int ((maxTo c 0).getD q 0)]) (by simp only [go_sem, reduceIte, Nat.reduceEqDiff, FF]) (by simp only [go_sem, reduceIte, Nat.reduceEqDiff, FF])) ?_
  refine m_for (ι := Nat) (fun i => [(1, .ptr 1 0), (3, .own 100 (maxTo c i).length), (4, .int i)]) (fun i => [(1, .box 24 ((cellsC c).map .c)), (100, .row 3 1 (maxTo c i).length (fun q => [.int ((maxTo c i).getD q 0)]))]) (fun i => c.edges.length - i) (fun i => i ≤ c.edges.length) (0) ?_ ?_
  · exact Nat.zero_le _
  intro i hi
  refine awp_seq ?_
  refine awp_rseq (by decide) fun KK hKK => ?_
  refine m_move ?_
  refine m_field ?_
  refine m_load ?_
  refine m_len ?_
  refine m_bin ?_
  refine hKK _ _ ?_
  clear hKK KK
  refine m_cond (fun hc => ?_) (fun hc => ?_)
  · simp only [decide_eq_true_eq] at hc
    have hi' : i < c.edges.length := by omega
    have w3 : IntKind.i64.wrap ((i : Int) + 1) = ((i + 1 : Nat) : Int) := wrap_in (by omega)
    have hml := maxTo_len c i
    refine awp_skip ?_
    first | rw [thenQ_normal] | rw [blockQ_normal, thenQ_normal]
    refine awp_seq (awp_block ?_)
    clear hc
    refine awp_rseq (by decide) fun KK hKK => ?_
    refine m_field ?_
    refine m_load ?_
    refine m_move ?_
    refine m_index ?_
    refine m_load ?_
    refine m_alloc ?_
    first | refine m_stPtr ?_ | refine m_stRp ?_
    refine hKK _ _ ?_
    clear hKK KK
    refine awp_rseq (by decide) fun KK hKK => ?_
    refine m_assign ?_
    refine hKK _ _ ?_
    clear hKK KK
    refine awp_seq ?_
    refine awp_rseq (by decide) fun KK hKK => ?_
    refine m_assign ?_
    refine hKK _ _ ?_
    clear hKK KK
    refine awp_block ?_
    refine m_for (ι := Nat) (fun k => [(1, .ptr 1 0), (3, .own 100 (maxTo c i).length), (4, .int i), (5, .ptr 5 0), (6, .bool (anyTo (longer c i) k)), (7, .int k)]) (fun k => [(1, .box 24 ((cellsC c).map .c)), (5, .box 43 ((cellsE (c.edges.getD i default)).map .c)), (100, .row 3 1 (maxTo c i).length (fun q => [.int ((maxTo c i).getD q 0)]))]) (fun k => c.edges.length - k) (fun k => k ≤ c.edges.length) (0) ?_ ?_
    · exact Nat.zero_le _
    intro k hk
    refine awp_seq ?_
    refine awp_rseq (by decide) fun KK hKK => ?_
    refine m_move ?_
    refine m_field ?_
    refine m_load ?_
    refine m_len ?_
    refine m_bin ?_
    refine hKK _ _ ?_
    clear hKK KK
    refine m_cond (fun hc => ?_) (fun hc => ?_)
    · simp only [decide_eq_true_eq] at hc
      have hk' : k < c.edges.length := by omega
      have w4 : IntKind.i64.wrap ((k : Int) + 1) = ((k + 1 : Nat) : Int) := wrap_in (by omega)
      refine awp_skip ?_
      first | rw [thenQ_normal] | rw [blockQ_normal, thenQ_normal]
      refine awp_seq (awp_block ?_)
      clear hc
      refine awp_rseq (by decide) fun KK hKK => ?_
      refine m_field ?_
      refine m_load ?_
      refine m_move ?_
      refine m_index ?_
      refine m_load ?_
      refine m_alloc ?_
      first | refine m_stPtr ?_ | refine m_stRp ?_
      refine hKK _ _ ?_
      clear hKK KK
      refine awp_rlast (by decide) fun KK hKK => ?_
      refine m_move ?_
      refine m_move ?_
      refine g_field ?_
      refine g_load ?_
      refine g_field ?_
      refine g_load ?_
      refine g_bin ?_
      refine g_move ?_
      refine g_field ?_
      refine g_load ?_
      refine g_field ?_
      refine g_load ?_
      refine g_bin ?_
      refine g_pick ?_
      refine g_move ?_
      refine g_field ?_
      refine g_load ?_
      refine g_field ?_
      refine g_load ?_
      refine g_bin ?_
      refine g_field ?_
      refine g_load ?_
      refine g_field ?_
      refine g_load ?_
      refine g_bin ?_
      refine g_bin ?_
      refine g_pick ?_
      refine m_pick ?_
      refine m_assign ?_
      refine hKK _ _ ?_
      clear hKK KK
      first | rw [thenQ_normal] | rw [blockQ_normal, thenQ_normal]
      have FF := And.intro w4 FF
      refine awp_rlast (by decide) fun KK hKK => ?_
      refine m_move ?_
      refine m_bin ?_
      refine m_assign ?_
      refine hKK _ _ ?_
      clear hKK KK
      try rw [thenQ_normal]
      refine ⟨k + 1, ?_, ?_, (by simp only [List.forall_mem_cons, List.forall_mem_nil, go_sem, reduceIte, Nat.reduceEqDiff, FF, anyTo, longer]; all_goals ((repeat' apply And.intro) <;> first | trivial | rfl | exact objLe_refl _ | (intro _ _; exact Subs.refl _))), (by simp only [List.forall_mem_cons, List.forall_mem_nil, go_sem, reduceIte, Nat.reduceEqDiff, FF, anyTo, longer]; all_goals ((repeat' apply And.intro) <;> first | trivial | rfl | exact objLe_refl _ | (intro _ _; exact Subs.refl _)))⟩
      · exact hk'
      · omega
    · refine awp_exit ?_
      simp only [thenQ_exit, blockQ_exit, reduceIte, Nat.reduceEqDiff]
      try rw [thenQ_normal]
      have hk' : k = c.edges.length := by simp only [decide_eq_false_iff_not] at hc; omega
      rw [hk']
      clear hc
      refine awp_rseq (by decide) fun KK hKK => ?_
      refine m_move ?_
      refine m_not ?_
      refine hKK _ _ ?_
      clear hKK KK
      refine m_cond (fun hc => ?_) (fun hc => ?_)
      · have hm : maxTo c (i + 1) = maxTo c i ++ [(i : Int)] := by rw [maxTo, if_neg (by simpa using hc)]
        refine awp_rlast (by decide) fun KK hKK => ?_
        refine m_move ?_
        refine m_move ?_
        refine m_sliceN ?_
        first | refine m_appOwn ?_ | refine m_appEmp ?_
        refine m_assign ?_
        refine hKK _ _ ?_
        clear hKK KK
        first | rw [thenQ_normal] | rw [blockQ_normal, thenQ_normal]
        have FF := And.intro w3 FF
        refine awp_rlast (by decide) fun KK hKK => ?_
        refine m_move ?_
        refine m_bin ?_
        refine m_assign ?_
        refine hKK _ _ ?_
        clear hKK KK
        try rw [thenQ_normal]
        refine ⟨i + 1, ?_, ?_, (by simp only [List.forall_mem_cons, List.forall_mem_nil, go_sem, reduceIte, Nat.reduceEqDiff, FF, hm, List.length_append, List.length_cons, List.length_nil]; all_goals ((repeat' apply And.intro) <;> first | trivial | rfl | exact objLe_refl _ | (intro _ _; exact Subs.refl _))), ?_⟩
        · exact hi'
        · omega
        · rw [hm]
          exact List.forall_mem_cons.2 ⟨objLe_refl _, List.forall_mem_cons.2 ⟨snoc_row (fun x => [CV.int x]) 0 (maxTo c i) (i : Int), List.forall_mem_nil _⟩⟩
      · have hm : maxTo c (i + 1) = maxTo c i := by rw [maxTo, if_pos (by simpa using hc)]
        refine awp_skip ?_
        first | rw [thenQ_normal] | rw [blockQ_normal, thenQ_normal]
        have FF := And.intro w3 FF
        refine awp_rlast (by decide) fun KK hKK => ?_
        refine m_move ?_
        refine m_bin ?_
        refine m_assign ?_
        refine hKK _ _ ?_
        clear hKK KK
        have FF := And.intro hm FF
        try rw [thenQ_normal]
        refine m_next (i + 1) ?_ ?_
        · exact hi'
        · omega
  · refine awp_exit ?_
    simp only [thenQ_exit, blockQ_exit, reduceIte, Nat.reduceEqDiff]
    try rw [thenQ_normal]
    have hi' : i = c.edges.length := by simp only [decide_eq_false_iff_not] at hc; omega
    have hm : maxF c = maxTo c i := by unfold maxF; rw [hi']
    rw [hm]
    refine m_frz 100 [(3, .c (encInts (maxTo c i)))] [] ?_
    refine awp_rseq (by decide) fun KK hKK => ?_
    refine m_move ?_
    refine m_assign ?_
    refine hKK _ _ ?_
    clear hKK KK
    refine awp_ret ⟨[_], ⟨⟨(by simp only [go_sem, reduceIte, Nat.reduceEqDiff, FF]), (by simp only [go_sem, reduceIte, Nat.reduceEqDiff, FF] <;> rfl)⟩, trivial⟩, ?_⟩
    simp only [go_sem, reduceIte, Nat.reduceEqDiff, FF, tupled]
    exact CV.Sub.refl _
end Go.Am
