/- Contracts: adding an edge, building a chart. No condition. -/
import Derived.Test.YtfepiaclbokkjaaW4
namespace Go.Am
open Go.Proofs
attribute [local go_sem ↓] ofL_cons ofH_cons upd_apply
attribute [local go_sem] cellsD cellsE cellsC
set_option maxHeartbeats 1000000
set_option linter.unusedSimpArgs false

theorem firstFrom_step (p : Nat → Bool) {i n : Nat} (h : i < n) : firstFrom p i (n - i) = if p i then some i else firstFrom p (i + 1) (n - (i + 1)) := by
  rw [show n - i = (n - (i + 1)) + 1 by omega, firstFrom]

theorem okD_derN {c : Ch} (h : WF c) (i : Nat) (hi : i < c.edges.length) : okD (derN c i) := by
  unfold derN
  rw [if_neg (by simp; omega)]
  refine okD_derE c h.founded h.lex _ _ (Nat.le_refl _) ((h.founded.2 _ (by simpa using hi)).mono (by simp; omega)) (h.lex _ ?_)
  unfold edgeAt
  rw [Int.toNat_natCast, getD_lt hi]
  exact List.getElem_mem hi

def addR (c : Ch) (e : Ed) : Option Nat → Ch × Int × Int
  | some i => (c, i, 4)
  | none => (⟨c.words, c.edges ++ [e]⟩, c.edges.length, 0)
def encAdd (r : Ch × Int × Int) : CV := .tup [.agg (cellsC r.1), .int r.2.1, .int r.2.2]

theorem add_ok (c : Ch) (e : Ed) (h : WF c) : APure Try.prog 31 [.agg (cellsC c), .agg (cellsE e)] (encAdd (addF c e)) := by
  have FF : True := trivial
  refine apure_of Try.func31 rfl (by kernel_rfl) (by simp [Try.ntmps31]) ?_
  rw [Try.ntmps31]
  refine awp_rseq (by decide) fun KK hKK => ?_
  refine m_box ?_
  refine m_box ?_
  refine m_alloc ?_
  refine m_assign ?_
  refine m_assign ?_
  refine hKK _ _ ?_
  clear hKK KK
  refine awp_seq ?_
  refine awp_rseq (by decide) fun KK hKK => ?_
  refine m_field ?_
  refine m_load ?_
  refine m_bin ?_
  refine m_move ?_
  refine g_field ?_
  refine g_load ?_
  refine g_field ?_
  refine g_load ?_
  refine g_bin ?_
  refine m_pick ?_
  refine m_move ?_
  refine g_field ?_
  refine g_load ?_
  refine g_field ?_
  refine g_load ?_
  refine g_bin ?_
  refine m_pick ?_
  refine hKK _ _ ?_
  clear hKK KK
  refine m_cond (fun hc => ?_) (fun hc => ?_)
  · refine awp_rseq (by decide) fun KK hKK => ?_
    refine m_load ?_
    first | refine m_stPtr ?_ | refine m_stRp ?_
    refine m_assign ?_
    refine m_assign ?_
    refine hKK _ _ ?_
    clear hKK KK
    refine awp_ret ⟨[_, _, _], ⟨k_load (by simp only [go_sem, reduceIte, Nat.reduceEqDiff, FF] <;> rfl) (by simp only [go_sem] <;> rfl) (by rfl) (by intro hG; simp only [go_sem]) (by exact lm_ptr (by simp only [go_sem, reduceIte, Nat.reduceEqDiff, FF] <;> rfl) (by simp only [go_sem, reduceIte, Nat.reduceEqDiff, FF, Nat.reduceAdd, Nat.reduceSub, Nat.reduceMul, Nat.reduceLeDiff] <;> rfl) (fun _ => Nat.le_of_ble_eq_true rfl)), ⟨(by simp only [go_sem, reduceIte, Nat.reduceEqDiff, FF]), (by simp only [go_sem, reduceIte, Nat.reduceEqDiff, FF] <;> rfl)⟩, ⟨(by simp only [go_sem, reduceIte, Nat.reduceEqDiff, FF]), (by simp only [go_sem, reduceIte, Nat.reduceEqDiff, FF] <;> rfl)⟩, trivial⟩, ?_⟩
    simp only [go_sem, reduceIte, Nat.reduceEqDiff, FF, tupled]
    rw [show addF c e = (c, 0, 2) by unfold addF; rw [if_pos hc]]
    exact CV.Sub.refl _
  refine awp_skip ?_
  first | rw [thenQ_normal] | rw [blockQ_normal, thenQ_normal]
  have h1 := hc
  clear hc
  refine awp_seq ?_
  refine awp_rseq (by decide) fun KK hKK => ?_
  refine m_field ?_
  refine m_load ?_
  refine m_bin ?_
  refine m_move ?_
  refine g_field ?_
  refine g_load ?_
  refine g_bin ?_
  refine m_pick ?_
  refine hKK _ _ ?_
  clear hKK KK
  refine m_cond (fun hc => ?_) (fun hc => ?_)
  · refine awp_rseq (by decide) fun KK hKK => ?_
    refine m_load ?_
    first | refine m_stPtr ?_ | refine m_stRp ?_
    refine m_assign ?_
    refine m_assign ?_
    refine hKK _ _ ?_
    clear hKK KK
    refine awp_ret ⟨[_, _, _], ⟨k_load (by simp only [go_sem, reduceIte, Nat.reduceEqDiff, FF] <;> rfl) (by simp only [go_sem] <;> rfl) (by rfl) (by intro hG; simp only [go_sem]) (by exact lm_ptr (by simp only [go_sem, reduceIte, Nat.reduceEqDiff, FF] <;> rfl) (by simp only [go_sem, reduceIte, Nat.reduceEqDiff, FF, Nat.reduceAdd, Nat.reduceSub, Nat.reduceMul, Nat.reduceLeDiff] <;> rfl) (fun _ => Nat.le_of_ble_eq_true rfl)), ⟨(by simp only [go_sem, reduceIte, Nat.reduceEqDiff, FF]), (by simp only [go_sem, reduceIte, Nat.reduceEqDiff, FF] <;> rfl)⟩, ⟨(by simp only [go_sem, reduceIte, Nat.reduceEqDiff, FF]), (by simp only [go_sem, reduceIte, Nat.reduceEqDiff, FF] <;> rfl)⟩, trivial⟩, ?_⟩
    simp only [go_sem, reduceIte, Nat.reduceEqDiff, FF, tupled]
    rw [show addF c e = (c, 0, 14) by unfold addF; rw [if_neg (by rw [h1]; decide), if_pos hc]]
    exact CV.Sub.refl _
  refine awp_skip ?_
  first | rw [thenQ_normal] | rw [blockQ_normal, thenQ_normal]
  have h2 := hc
  clear hc
  refine awp_seq ?_
  refine awp_rseq (by decide) fun KK hKK => ?_
  refine m_load ?_
  refine m_load ?_
  refine m_call (fun hG => formed_ok c e) ?_
  refine m_not ?_
  refine hKK _ _ ?_
  clear hKK KK
  refine m_cond (fun hc => ?_) (fun hc => ?_)
  · refine awp_rseq (by decide) fun KK hKK => ?_
    refine m_load ?_
    first | refine m_stPtr ?_ | refine m_stRp ?_
    refine m_assign ?_
    refine m_assign ?_
    refine hKK _ _ ?_
    clear hKK KK
    refine awp_ret ⟨[_, _, _], ⟨k_load (by simp only [go_sem, reduceIte, Nat.reduceEqDiff, FF] <;> rfl) (by simp only [go_sem] <;> rfl) (by rfl) (by intro hG; simp only [go_sem]) (by exact lm_ptr (by simp only [go_sem, reduceIte, Nat.reduceEqDiff, FF] <;> rfl) (by simp only [go_sem, reduceIte, Nat.reduceEqDiff, FF, Nat.reduceAdd, Nat.reduceSub, Nat.reduceMul, Nat.reduceLeDiff] <;> rfl) (fun _ => Nat.le_of_ble_eq_true rfl)), ⟨(by simp only [go_sem, reduceIte, Nat.reduceEqDiff, FF]), (by simp only [go_sem, reduceIte, Nat.reduceEqDiff, FF] <;> rfl)⟩, ⟨(by simp only [go_sem, reduceIte, Nat.reduceEqDiff, FF]), (by simp only [go_sem, reduceIte, Nat.reduceEqDiff, FF] <;> rfl)⟩, trivial⟩, ?_⟩
    simp only [go_sem, reduceIte, Nat.reduceEqDiff, FF, tupled]
    rw [show addF c e = (c, 0, 13) by unfold addF; rw [if_neg (by rw [h1]; decide), if_neg (by rw [h2]; decide), if_pos hc]]
    exact CV.Sub.refl _
  refine awp_skip ?_
  first | rw [thenQ_normal] | rw [blockQ_normal, thenQ_normal]
  have hspec : addF c e = addR c e (firstFrom (dupF c e) 0 c.edges.length) := by
    unfold addF
    rw [if_neg (by rw [h1]; decide), if_neg (by rw [h2]; decide), if_neg (by rw [hc]; decide)]
    unfold addR
    split <;> rename_i hq <;> rw [hq]
  have hk := formed_kids c e (by simpa using hc)
  have hL := h.founded.1
  rw [hspec]
  clear hc h1 h2
  refine awp_rseq (by decide) fun KK hKK => ?_
  refine m_load ?_
  refine m_load ?_
  refine m_call (fun hG => derivation_ok c h.founded c.edges.length e (Nat.le_refl _) hk) ?_
  refine m_alloc ?_
  first | refine m_stPtr ?_ | refine m_stRp ?_
  refine hKK _ _ ?_
  clear hKK KK
  refine awp_seq ?_
  refine awp_rseq (by decide) fun KK hKK => ?_
  refine m_assign ?_
  refine hKK _ _ ?_
  clear hKK KK
  refine awp_block ?_
  refine m_for (ι := Nat) (fun i => [(2, .ptr 2 0), (3, .ptr 3 0), (4, .ptr 4 0), (7, .ptr 7 0), (8, .int i)]) (fun i => [(2, .box 24 ((cellsC c).map .c)), (3, .box 43 ((cellsE e).map .c)), (4, .box 24 [.int 0, .emp]), (7, .box 38 ((cellsD (derE c c.edges.length e)).map .c))]) (fun i => c.edges.length - i) (fun i => i ≤ c.edges.length ∧ firstFrom (dupF c e) i (c.edges.length - i) = firstFrom (dupF c e) 0 c.edges.length) (0) ?_ ?_
  · exact ⟨Nat.zero_le _, rfl⟩
  rintro i ⟨hi, hres⟩
  refine awp_seq ?_
  refine awp_rseq (by decide) fun KK hKK => ?_
  refine m_move ?_
  refine m_field ?_
  refine m_load ?_
  refine m_len ?_
  refine m_bin ?_
  refine hKK _ _ ?_
  clear hKK KK
  refine m_cond (fun hc => ?_) (fun hc => ?_)
  · simp only [decide_eq_true_eq] at hc
    have hi' : i < c.edges.length := by omega
    have w3 : IntKind.i64.wrap ((i : Int) + 1) = ((i + 1 : Nat) : Int) := wrap_in (by omega)
    have hstep := firstFrom_step (dupF c e) hi'
    rw [hres] at hstep
    refine awp_skip ?_
    first | rw [thenQ_normal] | rw [blockQ_normal, thenQ_normal]
    refine awp_seq (awp_block ?_)
    clear hc
    refine awp_rseq_draw Try.mixed (by decide) (by kernel_rfl) fun KK hKK => ?_
    refine m_load ?_
    refine m_move ?_
    refine m_call (fun hG => deriv_ok c h.founded i) ?_
    refine m_load ?_
    refine m_call (fun hG => compare_ok _ (derN c i) (derE c c.edges.length e) (Nat.le_refl _) (okD_derN h i hi')) ?_
    refine m_bin ?_
    refine hKK _ _ ?_
    clear hKK KK
    refine m_cond (fun hc => ?_) (fun hc => ?_)
    · refine awp_rseq (by decide) fun KK hKK => ?_
      refine m_load ?_
      refine m_move ?_
      first | refine m_stPtr ?_ | refine m_stRp ?_
      refine m_assign ?_
      refine m_assign ?_
      refine hKK _ _ ?_
      clear hKK KK
      refine awp_ret ⟨[_, _, _], ⟨k_load (by simp only [go_sem, reduceIte, Nat.reduceEqDiff, FF] <;> rfl) (by simp only [go_sem] <;> rfl) (by rfl) (by intro hG; simp only [go_sem]) (by exact lm_ptr (by simp only [go_sem, reduceIte, Nat.reduceEqDiff, FF] <;> rfl) (by simp only [go_sem, reduceIte, Nat.reduceEqDiff, FF, Nat.reduceAdd, Nat.reduceSub, Nat.reduceMul, Nat.reduceLeDiff] <;> rfl) (fun _ => Nat.le_of_ble_eq_true rfl)), ⟨(by simp only [go_sem, reduceIte, Nat.reduceEqDiff, FF]), (by simp only [go_sem, reduceIte, Nat.reduceEqDiff, FF] <;> rfl)⟩, ⟨(by simp only [go_sem, reduceIte, Nat.reduceEqDiff, FF]), (by simp only [go_sem, reduceIte, Nat.reduceEqDiff, FF] <;> rfl)⟩, trivial⟩, ?_⟩
      simp only [go_sem, reduceIte, Nat.reduceEqDiff, FF, tupled]
      have hd : dupF c e i = true := hc
      rw [hstep, hd]
      exact CV.Sub.refl _
    refine awp_skip ?_
    first | rw [thenQ_normal] | rw [blockQ_normal, thenQ_normal]
    have hd : dupF c e i = false := hc
    have FF := And.intro w3 FF
    refine awp_rlast (by decide) fun KK hKK => ?_
    refine m_move ?_
    refine m_bin ?_
    refine m_assign ?_
    refine hKK _ _ ?_
    clear hKK KK
    try rw [thenQ_normal]
    refine m_next (i + 1) ?_ ?_
    · refine ⟨hi', ?_⟩
      rw [hstep, hd]
      rfl
    · omega
  · refine awp_exit ?_
    simp only [thenQ_exit, blockQ_exit, reduceIte, Nat.reduceEqDiff]
    try rw [thenQ_normal]
    have hi' : i = c.edges.length := by simp only [decide_eq_false_iff_not] at hc; omega
    have hno : firstFrom (dupF c e) 0 c.edges.length = none := by rw [← hres, hi', Nat.sub_self]; rfl
    rw [hno]
    clear hc hres hi' hi
    refine awp_rseq (by decide) fun KK hKK => ?_
    refine m_field ?_
    refine m_load ?_
    refine m_build ?_
    refine m_alloc ?_
    first | refine m_stPtr ?_ | refine m_stRp ?_
    refine hKK _ _ ?_
    clear hKK KK
    refine awp_seq ?_
    refine awp_rseq (by decide) fun KK hKK => ?_
    refine m_assign ?_
    refine hKK _ _ ?_
    clear hKK KK
    refine awp_block ?_
    refine AWp.weak (weak_adoptB 9 1 100 _ _ 43 12 (fun q => cellsE ((c.edges.take 0).getD q default)) (by simp only [go_sem, reduceIte, Nat.reduceEqDiff, FF] <;> rfl) (by rfl) (by simp only [go_sem, reduceIte, Nat.reduceEqDiff, FF])) ?_
    refine m_for (ι := Nat) (fun i => [(2, .ptr 2 0), (3, .ptr 3 0), (4, .ptr 4 0), (9, .ptr 9 0), (10, .int i)]) (fun i => [(2, .box 24 ((cellsC c).map .c)), (3, .box 43 ((cellsE e).map .c)), (4, .box 24 [.int 0, .emp]), (9, .box 24 [.int c.words, .own 100 (c.edges.take i).length]), (100, .row 43 12 (c.edges.take i).length (fun q => cellsE ((c.edges.take i).getD q default)))]) (fun i => c.edges.length - i) (fun i => i ≤ c.edges.length) (0) ?_ ?_
    · exact Nat.zero_le _
    intro i hi
    refine awp_seq ?_
    refine awp_rseq (by decide) fun KK hKK => ?_
    refine m_move ?_
    refine m_field ?_
    refine m_load ?_
    refine m_len ?_
    refine m_bin ?_
    refine hKK _ _ ?_
    clear hKK KK
    refine m_cond (fun hc => ?_) (fun hc => ?_)
    · simp only [decide_eq_true_eq] at hc
      have hi' : i < c.edges.length := by omega
      have w3 : IntKind.i64.wrap ((i : Int) + 1) = ((i + 1 : Nat) : Int) := wrap_in (by omega)
      have hlen : (c.edges.take i).length = i := by rw [List.length_take]; omega
      refine awp_skip ?_
      first | rw [thenQ_normal] | rw [blockQ_normal, thenQ_normal]
      refine awp_seq (awp_block ?_)
      clear hc
      refine awp_rlast_draw Try.mixed (by decide) (by kernel_rfl) fun KK hKK => ?_
      refine m_field ?_
      refine m_load ?_
      refine m_field ?_
      refine m_load ?_
      refine m_move ?_
      refine m_index ?_
      refine m_load ?_
      refine m_sliceN ?_
      first | refine m_appOwn ?_ | refine m_appEmp ?_
      refine m_field ?_
      first | refine m_stPtr ?_ | refine m_stRp ?_
      refine hKK _ _ ?_
      clear hKK KK
      first | rw [thenQ_normal] | rw [blockQ_normal, thenQ_normal]
      have FF := And.intro w3 FF
      refine awp_rlast (by decide) fun KK hKK => ?_
      refine m_move ?_
      refine m_bin ?_
      refine m_assign ?_
      refine hKK _ _ ?_
      clear hKK KK
      have hKi : c.edges.take (i + 1) = c.edges.take i ++ [c.edges.getD i default] := by rw [take_snoc hi', getD_lt hi']
      try rw [thenQ_normal]
      refine ⟨i + 1, ?_, ?_, (by simp only [List.forall_mem_cons, List.forall_mem_nil, go_sem, reduceIte, Nat.reduceEqDiff, FF, hKi, List.length_append, List.length_cons, List.length_nil]; all_goals ((repeat' apply And.intro) <;> first | trivial | rfl | exact objLe_refl _ | (intro _ _; exact Subs.refl _))), ?_⟩
      · exact hi'
      · omega
      · rw [hKi]
        exact List.forall_mem_cons.2 ⟨objLe_refl _, List.forall_mem_cons.2 ⟨objLe_refl _, List.forall_mem_cons.2 ⟨objLe_refl _, List.forall_mem_cons.2 ⟨objLe_of (by simp only [go_sem, reduceIte, Nat.reduceEqDiff, List.length_append, List.length_cons, List.length_nil, FF]), List.forall_mem_cons.2 ⟨snoc_row cellsE default (c.edges.take i) (c.edges.getD i default), List.forall_mem_nil _⟩⟩⟩⟩⟩
    · refine awp_exit ?_
      simp only [thenQ_exit, blockQ_exit, reduceIte, Nat.reduceEqDiff]
      try rw [thenQ_normal]
      have hi' : i = c.edges.length := by simp only [decide_eq_false_iff_not] at hc; omega
      have hKt : c.edges.take i = c.edges := by rw [hi', List.take_length]
      rw [hKt]
      clear hc
      refine awp_rseq (by decide) fun KK hKK => ?_
      refine m_field ?_
      refine m_load ?_
      refine m_load ?_
      refine m_sliceN ?_
      first | refine m_appOwn ?_ | refine m_appEmp ?_
      refine m_field ?_
      first | refine m_stPtr ?_ | refine m_stRp ?_
      refine hKK _ _ ?_
      clear hKK KK
      refine m_frz 100 [(2, .ptr 2 0), (4, .ptr 4 0), (9, .ptr 9 0)] [(2, .box 24 ((cellsC c).map .c)), (4, .box 24 [.int 0, .emp]), (9, .box 24 [.int c.words, .c (.im 12 (c.edges.length + 1) (fun q => if q < c.edges.length then cellsE (c.edges.getD q default) else [cellsE e].getD (q - c.edges.length) []))])] ?_
      refine awp_rseq_drawF Try.mixed [(4, 2), (4, 3)] (by decide) (by kernel_rfl) fun KK hKK => ?_
      refine m_load ?_
      refine m_field ?_
      refine m_load ?_
      refine m_len ?_
      first | refine m_stPtr ?_ | refine m_stRp ?_
      refine m_assign ?_
      refine m_assign ?_
      refine hKK _ _ (by rfl) ?_
      clear hKK KK
      refine awp_ret ⟨[_, _, _], ⟨k_load (by simp only [go_sem, reduceIte, Nat.reduceEqDiff, FF] <;> rfl) (by simp only [go_sem] <;> rfl) (by rfl) (by intro hG; simp only [go_sem]) (by exact lm_ptr (by simp only [go_sem, reduceIte, Nat.reduceEqDiff, FF] <;> rfl) (by simp only [go_sem, reduceIte, Nat.reduceEqDiff, FF, Nat.reduceAdd, Nat.reduceSub, Nat.reduceMul, Nat.reduceLeDiff] <;> rfl) (fun _ => Nat.le_of_ble_eq_true rfl)), ⟨(by simp only [go_sem, reduceIte, Nat.reduceEqDiff, FF]), (by simp only [go_sem, reduceIte, Nat.reduceEqDiff, FF] <;> rfl)⟩, ⟨(by simp only [go_sem, reduceIte, Nat.reduceEqDiff, FF]), (by simp only [go_sem, reduceIte, Nat.reduceEqDiff, FF] <;> rfl)⟩, trivial⟩, ?_⟩
      simp only [go_sem, reduceIte, Nat.reduceEqDiff, FF, tupled]
      refine sub_tup ⟨sub_agg ⟨CV.Sub.refl _, ?_, trivial⟩, CV.Sub.refl _, CV.Sub.refl _, trivial⟩
      have := snoc_row (ty := 43) (sz := 12) cellsE default c.edges e
      obtain ⟨_, _, q1, q2⟩ := this
      exact sub_im q1 q2

def chartAt (words : Int) (l : List Ed) (i : Nat) : Ch := (l.take i).foldl addS (newF words).1
theorem chartAt_succ (words : Int) {l : List Ed} {i : Nat} (h : i < l.length) : chartAt words l (i + 1) = addS (chartAt words l i) (l.getD i default) := by
  unfold chartAt
  rw [take_snoc h, List.foldl_append, getD_lt h]
  rfl

theorem build_ok (words : Int) (l : List Ed) (hl : l.length ≤ 1000) (ho : ∀ e ∈ l, okD e.lex) : APure Try.prog 23 [.int words, encEs l] (.agg (cellsC (buildF words l))) := by
  have hnw := new_wf words
  have hwf : ∀ i, i ≤ l.length → WF (chartAt words l i) := fun i hi => by
    refine (fold_wf (l.take i) _ hnw.1 ?_ fun e he => ho e (List.mem_of_mem_take he)).1
    rw [hnw.2, List.length_take]
    simp
    omega
  have FF : True := trivial
  refine apure_of Try.func23 rfl (by kernel_rfl) (by simp [Try.ntmps23]) ?_
  rw [Try.ntmps23]
  refine awp_rseq (by decide) fun KK hKK => ?_
  refine m_alloc ?_
  refine hKK _ _ ?_
  clear hKK KK
  refine awp_rseq (by decide) fun KK hKK => ?_
  refine m_move ?_
  refine m_call (fun hG => new_ok words) ?_
  refine m_move ?_
  refine m_extract ?_
  refine m_extract ?_
  refine m_alloc ?_
  first | refine m_stPtr ?_ | refine m_stRp ?_
  refine m_assign ?_
  refine hKK _ _ ?_
  clear hKK KK
  refine awp_seq ?_
  refine awp_rseq (by decide) fun KK hKK => ?_
  refine m_assign ?_
  refine hKK _ _ ?_
  clear hKK KK
  refine awp_block ?_
  refine m_for (ι := Nat) (fun i => [(1, .c (encEs l)), (4, .ptr 4 0), (5, .ptr 5 0), (7, .int i)]) (fun i => [(4, .box 24 [.int 0, .emp]), (5, .box 24 ((cellsC (chartAt words l i)).map .c))]) (fun i => l.length - i) (fun i => i ≤ l.length) (0) ?_ ?_
  · exact Nat.zero_le _
  intro i hi
  refine awp_seq ?_
  refine awp_rseq (by decide) fun KK hKK => ?_
  refine m_move ?_
  refine m_move ?_
  refine m_len ?_
  refine m_bin ?_
  refine hKK _ _ ?_
  clear hKK KK
  refine m_cond (fun hc => ?_) (fun hc => ?_)
  · simp only [decide_eq_true_eq] at hc
    have hi' : i < l.length := by omega
    have w3 : IntKind.i64.wrap ((i : Int) + 1) = ((i + 1 : Nat) : Int) := wrap_in (by omega)
    refine awp_skip ?_
    first | rw [thenQ_normal] | rw [blockQ_normal, thenQ_normal]
    refine awp_seq (awp_block ?_)
    clear hc
    refine awp_rseq_draw Try.mixed (by decide) (by kernel_rfl) fun KK hKK => ?_
    refine st1 rfl (k_load (by simp only [go_sem, reduceIte, Nat.reduceEqDiff, FF, encAdd] <;> rfl) (by simp only [go_sem] <;> rfl) (by rfl) (by intro hG; simp only [go_sem]) (by first | exact lm_ptr (by simp only [go_sem, reduceIte, Nat.reduceEqDiff, FF, encAdd] <;> rfl) (by simp only [go_sem, reduceIte, Nat.reduceEqDiff, FF, encAdd, Nat.reduceAdd, Nat.reduceSub, Nat.reduceMul, Nat.reduceLeDiff] <;> rfl) (fun _ => Nat.le_of_ble_eq_true rfl) | exact lm_pim (by simp only [go_sem, reduceIte, Nat.reduceEqDiff, FF, encAdd, Nat.reduceAdd, Nat.reduceSub, Nat.reduceMul, Nat.reduceLeDiff] <;> rfl) (fun _ => Nat.le_of_ble_eq_true rfl) | exact lm_rp (by simp only [go_sem, reduceIte, Nat.reduceEqDiff, FF, encAdd] <;> rfl) (by simp only [go_sem, reduceIte, Nat.reduceEqDiff, FF, encAdd, Nat.reduceAdd, Nat.reduceSub, Nat.reduceMul, Nat.reduceLeDiff] <;> rfl) (by intro hG; (repeat' apply And.intro) <;> first | rfl | omega | (dsimp only; omega) | (simp; done)))) ?_
    refine st0 rfl (k_move (by simp only [go_sem, reduceIte, Nat.reduceEqDiff, FF, encAdd] <;> rfl)) ?_
    refine st0 rfl (k_move (by simp only [go_sem, reduceIte, Nat.reduceEqDiff, FF, encAdd] <;> rfl)) ?_
    refine st1 rfl (k_index (by simp only [go_sem, reduceIte, Nat.reduceEqDiff, FF, encAdd] <;> rfl) (by simp only [go_sem, reduceIte, Nat.reduceEqDiff, FF, encAdd] <;> rfl) (by simp only [go_sem] <;> rfl) (by rfl) (by simp only [go_sem] <;> rfl) (by rfl) (by intro hG; simp only [go_sem]) (by first | exact im_im (by first | (simp only [go_sem, reduceIte, Nat.reduceEqDiff, FF, encAdd, Nat.reduceAdd, Nat.reduceSub, Nat.reduceMul, Nat.reduceLeDiff, Int.reduceToNat] <;> rfl) | rfl) (by intro hG; (repeat' apply And.intro) <;> first | rfl | omega | (dsimp only; omega) | (simp; done)) | exact im_own (by simp only [go_sem, reduceIte, Nat.reduceEqDiff, FF, encAdd] <;> rfl) (by first | (simp only [go_sem, reduceIte, Nat.reduceEqDiff, FF, encAdd, Nat.reduceAdd, Nat.reduceSub, Nat.reduceMul, Nat.reduceLeDiff, Int.reduceToNat] <;> rfl) | rfl) (by intro hG; (repeat' apply And.intro) <;> first | rfl | omega | (dsimp only; omega) | (simp; done)) | exact im_osub (by simp only [go_sem, reduceIte, Nat.reduceEqDiff, FF, encAdd] <;> rfl) (by first | (simp only [go_sem, reduceIte, Nat.reduceEqDiff, FF, encAdd, Nat.reduceAdd, Nat.reduceSub, Nat.reduceMul, Nat.reduceLeDiff, Int.reduceToNat] <;> rfl) | rfl) (by intro hG; (repeat' apply And.intro) <;> first | rfl | omega | (dsimp only; omega) | (simp; done)))) ?_
    refine st1 rfl (k_load (by simp only [go_sem, reduceIte, Nat.reduceEqDiff, FF, encAdd] <;> rfl) (by simp only [go_sem] <;> rfl) (by rfl) (by intro hG; simp only [go_sem]) (by first | exact lm_ptr (by simp only [go_sem, reduceIte, Nat.reduceEqDiff, FF, encAdd] <;> rfl) (by simp only [go_sem, reduceIte, Nat.reduceEqDiff, FF, encAdd, Nat.reduceAdd, Nat.reduceSub, Nat.reduceMul, Nat.reduceLeDiff] <;> rfl) (fun _ => Nat.le_of_ble_eq_true rfl) | exact lm_pim (by simp only [go_sem, reduceIte, Nat.reduceEqDiff, FF, encAdd, Nat.reduceAdd, Nat.reduceSub, Nat.reduceMul, Nat.reduceLeDiff] <;> rfl) (fun _ => Nat.le_of_ble_eq_true rfl) | exact lm_rp (by simp only [go_sem, reduceIte, Nat.reduceEqDiff, FF, encAdd] <;> rfl) (by simp only [go_sem, reduceIte, Nat.reduceEqDiff, FF, encAdd, Nat.reduceAdd, Nat.reduceSub, Nat.reduceMul, Nat.reduceLeDiff] <;> rfl) (by intro hG; (repeat' apply And.intro) <;> first | rfl | omega | (dsimp only; omega) | (simp; done)))) ?_
    refine st1 rfl (k_call (by simp only [go_sem, reduceIte, Nat.reduceEqDiff, FF, encAdd] <;> rfl) rfl (by simp only [go_sem, reduceIte, Nat.reduceEqDiff, FF, encAdd] <;> rfl) (by intro hG; simp only [go_sem]) (by rfl) (Subs.refl _) (fun hG => add_ok (chartAt words l i) (l.getD i default) (hwf i hi))) ?_
    refine st0 rfl (k_move (by simp only [go_sem, reduceIte, Nat.reduceEqDiff, FF, encAdd] <;> rfl)) ?_
    refine st0 rfl (k_extract (by simp only [go_sem, reduceIte, Nat.reduceEqDiff, FF, encAdd] <;> rfl) (by rfl) (by intro hG; simp only [go_sem]) (by rfl) (by rfl)) ?_
    refine st0 rfl (k_extract (by simp only [go_sem, reduceIte, Nat.reduceEqDiff, FF, encAdd] <;> rfl) (by rfl) (by intro hG; simp only [go_sem]) (by rfl) (by rfl)) ?_
    refine st0 rfl (k_extract (by simp only [go_sem, reduceIte, Nat.reduceEqDiff, FF, encAdd] <;> rfl) (by rfl) (by intro hG; simp only [go_sem]) (by rfl) (by rfl)) ?_
    refine st3 rfl (by simp only [go_sem, reduceIte, Nat.reduceEqDiff, FF, encAdd]) (k_alloc (by simp only [go_sem] <;> rfl) (by rfl) (by simp only [go_sem, reduceIte, Nat.reduceEqDiff, FF, encAdd] <;> rfl)) ?_
    first | refine st2n rfl (k_store_ptr (by simp only [go_sem, reduceIte, Nat.reduceEqDiff, FF, encAdd] <;> rfl) (by simp only [go_sem, reduceIte, Nat.reduceEqDiff, FF, encAdd] <;> rfl) (by simp only [go_sem] <;> rfl) (by rfl) (by rfl) (by rfl) (by simp only [go_sem, reduceIte, Nat.reduceEqDiff, FF, encAdd] <;> rfl) (by simp only [go_sem, reduceIte, Nat.reduceEqDiff, FF, encAdd, Nat.reduceAdd, Nat.reduceSub, Nat.reduceMul, Nat.reduceLeDiff] <;> rfl) (by rfl) (by simp only [go_sem, reduceIte, Nat.reduceEqDiff, FF, encAdd, Nat.reduceAdd, Nat.reduceSub, Nat.reduceMul, Nat.reduceLeDiff] <;> rfl) (Nat.le_of_ble_eq_true rfl)) ?_ | refine st2n rfl (k_store_rp (by simp only [go_sem, reduceIte, Nat.reduceEqDiff, FF, encAdd] <;> rfl) (by simp only [go_sem, reduceIte, Nat.reduceEqDiff, FF, encAdd] <;> rfl) (by simp only [go_sem] <;> rfl) (by rfl) (by rfl) (by rfl) (by simp only [go_sem, reduceIte, Nat.reduceEqDiff, FF, encAdd] <;> rfl) (by simp only [go_sem, reduceIte, Nat.reduceEqDiff, FF, encAdd, Nat.reduceAdd, Nat.reduceSub, Nat.reduceMul, Nat.reduceLeDiff] <;> rfl) (by rfl) (by (repeat' apply And.intro) <;> first | rfl | omega | (dsimp only; omega))) ?_
    refine st0 rfl (k_assign (by simp only [go_sem, reduceIte, Nat.reduceEqDiff, FF, encAdd] <;> rfl)) ?_
    refine st0 rfl (k_assign (by simp only [go_sem, reduceIte, Nat.reduceEqDiff, FF, encAdd] <;> rfl)) ?_
    refine hKK _ _ ?_
    clear hKK KK
    refine awp_rseq (by decide) fun KK hKK => ?_
    refine m_move ?_
    refine m_bin ?_
    refine hKK _ _ ?_
    clear hKK KK
    refine m_cond (fun hc => ?_) (fun hc => ?_)
    · refine awp_rlast (by decide) fun KK hKK => ?_
      refine m_load ?_
      first | refine m_stPtr ?_ | refine m_stRp ?_
      refine hKK _ _ ?_
      clear hKK KK
      first | rw [thenQ_normal] | rw [blockQ_normal, thenQ_normal]
      have FF := And.intro w3 FF
      refine awp_rlast (by decide) fun KK hKK => ?_
      refine m_move ?_
      refine m_bin ?_
      refine m_assign ?_
      refine hKK _ _ ?_
      clear hKK KK
      have hs : chartAt words l (i + 1) = (addF (chartAt words l i) (l.getD i default)).1 := by rw [chartAt_succ words hi', addS, if_pos hc]
      have FF := And.intro hs FF
      try rw [thenQ_normal]
      refine m_next (i + 1) ?_ ?_
      · exact hi'
      · omega
    refine awp_skip ?_
    first | rw [thenQ_normal] | rw [blockQ_normal, thenQ_normal]
    have FF := And.intro w3 FF
    refine awp_rlast (by decide) fun KK hKK => ?_
    refine m_move ?_
    refine m_bin ?_
    refine m_assign ?_
    refine hKK _ _ ?_
    clear hKK KK
    have hs : chartAt words l (i + 1) = chartAt words l i := by rw [chartAt_succ words hi', addS, if_neg (by rw [hc]; decide)]
    have FF := And.intro hs FF
    try rw [thenQ_normal]
    refine m_next (i + 1) ?_ ?_
    · exact hi'
    · omega
  · refine awp_exit ?_
    simp only [thenQ_exit, blockQ_exit, reduceIte, Nat.reduceEqDiff]
    try rw [thenQ_normal]
    have hi' : i = l.length := by simp only [decide_eq_false_iff_not] at hc; omega
    have hb : buildF words l = chartAt words l i := by unfold buildF chartAt; rw [hi', List.take_length]
    rw [hb]
    refine awp_rseq (by decide) fun KK hKK => ?_
    refine m_load ?_
    first | refine m_stPtr ?_ | refine m_stRp ?_
    refine hKK _ _ ?_
    clear hKK KK
    refine awp_ret ⟨[_], ⟨k_load (by simp only [go_sem, reduceIte, Nat.reduceEqDiff, FF] <;> rfl) (by simp only [go_sem] <;> rfl) (by rfl) (by intro hG; simp only [go_sem]) (by exact lm_ptr (by simp only [go_sem, reduceIte, Nat.reduceEqDiff, FF] <;> rfl) (by simp only [go_sem, reduceIte, Nat.reduceEqDiff, FF, Nat.reduceAdd, Nat.reduceSub, Nat.reduceMul, Nat.reduceLeDiff] <;> rfl) (fun _ => Nat.le_of_ble_eq_true rfl)), trivial⟩, ?_⟩
    simp only [go_sem, reduceIte, Nat.reduceEqDiff, FF, tupled]
    exact CV.Sub.refl _
end Go.Am
