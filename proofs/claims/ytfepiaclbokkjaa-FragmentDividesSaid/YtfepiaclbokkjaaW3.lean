/- Contracts: light edges, a new chart, derivations of edges. No condition. -/
import Derived.Test.YtfepiaclbokkjaaW2
import Derived.Test.YtfepiaclbokkjaaSpec
namespace Go.Am
open Go.Proofs
attribute [local go_sem ↓] ofL_cons ofH_cons upd_apply
attribute [local go_sem] cellsD cellsE cellsC
set_option maxHeartbeats 1000000
set_option linter.unusedSimpArgs false

theorem all_drop {α : Type} {l : List α} {i : Nat} (d : α) (p : α → Bool) (h : i < l.length) : (l.drop i).all p = (p (l.getD i d) && (l.drop (i + 1)).all p) := by
  rw [List.drop_eq_getElem_cons h, List.all_cons, getD_lt h]

theorem light_ok (l : List Ed) : APure Try.prog 21 [encEs l, .int 14] (.bool (lightF l 14)) := by
  have FF : True := trivial
  refine apure_of Try.func21 rfl (by kernel_rfl) (by simp [Try.ntmps21]) ?_
  rw [Try.ntmps21]
  refine awp_rseq (by decide) fun KK hKK => ?_
  refine m_assign ?_
  refine hKK _ _ ?_
  clear hKK KK
  refine awp_seq ?_
  refine awp_rseq (by decide) fun KK hKK => ?_
  refine m_move ?_
  refine m_len ?_
  refine m_move ?_
  refine m_bin ?_
  refine hKK _ _ ?_
  clear hKK KK
  refine m_cond (fun hc => ?_) (fun hc => ?_)
  · refine awp_rseq (by decide) fun KK hKK => ?_
    refine m_assign ?_
    refine hKK _ _ ?_
    clear hKK KK
    refine awp_ret ⟨[_], ⟨⟨(by simp only [go_sem, reduceIte, Nat.reduceEqDiff, FF]), (by simp only [go_sem, reduceIte, Nat.reduceEqDiff, FF] <;> rfl)⟩, trivial⟩, ?_⟩
    simp only [go_sem, reduceIte, Nat.reduceEqDiff, FF, tupled]
    exact CV.Sub.of_eq (by simp only [decide_eq_true_eq] at hc; simp [lightF, hc])
  refine awp_skip ?_
  first | rw [thenQ_normal] | rw [blockQ_normal, thenQ_normal]
  simp only [decide_eq_false_iff_not] at hc
  have hl : l.length ≤ 14 := by omega
  have hspec : lightF l 14 = l.all lightE := by simp only [lightF, hc, decide_false, Bool.not_false, Bool.true_and]
  rw [hspec]
  clear hc
  refine awp_seq ?_
  refine awp_rseq (by decide) fun KK hKK => ?_
  refine m_assign ?_
  refine hKK _ _ ?_
  clear hKK KK
  refine awp_block ?_
  refine m_for (ι := Nat) (fun i => [(0, .c (encEs l)), (5, .int i)]) (fun i => []) (fun i => l.length - i) (fun i => i ≤ l.length ∧ (l.drop i).all lightE = l.all lightE) (0) ?_ ?_
  · exact ⟨Nat.zero_le _, rfl⟩
  rintro i ⟨hi, hres⟩
  refine awp_seq ?_
  refine awp_rseq (by decide) fun KK hKK => ?_
  refine m_move ?_
  refine m_move ?_
  refine m_len ?_
  refine m_bin ?_
  refine hKK _ _ ?_
  clear hKK KK
  refine m_cond (fun hc => ?_) (fun hc => ?_)
  · simp only [decide_eq_true_eq] at hc
    have hi' : i < l.length := by omega
    have w3 : IntKind.i64.wrap ((i : Int) + 1) = ((i + 1 : Nat) : Int) := wrap_in (by omega)
    have hstep := all_drop default lightE hi'
    rw [hres] at hstep
    refine awp_skip ?_
    first | rw [thenQ_normal] | rw [blockQ_normal, thenQ_normal]
    refine awp_seq (awp_block ?_)
    refine awp_seq ?_
    clear hc
    refine awp_rseq (by decide) fun KK hKK => ?_
    refine m_move ?_
    refine m_move ?_
    refine m_index ?_
    refine m_field ?_
    refine m_load ?_
    refine m_call (fun hG => nodes_ok _ (l.getD i default).lex 21 (Nat.le_refl _) (by decide) (by decide)) ?_
    refine m_bin ?_
    refine m_move ?_
    refine g_move ?_
    refine g_move ?_
    refine g_index ?_
    refine g_field ?_
    refine g_field ?_
    refine g_load ?_
    refine g_len ?_
    refine g_bin ?_
    refine m_pick ?_
    refine m_move ?_
    refine g_move ?_
    refine g_move ?_
    refine g_index ?_
    refine g_field ?_
    refine g_load ?_
    refine g_len ?_
    refine g_bin ?_
    refine m_pick ?_
    refine hKK _ _ ?_
    clear hKK KK
    refine m_cond (fun hc => ?_) (fun hc => ?_)
    · refine awp_rseq (by decide) fun KK hKK => ?_
      refine m_assign ?_
      refine hKK _ _ ?_
      clear hKK KK
      refine awp_ret ⟨[_], ⟨⟨(by simp only [go_sem, reduceIte, Nat.reduceEqDiff, FF]), (by simp only [go_sem, reduceIte, Nat.reduceEqDiff, FF] <;> rfl)⟩, trivial⟩, ?_⟩
      simp only [go_sem, reduceIte, Nat.reduceEqDiff, FF, tupled]
      refine CV.Sub.of_eq ?_
      have : lightE (l.getD i default) = false := by unfold lightE; rw [hc]; rfl
      rw [hstep, this]
      rfl
    refine awp_skip ?_
    first | rw [thenQ_normal] | rw [blockQ_normal, thenQ_normal]
    have hE : lightE (l.getD i default) = (l.getD i default).fs.all nodeOk := by unfold lightE; rw [hc]; rfl
    have hf : (l.getD i default).fs.length ≤ 20 := by simp only [Bool.or_eq_false_iff, decide_eq_false_iff_not] at hc; omega
    clear hc
    refine awp_rseq (by decide) fun KK hKK => ?_
    refine m_assign ?_
    refine hKK _ _ ?_
    clear hKK KK
    refine awp_block ?_
    refine m_for (ι := Nat) (fun k => [(0, .c (encEs l)), (5, .int i), (6, .int k)]) (fun k => []) (fun k => (l.getD i default).fs.length - k) (fun k => k ≤ (l.getD i default).fs.length ∧ ((l.getD i default).fs.drop k).all nodeOk = (l.getD i default).fs.all nodeOk) (0) ?_ ?_
    · exact ⟨Nat.zero_le _, rfl⟩
    rintro k ⟨hk, hres2⟩
    refine awp_seq ?_
    refine awp_rseq (by decide) fun KK hKK => ?_
    refine m_move ?_
    refine m_move ?_
    refine m_move ?_
    refine m_index ?_
    refine m_field ?_
    refine m_field ?_
    refine m_load ?_
    refine m_len ?_
    refine m_bin ?_
    refine hKK _ _ ?_
    clear hKK KK
    refine m_cond (fun hc => ?_) (fun hc => ?_)
    · simp only [decide_eq_true_eq] at hc
      have hk' : k < (l.getD i default).fs.length := by omega
      have w4 : IntKind.i64.wrap ((k : Int) + 1) = ((k + 1 : Nat) : Int) := wrap_in (by omega)
      have hstep2 := all_drop (0, []) nodeOk hk'
      refine awp_skip ?_
      first | rw [thenQ_normal] | rw [blockQ_normal, thenQ_normal]
      refine awp_seq (awp_block ?_)
      clear hc
      refine awp_rseq (by decide) fun KK hKK => ?_
      refine m_move ?_
      refine m_move ?_
      refine m_index ?_
      refine m_field ?_
      refine m_field ?_
      refine m_load ?_
      refine m_move ?_
      refine m_index ?_
      refine m_field ?_
      refine m_load ?_
      refine m_len ?_
      refine m_bin ?_
      refine hKK _ _ ?_
      clear hKK KK
      refine m_cond (fun hc => ?_) (fun hc => ?_)
      · refine awp_rseq (by decide) fun KK hKK => ?_
        refine m_assign ?_
        refine hKK _ _ ?_
        clear hKK KK
        refine awp_ret ⟨[_], ⟨⟨(by simp only [go_sem, reduceIte, Nat.reduceEqDiff, FF]), (by simp only [go_sem, reduceIte, Nat.reduceEqDiff, FF] <;> rfl)⟩, trivial⟩, ?_⟩
        simp only [go_sem, reduceIte, Nat.reduceEqDiff, FF, tupled]
        refine CV.Sub.of_eq ?_
        have : nodeOk ((l.getD i default).fs.getD k (0, [])) = false := by unfold nodeOk; rw [hc]; rfl
        rw [hstep, hE, ← hres2, hstep2, this]
        rfl
      refine awp_skip ?_
      first | rw [thenQ_normal] | rw [blockQ_normal, thenQ_normal]
      have : nodeOk ((l.getD i default).fs.getD k (0, [])) = true := by unfold nodeOk; rw [hc]; rfl
      have FF := And.intro w4 FF
      refine awp_rlast (by decide) fun KK hKK => ?_
      refine m_move ?_
      refine m_bin ?_
      refine m_assign ?_
      refine hKK _ _ ?_
      clear hKK KK
      try rw [thenQ_normal]
      refine m_next (k + 1) ?_ ?_
      · refine ⟨hk', ?_⟩
        rw [← hres2, hstep2, this, Bool.true_and]
      · omega
    · refine awp_exit ?_
      simp only [thenQ_exit, blockQ_exit, reduceIte, Nat.reduceEqDiff]
      try rw [thenQ_normal]
      first | rw [thenQ_normal] | rw [blockQ_normal, thenQ_normal]
      have FF := And.intro w3 FF
      refine awp_rlast (by decide) fun KK hKK => ?_
      refine m_move ?_
      refine m_bin ?_
      refine m_assign ?_
      refine hKK _ _ ?_
      clear hKK KK
      try rw [thenQ_normal]
      refine m_next (i + 1) ?_ ?_
      · refine ⟨hi', ?_⟩
        have hk' : k = (l.getD i default).fs.length := by simp only [decide_eq_false_iff_not] at hc; omega
        rw [hstep, hE, ← hres2, hk', List.drop_length, List.all_nil, Bool.true_and]
      · omega
  · refine awp_exit ?_
    simp only [thenQ_exit, blockQ_exit, reduceIte, Nat.reduceEqDiff]
    try rw [thenQ_normal]
    refine awp_rseq (by decide) fun KK hKK => ?_
    refine m_assign ?_
    refine hKK _ _ ?_
    clear hKK KK
    refine awp_ret ⟨[_], ⟨⟨(by simp only [go_sem, reduceIte, Nat.reduceEqDiff, FF]), (by simp only [go_sem, reduceIte, Nat.reduceEqDiff, FF] <;> rfl)⟩, trivial⟩, ?_⟩
    simp only [go_sem, reduceIte, Nat.reduceEqDiff, FF, tupled]
    refine CV.Sub.of_eq ?_
    have hk' : i = l.length := by simp only [decide_eq_false_iff_not] at hc; omega
    rw [← hres, hk', List.drop_length, List.all_nil]

theorem new_ok (words : Int) : APure Try.prog 30 [.int words] (.tup [.agg (cellsC (newF words).1), .int (newF words).2]) := by
  have FF : True := trivial
  refine apure_of Try.func30 rfl (by kernel_rfl) (by simp [Try.ntmps30]) ?_
  rw [Try.ntmps30]
  refine awp_rseq (by decide) fun KK hKK => ?_
  refine m_alloc ?_
  refine m_assign ?_
  refine hKK _ _ ?_
  clear hKK KK
  refine awp_seq ?_
  refine awp_rseq (by decide) fun KK hKK => ?_
  refine m_move ?_
  refine m_bin ?_
  refine m_move ?_
  refine g_move ?_
  refine g_bin ?_
  refine m_pick ?_
  refine hKK _ _ ?_
  clear hKK KK
  refine m_cond (fun hc => ?_) (fun hc => ?_)
  · refine awp_rseq (by decide) fun KK hKK => ?_
    refine m_build ?_
    first | refine m_stPtr ?_ | refine m_stRp ?_
    refine m_assign ?_
    refine hKK _ _ ?_
    clear hKK KK
    refine awp_ret ⟨[_, _], ⟨k_load (by simp only [go_sem, reduceIte, Nat.reduceEqDiff, FF] <;> rfl) (by simp only [go_sem] <;> rfl) (by rfl) (by intro hG; simp only [go_sem]) (by exact lm_ptr (by simp only [go_sem, reduceIte, Nat.reduceEqDiff, FF] <;> rfl) (by simp only [go_sem, reduceIte, Nat.reduceEqDiff, FF, Nat.reduceAdd, Nat.reduceSub, Nat.reduceMul, Nat.reduceLeDiff] <;> rfl) (fun _ => Nat.le_of_ble_eq_true rfl)), ⟨(by simp only [go_sem, reduceIte, Nat.reduceEqDiff, FF]), (by simp only [go_sem, reduceIte, Nat.reduceEqDiff, FF] <;> rfl)⟩, trivial⟩, ?_⟩
    simp only [go_sem, reduceIte, Nat.reduceEqDiff, FF, tupled]
    rw [show newF words = (⟨0, []⟩, 2) by unfold newF; rw [if_pos hc]]
    exact sub_tup ⟨sub_agg ⟨CV.Sub.refl _, CV.Sub.im0 rfl rfl, trivial⟩, CV.Sub.refl _, trivial⟩
  refine awp_skip ?_
  first | rw [thenQ_normal] | rw [blockQ_normal, thenQ_normal]
  refine awp_rseq (by decide) fun KK hKK => ?_
  refine m_move ?_
  refine m_build ?_
  first | refine m_stPtr ?_ | refine m_stRp ?_
  refine m_assign ?_
  refine hKK _ _ ?_
  clear hKK KK
  refine awp_ret ⟨[_, _], ⟨k_load (by simp only [go_sem, reduceIte, Nat.reduceEqDiff, FF] <;> rfl) (by simp only [go_sem] <;> rfl) (by rfl) (by intro hG; simp only [go_sem]) (by exact lm_ptr (by simp only [go_sem, reduceIte, Nat.reduceEqDiff, FF] <;> rfl) (by simp only [go_sem, reduceIte, Nat.reduceEqDiff, FF, Nat.reduceAdd, Nat.reduceSub, Nat.reduceMul, Nat.reduceLeDiff] <;> rfl) (fun _ => Nat.le_of_ble_eq_true rfl)), ⟨(by simp only [go_sem, reduceIte, Nat.reduceEqDiff, FF]), (by simp only [go_sem, reduceIte, Nat.reduceEqDiff, FF] <;> rfl)⟩, trivial⟩, ?_⟩
  simp only [go_sem, reduceIte, Nat.reduceEqDiff, FF, tupled]
  rw [show newF words = (⟨words, []⟩, 0) by unfold newF; rw [if_neg (by rw [hc]; decide)]]
  exact sub_tup ⟨sub_agg ⟨CV.Sub.refl _, CV.Sub.im0 rfl rfl, trivial⟩, CV.Sub.refl _, trivial⟩

theorem derivation_ok (c : Ch) (hF : Founded c) : ∀ (N : Nat) (e : Ed), N ≤ c.edges.length → kidsIn N e → APure Try.prog 35 [.agg (cellsC c), .agg (cellsE e)] (.agg (cellsD (derE c N e))) := by
  intro N
  induction N using Nat.strongRecOn with
  | _ N ih =>
  intro e hN hk
  have FF : True := trivial
  refine apure_of Try.func35 rfl (by kernel_rfl) (by simp [Try.ntmps35]) ?_
  rw [Try.ntmps35]
  refine awp_rseq (by decide) fun KK hKK => ?_
  refine m_box ?_
  refine m_box ?_
  refine m_alloc ?_
  refine hKK _ _ ?_
  clear hKK KK
  refine awp_seq ?_
  refine awp_rseq (by decide) fun KK hKK => ?_
  refine m_field ?_
  refine m_load ?_
  refine m_bin ?_
  refine hKK _ _ ?_
  clear hKK KK
  refine m_cond (fun hc => ?_) (fun hc => ?_)
  · refine awp_rseq (by decide) fun KK hKK => ?_
    refine m_field ?_
    refine m_load ?_
    first | refine m_stPtr ?_ | refine m_stRp ?_
    refine hKK _ _ ?_
    clear hKK KK
    refine awp_ret ⟨[_], ⟨k_load (by simp only [go_sem, reduceIte, Nat.reduceEqDiff, FF] <;> rfl) (by simp only [go_sem] <;> rfl) (by rfl) (by intro hG; simp only [go_sem]) (by exact lm_ptr (by simp only [go_sem, reduceIte, Nat.reduceEqDiff, FF] <;> rfl) (by simp only [go_sem, reduceIte, Nat.reduceEqDiff, FF, Nat.reduceAdd, Nat.reduceSub, Nat.reduceMul, Nat.reduceLeDiff] <;> rfl) (fun _ => Nat.le_of_ble_eq_true rfl)), trivial⟩, ?_⟩
    simp only [go_sem, reduceIte, Nat.reduceEqDiff, FF, tupled]
    rw [derE_lex c N e hc]
    exact CV.Sub.refl _
  refine awp_skip ?_
  first | rw [thenQ_normal] | rw [blockQ_normal, thenQ_normal]
  rw [derE_eq c N e hc hk]
  obtain ⟨K, hK0⟩ : ∃ K, K = e.kids.map fun k => derE c (N - 1) (edgeAt c k) := ⟨_, rfl⟩
  rw [← hK0]
  have hKl : K.length = e.kids.length := by rw [hK0, List.length_map]
  have hl1 := hk.1
  clear hc
  refine awp_rseq (by decide) fun KK hKK => ?_
  refine m_field ?_
  refine m_load ?_
  refine m_field ?_
  refine m_load ?_
  refine m_field ?_
  refine m_load ?_
  refine m_build ?_
  refine m_alloc ?_
  first | refine m_stPtr ?_ | refine m_stRp ?_
  refine hKK _ _ ?_
  clear hKK KK
  refine awp_seq ?_
  refine awp_rseq (by decide) fun KK hKK => ?_
  refine m_assign ?_
  refine hKK _ _ ?_
  clear hKK KK
  refine awp_block ?_
  refine AWp.weak (weak_adoptB 5 4 100 _ _ 38 5 (fun q => (encDs (K.take 0)).getD q []) (by simp only [go_sem, reduceIte, Nat.reduceEqDiff, FF] <;> rfl) (by rfl) (by simp only [go_sem, reduceIte, Nat.reduceEqDiff, FF])) ?_
  refine m_for (ι := Nat) (fun i => [(2, .ptr 2 0), (3, .ptr 3 0), (4, .ptr 4 0), (5, .ptr 5 0), (6, .int i)]) (fun i => [(2, .box 24 ((cellsC c).map .c)), (3, .box 43 ((cellsE e).map .c)), (4, .box 38 [.int 0, .str ⟨#[]⟩, .int 0, .int 0, .emp]), (5, .box 38 [.int 2, .str e.name, .int e.frm, .int e.to, .own 100 (K.take i).length]), (100, .row 38 5 (K.take i).length (fun q => (encDs (K.take i)).getD q []))]) (fun i => e.kids.length - i) (fun i => i ≤ e.kids.length) (0) ?_ ?_
  · exact Nat.zero_le _
  intro i hi
  refine awp_seq ?_
  refine awp_rseq (by decide) fun KK hKK => ?_
  refine m_move ?_
  refine m_field ?_
  refine m_load ?_
  refine m_len ?_
  refine m_bin ?_
  refine hKK _ _ ?_
  clear hKK KK
  refine m_cond (fun hc => ?_) (fun hc => ?_)
  · simp only [decide_eq_true_eq] at hc
    have hi' : i < e.kids.length := by omega
    have w3 : IntKind.i64.wrap ((i : Int) + 1) = ((i + 1 : Nat) : Int) := wrap_in (by omega)
    have hkk := hk.2 (e.kids.getD i 0) (by rw [getD_lt hi']; exact List.getElem_mem hi')
    have hkn : (e.kids.getD i 0).toNat < c.edges.length := by omega
    have hlen : (K.take i).length = i := by rw [List.length_take]; omega
    have hf := (hF.2 _ hkn).mono (N := N - 1) (by omega)
    refine awp_skip ?_
    first | rw [thenQ_normal] | rw [blockQ_normal, thenQ_normal]
    refine awp_seq (awp_block ?_)
    clear hc
    refine awp_rlast_draw Try.mixed (by decide) (by kernel_rfl) fun KK hKK => ?_
    refine m_field ?_
    refine m_load ?_
    refine m_load ?_
    refine m_field ?_
    refine m_load ?_
    refine m_field ?_
    refine m_load ?_
    refine m_move ?_
    refine m_index ?_
    refine m_load ?_
    refine m_index ?_
    refine m_load ?_
    refine m_call (fun hG => ih (N - 1) (by omega) (edgeAt c (e.kids.getD i 0)) (by omega) hf) ?_
    refine m_sliceN ?_
    first | refine m_appOwn ?_ | refine m_appEmp ?_
    refine m_field ?_
    first | refine m_stPtr ?_ | refine m_stRp ?_
    refine hKK _ _ ?_
    clear hKK KK
    first | rw [thenQ_normal] | rw [blockQ_normal, thenQ_normal]
    have FF := And.intro w3 FF
    refine awp_rlast (by decide) fun KK hKK => ?_
    refine m_move ?_
    refine m_bin ?_
    refine m_assign ?_
    refine hKK _ _ ?_
    clear hKK KK
    have hKi : K.take (i + 1) = K.take i ++ [derE c (N - 1) (edgeAt c (e.kids.getD i 0))] := by
      rw [take_snoc (by rw [hKl]; exact hi')]
      congr 2
      simp only [hK0, List.getElem_map, getD_lt hi']
    try rw [thenQ_normal]
    refine ⟨i + 1, ?_, ?_, (by simp only [List.forall_mem_cons, List.forall_mem_nil, go_sem, reduceIte, Nat.reduceEqDiff, FF, hKi, List.length_append, List.length_cons, List.length_nil]; all_goals ((repeat' apply And.intro) <;> first | trivial | rfl | exact objLe_refl _ | (intro _ _; exact Subs.refl _))), ?_⟩
    · exact hi'
    · omega
    · rw [hKi]
      exact List.forall_mem_cons.2 ⟨objLe_refl _, List.forall_mem_cons.2 ⟨objLe_refl _, List.forall_mem_cons.2 ⟨objLe_refl _, List.forall_mem_cons.2 ⟨objLe_of (by simp only [go_sem, reduceIte, Nat.reduceEqDiff, List.length_append, List.length_cons, List.length_nil, FF]), List.forall_mem_cons.2 ⟨snocD_row (K.take i) (derE c (N - 1) (edgeAt c (e.kids.getD i 0))), List.forall_mem_nil _⟩⟩⟩⟩⟩
  · refine awp_exit ?_
    simp only [thenQ_exit, blockQ_exit, reduceIte, Nat.reduceEqDiff]
    try rw [thenQ_normal]
    have hi' : i = e.kids.length := by simp only [decide_eq_false_iff_not] at hc; omega
    have hKt : K.take i = K := by rw [hi', ← hKl, List.take_length]
    rw [hKt]
    refine m_frz 100 [(4, .ptr 4 0), (5, .ptr 5 0)] [(4, .box 38 [.int 0, .str ⟨#[]⟩, .int 0, .int 0, .emp]), (5, .box 38 [.int 2, .str e.name, .int e.frm, .int e.to, .c (encKids K)])] ?_
    refine awp_rseq (by decide) fun KK hKK => ?_
    refine m_load ?_
    first | refine m_stPtr ?_ | refine m_stRp ?_
    refine hKK _ _ ?_
    clear hKK KK
    refine awp_ret ⟨[_], ⟨k_load (by simp only [go_sem, reduceIte, Nat.reduceEqDiff, FF] <;> rfl) (by simp only [go_sem] <;> rfl) (by rfl) (by intro hG; simp only [go_sem]) (by exact lm_ptr (by simp only [go_sem, reduceIte, Nat.reduceEqDiff, FF] <;> rfl) (by simp only [go_sem, reduceIte, Nat.reduceEqDiff, FF, Nat.reduceAdd, Nat.reduceSub, Nat.reduceMul, Nat.reduceLeDiff] <;> rfl) (fun _ => Nat.le_of_ble_eq_true rfl)), trivial⟩, ?_⟩
    simp only [go_sem, reduceIte, Nat.reduceEqDiff, FF, tupled]
    exact CV.Sub.refl _

theorem okD_derE (c : Ch) (hF : Founded c) (ho : ∀ e ∈ c.edges, okD e.lex) : ∀ (N : Nat) (e : Ed), N ≤ c.edges.length → kidsIn N e → okD e.lex → okD (derE c N e) := by
  intro N
  induction N using Nat.strongRecOn with
  | _ N ih =>
  intro e hN hk he
  by_cases hc : (e.kind == 1) = true
  · rw [derE_lex c N e hc]; exact he
  · rw [derE_eq c N e (by simpa using hc) hk]
    refine ⟨by rw [List.length_map]; exact hk.1, okDs_of fun d hd => ?_⟩
    rw [List.mem_map] at hd
    obtain ⟨k, hkm, rfl⟩ := hd
    have hkk := hk.2 k hkm
    have hkn : k.toNat < c.edges.length := by omega
    refine ih (N - 1) (by omega) _ (by omega) ((hF.2 _ hkn).mono (by omega)) (ho _ ?_)
    unfold edgeAt
    rw [getD_lt hkn]
    exact List.getElem_mem hkn

theorem deriv_ok (c : Ch) (hF : Founded c) (n : Int) : APure Try.prog 33 [.agg (cellsC c), .int n] (.agg (cellsD (derN c n))) := by
  have FF : True := trivial
  refine apure_of Try.func33 rfl (by kernel_rfl) (by simp [Try.ntmps33]) ?_
  rw [Try.ntmps33]
  refine awp_rseq (by decide) fun KK hKK => ?_
  refine m_box ?_
  refine m_alloc ?_
  refine hKK _ _ ?_
  clear hKK KK
  refine awp_seq ?_
  refine awp_rseq (by decide) fun KK hKK => ?_
  refine m_move ?_
  refine m_bin ?_
  refine m_move ?_
  refine g_move ?_
  refine g_field ?_
  refine g_load ?_
  refine g_len ?_
  refine g_bin ?_
  refine m_pick ?_
  refine hKK _ _ ?_
  clear hKK KK
  refine m_cond (fun hc => ?_) (fun hc => ?_)
  · refine awp_rseq (by decide) fun KK hKK => ?_
    refine m_build ?_
    first | refine m_stPtr ?_ | refine m_stRp ?_
    refine hKK _ _ ?_
    clear hKK KK
    refine awp_ret ⟨[_], ⟨k_load (by simp only [go_sem, reduceIte, Nat.reduceEqDiff, FF] <;> rfl) (by simp only [go_sem] <;> rfl) (by rfl) (by intro hG; simp only [go_sem]) (by exact lm_ptr (by simp only [go_sem, reduceIte, Nat.reduceEqDiff, FF] <;> rfl) (by simp only [go_sem, reduceIte, Nat.reduceEqDiff, FF, Nat.reduceAdd, Nat.reduceSub, Nat.reduceMul, Nat.reduceLeDiff] <;> rfl) (fun _ => Nat.le_of_ble_eq_true rfl)), trivial⟩, ?_⟩
    simp only [go_sem, reduceIte, Nat.reduceEqDiff, FF, tupled]
    rw [show derN c n = .mk 0 ⟨#[]⟩ 0 0 [] by unfold derN; rw [if_pos hc]]
    exact sub_agg ⟨CV.Sub.refl _, CV.Sub.refl _, CV.Sub.refl _, CV.Sub.refl _, CV.Sub.im0 rfl rfl, trivial⟩
  refine awp_skip ?_
  first | rw [thenQ_normal] | rw [blockQ_normal, thenQ_normal]
  have hs : derN c n = derE c c.edges.length (edgeAt c n) := by unfold derN; rw [if_neg (by rw [hc]; decide)]
  have hn : 0 ≤ n ∧ n < (c.edges.length : Int) := by simp only [Bool.or_eq_false_iff, decide_eq_false_iff_not] at hc; omega
  rw [hs]
  clear hc
  refine awp_rseq_draw Try.mixed (by decide) (by kernel_rfl) fun KK hKK => ?_
  refine m_load ?_
  refine m_field ?_
  refine m_load ?_
  refine m_move ?_
  refine m_index ?_
  refine m_load ?_
  refine m_call (fun hG => derivation_ok c hF c.edges.length (edgeAt c n) (Nat.le_refl _) ((hF.2 n.toNat (by omega)).mono (by omega))) ?_
  first | refine m_stPtr ?_ | refine m_stRp ?_
  refine hKK _ _ ?_
  clear hKK KK
  refine awp_ret ⟨[_], ⟨k_load (by simp only [go_sem, reduceIte, Nat.reduceEqDiff, FF] <;> rfl) (by simp only [go_sem] <;> rfl) (by rfl) (by intro hG; simp only [go_sem]) (by exact lm_ptr (by simp only [go_sem, reduceIte, Nat.reduceEqDiff, FF] <;> rfl) (by simp only [go_sem, reduceIte, Nat.reduceEqDiff, FF, Nat.reduceAdd, Nat.reduceSub, Nat.reduceMul, Nat.reduceLeDiff] <;> rfl) (fun _ => Nat.le_of_ble_eq_true rfl)), trivial⟩, ?_⟩
  simp only [go_sem, reduceIte, Nat.reduceEqDiff, FF, tupled]
  exact CV.Sub.refl _
end Go.Am
