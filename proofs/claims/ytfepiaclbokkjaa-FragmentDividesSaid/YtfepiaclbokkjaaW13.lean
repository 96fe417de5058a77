/- Contracts: the gaps of a list of edges. No condition. -/
import Derived.Test.YtfepiaclbokkjaaW12
namespace Go.Am
open Go.Proofs
attribute [local go_sem ↓] ofL_cons ofH_cons upd_apply
attribute [local go_sem] cellsE cellsC cellsP
set_option maxHeartbeats 2000000
set_option linter.unusedSimpArgs false

/-- The marks behind the first i edges of the list, and behind the words below t of the next. -/
def markF (c : Ch) (l : List Int) (i : Nat) (e : Ed) (t q : Nat) : Bool := coveredF c (l.take i) q || (decide (e.frm ≤ (q : Int)) && decide (q < t))

theorem covered_snoc (c : Ch) (l : List Int) {i : Nat} (hi : i < l.length) (q : Nat) : coveredF c (l.take (i + 1)) q = (coveredF c (l.take i) q || covE c q (l.getD i 0)) := by
  unfold coveredF
  rw [getD_lt hi, take_snoc hi, List.any_append, List.any_cons, List.any_nil, Bool.or_false]

theorem mark_step (c : Ch) (l : List Int) (i : Nat) (e : Ed) {F t : Nat} (hF : e.frm = (F : Int)) (ht : F ≤ t) (q : Nat) : upd (fun q => [CV.bool (markF c l i e t q)]) t [CV.bool true] q = [CV.bool (markF c l i e (t + 1) q)] := by
  rw [upd_apply]
  unfold markF
  rw [hF]
  by_cases q1 : q = t
  · subst q1
    simp [ht]
  · have : q < t + 1 ↔ q < t := by omega
    simp [q1, this]

theorem gaps_ok (c : Ch) (h : Ok c) (l : List Int) (hl : l.length ≤ 1000000) : APure Try.prog 17 [.agg (cellsC c), encInts l] (encSpans (gapsF c l)) := by
  obtain ⟨W, hW⟩ : ∃ W : Nat, c.words = (W : Int) := ⟨c.words.toNat, by have := h.words; omega⟩
  have hWt : c.words.toNat = W := by rw [hW]; rfl
  have hW2 : W ≤ 32 := by have := h.words; omega
  have hL := h.len
  have FF : True := trivial
  refine apure_of Try.func17 rfl (by kernel_rfl) (by simp [Try.ntmps17]) ?_
  rw [Try.ntmps17]
  unfold gapsF
  rw [hWt]
  refine awp_rseq (by decide) fun KK hKK => ?_
  refine m_box ?_
  refine m_assign ?_
  refine hKK _ _ ?_
  clear hKK KK
  have FF := And.intro hW FF
  refine awp_rseq (by decide) fun KK hKK => ?_
  refine m_field ?_
  refine m_load ?_
  refine m_make ?_
  refine m_assign ?_
  refine hKK _ _ ?_
  clear hKK KK
  refine awp_seq ?_
  refine awp_rseq (by decide) fun KK hKK => ?_
  refine m_move ?_
  refine m_len ?_
  refine m_move ?_
  refine hKK _ _ ?_
  clear hKK KK
  refine awp_block ?_
  refine m_forH (ι := Nat) (fun i => [(1, .c (encInts l)), (2, .ptr 2 0), (5, .own 14 W), (15, .c (encInts l)), (16, .int l.length), (17, .int i)]) (fun i => [(2, .box 24 ((cellsC c).map .c)), (14, .row 4 1 W (fun q => [.bool (coveredF c (l.take i) q)]))]) (fun i => l.length - i) (fun i => i ≤ l.length) (0) ?_ ?_ ?_
  · exact Nat.zero_le _
  · exact List.forall_mem_cons.2 ⟨objLe_of (by simp only [go_sem, reduceIte, Nat.reduceEqDiff, List.length_append, List.length_cons, List.length_nil, FF]), List.forall_mem_cons.2 ⟨objLe_row (fun q hq => rfl), List.forall_mem_nil _⟩⟩
  intro i hi
  refine awp_rseq (by decide) fun KK hKK => ?_
  refine m_bin ?_
  refine hKK _ _ ?_
  clear hKK KK
  refine awp_seq ?_
  refine m_cond (fun hc => ?_) (fun hc => ?_)
  · simp only [decide_eq_true_eq] at hc
    have hi' : i < l.length := by omega
    have w3 : IntKind.i64.wrap ((i : Int) + 1) = ((i + 1 : Nat) : Int) := wrap_in (by omega)
    have hsn : ∀ q, _ := covered_snoc c l hi'
    obtain ⟨x, hx0⟩ : ∃ x, x = l.getD i 0 := ⟨_, rfl⟩
    rw [← hx0] at hsn
    refine awp_skip ?_
    first | rw [thenQ_normal] | rw [blockQ_normal, thenQ_normal]
    refine awp_seq (awp_block ?_)
    clear hc
    have FF := And.intro hx0.symm FF
    refine awp_rseq (by decide) fun KK hKK => ?_
    refine m_index ?_
    refine m_load ?_
    refine m_assign ?_
    refine hKK _ _ ?_
    clear hKK KK
    refine awp_seq ?_
    refine awp_rseq (by decide) fun KK hKK => ?_
    refine m_move ?_
    refine m_bin ?_
    refine m_move ?_
    refine g_move ?_
    refine g_field ?_
    refine g_load ?_
    refine g_len ?_
    refine g_bin ?_
    refine m_pick ?_
    refine hKK _ _ ?_
    clear hKK KK
    refine m_cond (fun hc => ?_) (fun hc => ?_)
    · have hno : ∀ q, covE c q x = false := fun q => by
        unfold covE
        simp only [Bool.or_eq_true, decide_eq_true_eq] at hc
        rcases hc with hc | hc
        · rw [decide_eq_false (p := 0 ≤ x) (by omega)]; rfl
        · rw [decide_eq_false (p := x < (c.edges.length : Int)) (by omega)]; simp
      refine awp_exit ?_
      simp only [thenQ_exit, blockQ_exit, reduceIte, Nat.reduceEqDiff]
      try rw [thenQ_normal]
      have FF := And.intro w3 FF
      refine awp_rlast (by decide) fun KK hKK => ?_
      refine m_bin ?_
      refine m_move ?_
      refine hKK _ _ ?_
      clear hKK KK
      try rw [thenQ_normal]
      refine m_nextH (i + 1) ?_ ?_ ?_
      · exact hi'
      · omega
      · exact List.forall_mem_cons.2 ⟨objLe_of (by simp only [go_sem, reduceIte, Nat.reduceEqDiff, List.length_append, List.length_cons, List.length_nil, FF]), List.forall_mem_cons.2 ⟨objLe_row (fun q hq => by rw [hsn, hno, Bool.or_false]), List.forall_mem_nil _⟩⟩
    have hx : 0 ≤ x ∧ x < (c.edges.length : Int) := by simp only [Bool.or_eq_false_iff, decide_eq_false_iff_not] at hc; omega
    obtain ⟨e, he⟩ : ∃ e, e = c.edges.getD x.toNat default := ⟨_, rfl⟩
    have hs := h.span e (by rw [he, getD_lt (by omega)]; exact List.getElem_mem _)
    obtain ⟨F, hF⟩ : ∃ F : Nat, e.frm = (F : Int) := ⟨e.frm.toNat, by omega⟩
    obtain ⟨T, hT⟩ : ∃ T : Nat, e.to = (T : Int) := ⟨e.to.toNat, by omega⟩
    clear hc
    refine awp_skip ?_
    first | rw [thenQ_normal] | rw [blockQ_normal, thenQ_normal]
    have FF := And.intro he.symm (And.intro hF FF)
    refine awp_rseq (by decide) fun KK hKK => ?_
    refine m_field ?_
    refine m_load ?_
    refine m_move ?_
    refine m_index ?_
    refine m_field ?_
    refine m_load ?_
    refine m_assign ?_
    refine hKK _ _ ?_
    clear hKK KK
    refine awp_block ?_
    refine m_forH (ι := Nat) (fun t => [(1, .c (encInts l)), (2, .ptr 2 0), (5, .own 14 W), (7, .int x), (8, .int t), (15, .c (encInts l)), (16, .int l.length), (17, .int i)]) (fun t => [(2, .box 24 ((cellsC c).map .c)), (14, .row 4 1 W (fun q => [.bool (markF c l i e t q)]))]) (fun t => T - t) (fun t => F ≤ t ∧ t ≤ T) (F) ?_ ?_ ?_
    · exact ⟨Nat.le_refl _, by omega⟩
    · exact List.forall_mem_cons.2 ⟨objLe_of (by simp only [go_sem, reduceIte, Nat.reduceEqDiff, List.length_append, List.length_cons, List.length_nil, FF]), List.forall_mem_cons.2 ⟨objLe_row (fun q hq => by unfold markF; rw [hF]; by_cases q1 : F ≤ q <;> by_cases q2 : q < F <;> first | omega | simp [q1, q2]), List.forall_mem_nil _⟩⟩
    rintro t ⟨ht1, ht2⟩
    refine awp_seq ?_
    have FF := And.intro he.symm (And.intro hT FF)
    refine awp_rseq (by decide) fun KK hKK => ?_
    refine m_move ?_
    refine m_field ?_
    refine m_load ?_
    refine m_move ?_
    refine m_index ?_
    refine m_field ?_
    refine m_load ?_
    refine m_bin ?_
    refine hKK _ _ ?_
    clear hKK KK
    refine m_cond (fun hc => ?_) (fun hc => ?_)
    · simp only [decide_eq_true_eq] at hc
      have ht' : t < T := by omega
      have w4 : IntKind.i64.wrap ((t : Int) + 1) = ((t + 1 : Nat) : Int) := wrap_in (by omega)
      refine awp_skip ?_
      first | rw [thenQ_normal] | rw [blockQ_normal, thenQ_normal]
      refine awp_seq (awp_block ?_)
      clear hc
      refine awp_rlast (by decide) fun KK hKK => ?_
      refine m_move ?_
      refine m_move ?_
      refine m_index ?_
      first | refine m_stPtr ?_ | refine m_stRp ?_
      refine hKK _ _ ?_
      clear hKK KK
      first | rw [thenQ_normal] | rw [blockQ_normal, thenQ_normal]
      have FF := And.intro w4 FF
      refine awp_rlast (by decide) fun KK hKK => ?_
      refine m_move ?_
      refine m_bin ?_
      refine m_assign ?_
      refine hKK _ _ ?_
      clear hKK KK
      try rw [thenQ_normal]
      refine m_nextH (t + 1) ?_ ?_ ?_
      · exact ⟨by omega, ht'⟩
      · omega
      · exact List.forall_mem_cons.2 ⟨objLe_of (by simp only [go_sem, reduceIte, Nat.reduceEqDiff, List.length_append, List.length_cons, List.length_nil, FF]), List.forall_mem_cons.2 ⟨objLe_row (fun q hq => mark_step c l i e hF ht1 q), List.forall_mem_nil _⟩⟩
    · have ht' : t = T := by simp only [decide_eq_false_iff_not] at hc; omega
      refine awp_exit ?_
      simp only [thenQ_exit, blockQ_exit, reduceIte, Nat.reduceEqDiff]
      try rw [thenQ_normal]
      have FF := And.intro w3 FF
      refine awp_rlast (by decide) fun KK hKK => ?_
      refine m_bin ?_
      refine m_move ?_
      refine hKK _ _ ?_
      clear hKK KK
      try rw [thenQ_normal]
      refine m_nextH (i + 1) ?_ ?_ ?_
      · exact hi'
      · omega
      · exact List.forall_mem_cons.2 ⟨objLe_of (by simp only [go_sem, reduceIte, Nat.reduceEqDiff, List.length_append, List.length_cons, List.length_nil, FF]), List.forall_mem_cons.2 ⟨objLe_row (fun q hq => by rw [hsn]; unfold markF covE; rw [show edgeAt c x = e from he.symm, ht', hT, decide_eq_true (p := 0 ≤ x) hx.1, decide_eq_true (p := x < (c.edges.length : Int)) hx.2]; simp), List.forall_mem_nil _⟩⟩
  have hi' : i = l.length := by simp only [decide_eq_false_iff_not] at hc; omega
  rw [hi', List.take_length]
  generalize hp : coveredF c l = p
  clear hc
  refine awp_exit ?_
  simp only [thenQ_exit, blockQ_exit, reduceIte, Nat.reduceEqDiff]
  try rw [thenQ_normal]
  refine awp_rseq (by decide) fun KK hKK => ?_
  refine m_assign ?_
  refine hKK _ _ ?_
  clear hKK KK
  refine awp_seq ?_
  refine awp_rseq (by decide) fun KK hKK => ?_
  refine m_move ?_
  refine m_len ?_
  refine m_move ?_
  refine hKK _ _ ?_
  clear hKK KK
  refine awp_block ?_
  refine AWp.weak (weak_adopt 9 100 45 2 (fun q => cellsS ((gapsTo p 0).getD q (0, 0))) (by simp only [go_sem, reduceIte, Nat.reduceEqDiff, FF]) (by simp only [go_sem, reduceIte, Nat.reduceEqDiff, FF])) ?_
  refine m_for (ι := Nat) (fun w => [(5, .own 14 W), (9, .own 100 (gapsTo p w).length), (51, .int W), (52, .int w)]) (fun w => [(14, .row 4 1 W (fun q => [.bool (p q)])), (100, .row 45 2 (gapsTo p w).length (fun q => cellsS ((gapsTo p w).getD q (0, 0))))]) (fun w => W - w) (fun w => w ≤ W) (0) ?_ ?_
  · exact Nat.zero_le _
  intro w hw
  refine awp_rseq (by decide) fun KK hKK => ?_
  refine m_bin ?_
  refine hKK _ _ ?_
  clear hKK KK
  refine awp_seq ?_
  refine m_cond (fun hc => ?_) (fun hc => ?_)
  · simp only [decide_eq_true_eq] at hc
    have hw' : w < W := by omega
    have w3 : IntKind.i64.wrap ((w : Int) + 1) = ((w + 1 : Nat) : Int) := wrap_in (by omega)
    have hln := gapsTo_len p w
    have hst : gapsTo p (w + 1) = if p w then gapsTo p w else gapStep (gapsTo p w) w := rfl
    generalize gapsTo p w = O at hln hst ⊢
    refine awp_skip ?_
    first | rw [thenQ_normal] | rw [blockQ_normal, thenQ_normal]
    refine awp_seq (awp_block ?_)
    clear hc
    refine awp_rseq (by decide) fun KK hKK => ?_
    refine m_move ?_
    refine m_assign ?_
    refine hKK _ _ ?_
    clear hKK KK
    refine awp_seq ?_
    refine awp_rseq (by decide) fun KK hKK => ?_
    refine m_move ?_
    refine m_move ?_
    refine m_index ?_
    refine m_load ?_
    refine hKK _ _ ?_
    clear hKK KK
    refine m_cond (fun hc => ?_) (fun hc => ?_)
    · rw [if_pos hc] at hst
      refine awp_exit ?_
      simp only [thenQ_exit, blockQ_exit, reduceIte, Nat.reduceEqDiff]
      try rw [thenQ_normal]
      have FF := And.intro w3 FF
      refine awp_rlast (by decide) fun KK hKK => ?_
      refine m_bin ?_
      refine m_move ?_
      refine hKK _ _ ?_
      clear hKK KK
      have FF := And.intro hst FF
      try rw [thenQ_normal]
      refine m_next (w + 1) ?_ ?_
      · exact hw'
      · omega
    rw [if_neg (by rw [hc]; decide)] at hst
    unfold gapStep at hst
    have w5 : IntKind.i64.wrap ((O.length : Int) - 1) = (O.length : Int) - 1 := wrap_in (by omega)
    have hN : ((O.length : Int) - 1).toNat = O.length - 1 := by omega
    clear hc
    refine awp_skip ?_
    first | rw [thenQ_normal] | rw [blockQ_normal, thenQ_normal]
    refine awp_seq ?_
    refine awp_rseq (by decide) fun KK hKK => ?_
    refine m_move ?_
    refine m_len ?_
    refine m_assign ?_
    refine hKK _ _ ?_
    clear hKK KK
    refine awp_rseq (by decide) fun KK hKK => ?_
    refine st0 rfl (k_move (by simp only [go_sem, reduceIte, Nat.reduceEqDiff, FF, w5, hN, cellsS] <;> rfl)) ?_
    refine st0 rfl (k_bin (by simp only [go_sem, reduceIte, Nat.reduceEqDiff, FF, w5, hN, cellsS] <;> rfl) (by simp only [go_sem, reduceIte, Nat.reduceEqDiff, FF, w5, hN, cellsS] <;> rfl) (by rfl) (by rfl) (by simp only [go_sem, reduceIte, Nat.reduceEqDiff, FF, w5, hN, cellsS] <;> rfl) (by intro hG; simp only [go_sem])) ?_
    refine st0 rfl (k_move (by simp only [go_sem, reduceIte, Nat.reduceEqDiff, FF, w5, hN, cellsS] <;> rfl)) ?_
    refine sg0 rfl rfl (by simp only [go_sem, reduceIte, Nat.reduceEqDiff, FF, w5, hN, cellsS] <;> rfl) (by rfl) (by simp only [go_sem, reduceIte, Nat.reduceEqDiff, FF, w5, hN, cellsS] <;> rfl) (k_move (by simp only [go_sem, reduceIte, Nat.reduceEqDiff, FF, w5, hN, cellsS] <;> rfl)) ?_
    refine sg0 rfl rfl (by simp only [go_sem, reduceIte, Nat.reduceEqDiff, FF, w5, hN, cellsS] <;> rfl) (by rfl) (by simp only [go_sem, reduceIte, Nat.reduceEqDiff, FF, w5, hN, cellsS] <;> rfl) (k_move (by simp only [go_sem, reduceIte, Nat.reduceEqDiff, FF, w5, hN, cellsS] <;> rfl)) ?_
    refine sg0 rfl rfl (by simp only [go_sem, reduceIte, Nat.reduceEqDiff, FF, w5, hN, cellsS] <;> rfl) (by rfl) (by simp only [go_sem, reduceIte, Nat.reduceEqDiff, FF, w5, hN, cellsS] <;> rfl) (k_bin (by simp only [go_sem, reduceIte, Nat.reduceEqDiff, FF, w5, hN, cellsS] <;> rfl) (by simp only [go_sem, reduceIte, Nat.reduceEqDiff, FF, w5, hN, cellsS] <;> rfl) (by rfl) (by rfl) (by simp only [go_sem, reduceIte, Nat.reduceEqDiff, FF, w5, hN, cellsS] <;> rfl) (by intro hG; simp only [go_sem, hG])) ?_
    refine sg1 rfl rfl (by simp only [go_sem, reduceIte, Nat.reduceEqDiff, FF, w5, hN, cellsS] <;> rfl) (by rfl) (by simp only [go_sem, reduceIte, Nat.reduceEqDiff, FF, w5, hN, cellsS] <;> rfl) (k_index (by simp only [go_sem, reduceIte, Nat.reduceEqDiff, FF, w5, hN, cellsS] <;> rfl) (by simp only [go_sem, reduceIte, Nat.reduceEqDiff, FF, w5, hN, cellsS] <;> rfl) (by simp only [go_sem] <;> rfl) (by rfl) (by simp only [go_sem] <;> rfl) (by rfl) (by intro hG; simp only [go_sem, hG]) (by first | exact im_im (by first | (simp only [go_sem, reduceIte, Nat.reduceEqDiff, FF, w5, hN, cellsS, Nat.reduceAdd, Nat.reduceSub, Nat.reduceMul, Nat.reduceLeDiff, Int.reduceToNat] <;> rfl) | rfl) (by intro hG; (repeat' apply And.intro) <;> first | rfl | omega | (simp only [Bool.not_eq_true', Bool.or_eq_false_iff, Bool.and_eq_true, decide_eq_true_eq, decide_eq_false_iff_not, beq_iff_eq] at hG; omega) | (dsimp only; omega) | (simp; done)) | exact im_own (by simp only [go_sem, reduceIte, Nat.reduceEqDiff, FF, w5, hN, cellsS] <;> rfl) (by first | (simp only [go_sem, reduceIte, Nat.reduceEqDiff, FF, w5, hN, cellsS, Nat.reduceAdd, Nat.reduceSub, Nat.reduceMul, Nat.reduceLeDiff, Int.reduceToNat] <;> rfl) | rfl) (by intro hG; (repeat' apply And.intro) <;> first | rfl | omega | (simp only [Bool.not_eq_true', Bool.or_eq_false_iff, Bool.and_eq_true, decide_eq_true_eq, decide_eq_false_iff_not, beq_iff_eq] at hG; omega) | (dsimp only; omega) | (simp; done)) | exact im_osub (by simp only [go_sem, reduceIte, Nat.reduceEqDiff, FF, w5, hN, cellsS] <;> rfl) (by first | (simp only [go_sem, reduceIte, Nat.reduceEqDiff, FF, w5, hN, cellsS, Nat.reduceAdd, Nat.reduceSub, Nat.reduceMul, Nat.reduceLeDiff, Int.reduceToNat] <;> rfl) | rfl) (by intro hG; (repeat' apply And.intro) <;> first | rfl | omega | (simp only [Bool.not_eq_true', Bool.or_eq_false_iff, Bool.and_eq_true, decide_eq_true_eq, decide_eq_false_iff_not, beq_iff_eq] at hG; omega) | (dsimp only; omega) | (simp; done)))) ?_
    refine sg0 rfl rfl (by simp only [go_sem, reduceIte, Nat.reduceEqDiff, FF, w5, hN, cellsS] <;> rfl) (by rfl) (by simp only [go_sem, reduceIte, Nat.reduceEqDiff, FF, w5, hN, cellsS] <;> rfl) (k_field (by simp only [go_sem, reduceIte, Nat.reduceEqDiff, FF, w5, hN, cellsS] <;> rfl) (by simp only [go_sem] <;> rfl) (by rfl) (by rfl) (by simp only [go_sem, reduceIte, Nat.reduceEqDiff, FF, w5, hN, cellsS, Nat.reduceAdd, Nat.reduceSub, Nat.reduceMul, Nat.reduceLeDiff] <;> rfl) (by intro hG; simp only [go_sem, hG])) ?_
    refine sg1 rfl rfl (by simp only [go_sem, reduceIte, Nat.reduceEqDiff, FF, w5, hN, cellsS] <;> rfl) (by rfl) (by simp only [go_sem, reduceIte, Nat.reduceEqDiff, FF, w5, hN, cellsS] <;> rfl) (k_load (by simp only [go_sem, reduceIte, Nat.reduceEqDiff, FF, w5, hN, cellsS] <;> rfl) (by simp only [go_sem] <;> rfl) (by rfl) (by intro hG; simp only [go_sem, hG]) (by first | exact lm_ptr (by simp only [go_sem, reduceIte, Nat.reduceEqDiff, FF, w5, hN, cellsS] <;> rfl) (by simp only [go_sem, reduceIte, Nat.reduceEqDiff, FF, w5, hN, cellsS, Nat.reduceAdd, Nat.reduceSub, Nat.reduceMul, Nat.reduceLeDiff] <;> rfl) (fun _ => Nat.le_of_ble_eq_true rfl) | exact lm_pim (by simp only [go_sem, reduceIte, Nat.reduceEqDiff, FF, w5, hN, cellsS, Nat.reduceAdd, Nat.reduceSub, Nat.reduceMul, Nat.reduceLeDiff] <;> rfl) (fun _ => Nat.le_of_ble_eq_true rfl) | exact lm_rp (by simp only [go_sem, reduceIte, Nat.reduceEqDiff, FF, w5, hN, cellsS] <;> rfl) (by simp only [go_sem, reduceIte, Nat.reduceEqDiff, FF, w5, hN, cellsS, Nat.reduceAdd, Nat.reduceSub, Nat.reduceMul, Nat.reduceLeDiff] <;> rfl) (by intro hG; (repeat' apply And.intro) <;> first | rfl | omega | (simp only [Bool.not_eq_true', Bool.or_eq_false_iff, Bool.and_eq_true, decide_eq_true_eq, decide_eq_false_iff_not, beq_iff_eq] at hG; omega) | (dsimp only; omega) | (simp; done)))) ?_
    refine sg0 rfl rfl (by simp only [go_sem, reduceIte, Nat.reduceEqDiff, FF, w5, hN, cellsS] <;> rfl) (by rfl) (by simp only [go_sem, reduceIte, Nat.reduceEqDiff, FF, w5, hN, cellsS] <;> rfl) (k_move (by simp only [go_sem, reduceIte, Nat.reduceEqDiff, FF, w5, hN, cellsS] <;> rfl)) ?_
    refine sg0 rfl rfl (by simp only [go_sem, reduceIte, Nat.reduceEqDiff, FF, w5, hN, cellsS] <;> rfl) (by rfl) (by simp only [go_sem, reduceIte, Nat.reduceEqDiff, FF, w5, hN, cellsS] <;> rfl) (k_bin (by simp only [go_sem, reduceIte, Nat.reduceEqDiff, FF, w5, hN, cellsS] <;> rfl) (by simp only [go_sem, reduceIte, Nat.reduceEqDiff, FF, w5, hN, cellsS] <;> rfl) (by rfl) (by rfl) (by simp only [go_sem, reduceIte, Nat.reduceEqDiff, FF, w5, hN, cellsS] <;> rfl) (by intro hG; simp only [go_sem, hG])) ?_
    refine st0 rfl (k_pick (by simp only [go_sem, reduceIte, Nat.reduceEqDiff, FF, w5, hN, cellsS] <;> rfl) (by simp only [go_sem, reduceIte, Nat.reduceEqDiff, FF, w5, hN, cellsS] <;> rfl) (by simp only [go_sem, reduceIte, Nat.reduceEqDiff, FF, w5, hN, cellsS] <;> rfl) (by rfl) (by rfl) (by rfl) (by intro hG; first | (simp only [go_sem, reduceIte, Nat.reduceEqDiff, FF, w5, hN, cellsS]; done) | (simp [go_sem]; done) | (simp [go_sem] at hG ⊢ <;> simp [hG] <;> (intros; simp_all))) (by first | (simp only [go_sem, reduceIte, Nat.reduceEqDiff, FF, w5, hN, cellsS] <;> rfl) | rfl)) ?_
    refine hKK _ _ ?_
    clear hKK KK
    refine m_cond (fun hc => ?_) (fun hc => ?_)
    · rw [if_pos hc] at hst
      have hpos : 0 < O.length := by simp only [Bool.and_eq_true, decide_eq_true_eq] at hc; omega
      have w6 : (O.length : Int) - 1 < O.length := by omega
      have FF := And.intro w5 (And.intro hN (And.intro w3 FF))
      refine awp_rseq (by decide) fun KK hKK => ?_
      refine m_move ?_
      refine m_move ?_
      refine m_bin ?_
      refine m_move ?_
      refine m_bin ?_
      refine m_index ?_
      refine m_field ?_
      first | refine m_stPtr ?_ | refine m_stRp ?_
      refine hKK _ _ ?_
      clear hKK KK
      refine awp_exit ?_
      simp only [thenQ_exit, blockQ_exit, reduceIte, Nat.reduceEqDiff]
      try rw [thenQ_normal]
      have FF := And.intro w3 FF
      refine awp_rlast (by decide) fun KK hKK => ?_
      refine m_bin ?_
      refine m_move ?_
      refine hKK _ _ ?_
      clear hKK KK
      try rw [thenQ_normal]
      refine ⟨w + 1, ?_, ?_, (by simp only [List.forall_mem_cons, List.forall_mem_nil, go_sem, reduceIte, Nat.reduceEqDiff, FF, hst, List.length_set]; all_goals ((repeat' apply And.intro) <;> first | trivial | rfl | exact objLe_refl _ | (intro _ _; exact Subs.refl _))), ?_⟩
      · exact hw'
      · omega
      · rw [hst]
        exact List.forall_mem_cons.2 ⟨objLe_of (by simp only [go_sem, reduceIte, Nat.reduceEqDiff, List.length_append, List.length_cons, List.length_nil, FF]), List.forall_mem_cons.2 ⟨set_span O (O.length - 1) _ _ rfl, List.forall_mem_nil _⟩⟩
    · rw [if_neg (by rw [hc]; decide)] at hst
      refine awp_skip ?_
      first | rw [thenQ_normal] | rw [blockQ_normal, thenQ_normal]
      have FF := And.intro w3 FF
      refine awp_rlast (by decide) fun KK hKK => ?_
      refine m_move ?_
      refine m_move ?_
      refine m_move ?_
      refine m_bin ?_
      refine m_build ?_
      refine m_sliceN ?_
      first | refine m_appOwn ?_ | refine m_appEmp ?_
      refine m_assign ?_
      refine hKK _ _ ?_
      clear hKK KK
      first | rw [thenQ_normal] | rw [blockQ_normal, thenQ_normal]
      have FF := And.intro w3 FF
      refine awp_rlast (by decide) fun KK hKK => ?_
      refine m_bin ?_
      refine m_move ?_
      refine hKK _ _ ?_
      clear hKK KK
      try rw [thenQ_normal]
      refine ⟨w + 1, ?_, ?_, (by simp only [List.forall_mem_cons, List.forall_mem_nil, go_sem, reduceIte, Nat.reduceEqDiff, FF, hst, List.length_append, List.length_cons, List.length_nil]; all_goals ((repeat' apply And.intro) <;> first | trivial | rfl | exact objLe_refl _ | (intro _ _; exact Subs.refl _))), ?_⟩
      · exact hw'
      · omega
      · rw [hst]
        exact List.forall_mem_cons.2 ⟨objLe_of (by simp only [go_sem, reduceIte, Nat.reduceEqDiff, List.length_append, List.length_cons, List.length_nil, FF]), List.forall_mem_cons.2 ⟨snoc_row cellsS (0, 0) O ((w : Int), ((w + 1 : Nat) : Int)), List.forall_mem_nil _⟩⟩
  · refine awp_exit ?_
    simp only [thenQ_exit, blockQ_exit, reduceIte, Nat.reduceEqDiff]
    try rw [thenQ_normal]
    have hw' : w = W := by simp only [decide_eq_false_iff_not] at hc; omega
    rw [← hw']
    refine m_frz 100 [(9, .c (encSpans (gapsTo p w)))] [] ?_
    refine awp_rseq (by decide) fun KK hKK => ?_
    refine m_move ?_
    refine m_assign ?_
    refine hKK _ _ ?_
    clear hKK KK
    refine awp_ret ⟨[_], ⟨⟨(by simp only [go_sem, reduceIte, Nat.reduceEqDiff, FF]), (by simp only [go_sem, reduceIte, Nat.reduceEqDiff, FF] <;> rfl)⟩, trivial⟩, ?_⟩
    simp only [go_sem, reduceIte, Nat.reduceEqDiff, FF, tupled]
    exact CV.Sub.refl _
end Go.Am
