/- Contracts: lexical derivations, the order of derivations. No condition. -/
import Derived.Test.YtfepiaclbokkjaaW1
namespace Go.Am
open Go.Proofs
attribute [local go_sem ↓] ofL_cons ofH_cons upd_apply
attribute [local go_sem] cellsD
set_option maxHeartbeats 1000000
set_option linter.unusedSimpArgs false

theorem encDs_one (x : Dv) : (encDs [x]).getD 0 [] = cellsD x := by rw [← encD_eq]; rfl
theorem lexicalD_entry (d : Dv) (h : (d.kind == 0) = true) : lexicalD d = ((d.kids.length : Int) == 0) := by
  obtain ⟨k, n, f, t, ks⟩ := d
  have h : (k == 0) = true := h
  show lexicalD (.mk k n f t ks) = _
  rw [lexicalD, if_pos h]
  cases ks <;> rfl
theorem lexicalD_one (d x : Dv) (h : (d.kind == 0) = false) (hk : d.kids = [x]) : lexicalD d = (d.kind == 1 && ((1 : Nat) : Int) == 1 && x.frm == d.frm && x.to == d.to && lexicalD x) := by
  obtain ⟨k, n, f, t, ks⟩ := d
  have h' : (k == 0) = false := h
  have hk : ks = [x] := hk
  subst hk
  show lexicalD (.mk k n f t [x]) = _
  rw [lexicalD, if_neg (by rw [h']; simp), lexicalL]
  show _ = (k == 1 && ((1 : Nat) : Int) == 1 && x.frm == f && x.to == t && lexicalD x)
  simp [Bool.and_assoc]
theorem lexicalD_no (d : Dv) (h : (d.kind == 0) = false) (hk : d.kids.length ≠ 1) : lexicalD d = false := by
  obtain ⟨k, n, f, t, ks⟩ := d
  have h : (k == 0) = false := h
  have hk : ks.length ≠ 1 := hk
  show lexicalD (.mk k n f t ks) = _
  rw [lexicalD, if_neg (by simp [h])]
  match ks, hk with
  | [], _ => simp [lexicalL]
  | [_], hk => simp at hk
  | _ :: _ :: _, _ => simp [lexicalL]

theorem lexical_ok : ∀ (N : Nat) (d : Dv), d.size ≤ N → APure Try.prog 37 [.agg (cellsD d)] (.bool (lexicalD d)) := by
  intro N
  induction N with
  | zero => intro d; cases d; simp [Dv.size]
  | succ N ih =>
  intro d hN
  have FF : True := trivial
  refine apure_of Try.func37 rfl (by kernel_rfl) (by simp [Try.ntmps37]) ?_
  rw [Try.ntmps37]
  refine awp_rseq (by decide) fun KK hKK => ?_
  refine m_box ?_
  refine m_assign ?_
  refine hKK _ _ ?_
  clear hKK KK
  refine awp_seq ?_
  refine awp_rseq (by decide) fun KK hKK => ?_
  refine m_field ?_
  refine m_load ?_
  refine m_bin ?_
  refine hKK _ _ ?_
  clear hKK KK
  refine m_cond (fun hc => ?_) (fun hc => ?_)
  · refine awp_rseq (by decide) fun KK hKK => ?_
    refine m_field ?_
    refine m_load ?_
    refine m_len ?_
    refine m_bin ?_
    refine m_assign ?_
    refine hKK _ _ ?_
    clear hKK KK
    refine awp_ret ⟨[_], ⟨⟨(by simp only [go_sem, reduceIte, Nat.reduceEqDiff, FF]), (by simp only [go_sem, reduceIte, Nat.reduceEqDiff, FF] <;> rfl)⟩, trivial⟩, ?_⟩
    simp only [go_sem, reduceIte, Nat.reduceEqDiff, FF, tupled]
    exact CV.Sub.of_eq (by rw [lexicalD_entry d hc])
  · refine awp_skip ?_
    first | rw [thenQ_normal] | rw [blockQ_normal, thenQ_normal]
    by_cases hl : d.kids.length = 1
    · obtain ⟨x, hk⟩ : ∃ x, d.kids = [x] := by
        match h : d.kids, hl with
        | [x], _ => exact ⟨x, rfl⟩
      have hx : x.size ≤ N := by
        have := kids_sizeD d 0 (by rw [hl]; decide)
        rw [hk] at this
        simp only [List.getD_cons_zero] at this
        omega
      refine awp_rseq_draw Try.mixed (by decide) (by kernel_rfl) fun KK hKK => ?_
      refine st0 rfl (k_field (by simp only [go_sem, reduceIte, Nat.reduceEqDiff, FF, hk, encDs_one] <;> rfl) (by simp only [go_sem] <;> rfl) (by rfl) (by rfl) (by simp only [go_sem, reduceIte, Nat.reduceEqDiff, FF, hk, encDs_one, Nat.reduceAdd, Nat.reduceSub, Nat.reduceMul, Nat.reduceLeDiff] <;> rfl) (by intro hG; simp only [go_sem])) ?_
      refine st1 rfl (k_load (by simp only [go_sem, reduceIte, Nat.reduceEqDiff, FF, hk, encDs_one] <;> rfl) (by simp only [go_sem] <;> rfl) (by rfl) (by intro hG; simp only [go_sem]) (by first | exact lm_ptr (by simp only [go_sem, reduceIte, Nat.reduceEqDiff, FF, hk, encDs_one] <;> rfl) (by simp only [go_sem, reduceIte, Nat.reduceEqDiff, FF, hk, encDs_one, Nat.reduceAdd, Nat.reduceSub, Nat.reduceMul, Nat.reduceLeDiff] <;> rfl) (fun _ => Nat.le_of_ble_eq_true rfl) | exact lm_pim (by simp only [go_sem, reduceIte, Nat.reduceEqDiff, FF, hk, encDs_one, Nat.reduceAdd, Nat.reduceSub, Nat.reduceMul, Nat.reduceLeDiff] <;> rfl) (fun _ => Nat.le_of_ble_eq_true rfl) | exact lm_rp (by simp only [go_sem, reduceIte, Nat.reduceEqDiff, FF, hk, encDs_one] <;> rfl) (by simp only [go_sem, reduceIte, Nat.reduceEqDiff, FF, hk, encDs_one, Nat.reduceAdd, Nat.reduceSub, Nat.reduceMul, Nat.reduceLeDiff] <;> rfl) (by intro hG; (repeat' apply And.intro) <;> first | rfl | omega | (dsimp only; omega) | (simp; done)))) ?_
      refine st0 rfl (k_bin (by simp only [go_sem, reduceIte, Nat.reduceEqDiff, FF, hk, encDs_one] <;> rfl) (by simp only [go_sem, reduceIte, Nat.reduceEqDiff, FF, hk, encDs_one] <;> rfl) (by rfl) (by rfl) (by simp only [go_sem, reduceIte, Nat.reduceEqDiff, FF, hk, encDs_one] <;> rfl) (by intro hG; simp only [go_sem])) ?_
      refine st0 rfl (k_move (by simp only [go_sem, reduceIte, Nat.reduceEqDiff, FF, hk, encDs_one] <;> rfl)) ?_
      refine sg0 rfl rfl (by simp only [go_sem, reduceIte, Nat.reduceEqDiff, FF, hk, encDs_one] <;> rfl) (by rfl) (by simp only [go_sem, reduceIte, Nat.reduceEqDiff, FF, hk, encDs_one] <;> rfl) (k_field (by simp only [go_sem, reduceIte, Nat.reduceEqDiff, FF, hk, encDs_one] <;> rfl) (by simp only [go_sem] <;> rfl) (by rfl) (by rfl) (by simp only [go_sem, reduceIte, Nat.reduceEqDiff, FF, hk, encDs_one, Nat.reduceAdd, Nat.reduceSub, Nat.reduceMul, Nat.reduceLeDiff] <;> rfl) (by intro hG; simp only [go_sem, hG])) ?_
      refine sg1 rfl rfl (by simp only [go_sem, reduceIte, Nat.reduceEqDiff, FF, hk, encDs_one] <;> rfl) (by rfl) (by simp only [go_sem, reduceIte, Nat.reduceEqDiff, FF, hk, encDs_one] <;> rfl) (k_load (by simp only [go_sem, reduceIte, Nat.reduceEqDiff, FF, hk, encDs_one] <;> rfl) (by simp only [go_sem] <;> rfl) (by rfl) (by intro hG; simp only [go_sem, hG]) (by first | exact lm_ptr (by simp only [go_sem, reduceIte, Nat.reduceEqDiff, FF, hk, encDs_one] <;> rfl) (by simp only [go_sem, reduceIte, Nat.reduceEqDiff, FF, hk, encDs_one, Nat.reduceAdd, Nat.reduceSub, Nat.reduceMul, Nat.reduceLeDiff] <;> rfl) (fun _ => Nat.le_of_ble_eq_true rfl) | exact lm_pim (by simp only [go_sem, reduceIte, Nat.reduceEqDiff, FF, hk, encDs_one, Nat.reduceAdd, Nat.reduceSub, Nat.reduceMul, Nat.reduceLeDiff] <;> rfl) (fun _ => Nat.le_of_ble_eq_true rfl) | exact lm_rp (by simp only [go_sem, reduceIte, Nat.reduceEqDiff, FF, hk, encDs_one] <;> rfl) (by simp only [go_sem, reduceIte, Nat.reduceEqDiff, FF, hk, encDs_one, Nat.reduceAdd, Nat.reduceSub, Nat.reduceMul, Nat.reduceLeDiff] <;> rfl) (by intro hG; (repeat' apply And.intro) <;> first | rfl | omega | (simp only [Bool.not_eq_true', Bool.or_eq_false_iff, Bool.and_eq_true, decide_eq_true_eq, decide_eq_false_iff_not, beq_iff_eq] at hG; omega) | (dsimp only; omega) | (simp; done)))) ?_
      refine sg1 rfl rfl (by simp only [go_sem, reduceIte, Nat.reduceEqDiff, FF, hk, encDs_one] <;> rfl) (by rfl) (by simp only [go_sem, reduceIte, Nat.reduceEqDiff, FF, hk, encDs_one] <;> rfl) (k_len (by simp only [go_sem, reduceIte, Nat.reduceEqDiff, FF, hk, encDs_one] <;> rfl) (by intro hG; simp only [go_sem, hG]) (by first | exact nm_im (by simp only [go_sem] <;> rfl) | exact nm_own (by simp only [go_sem] <;> rfl) (by simp only [go_sem, reduceIte, Nat.reduceEqDiff, FF, hk, encDs_one] <;> rfl) (by intro hG; (repeat' apply And.intro) <;> first | rfl | omega | (simp only [Bool.not_eq_true', Bool.or_eq_false_iff, Bool.and_eq_true, decide_eq_true_eq, decide_eq_false_iff_not, beq_iff_eq] at hG; omega) | (dsimp only; omega) | (simp; done)) | exact nm_emp (by simp only [go_sem] <;> rfl) | exact nm_osub (by simp only [go_sem] <;> rfl) (by simp only [go_sem, reduceIte, Nat.reduceEqDiff, FF, hk, encDs_one] <;> rfl) (by intro hG; (repeat' apply And.intro) <;> first | rfl | omega | (simp only [Bool.not_eq_true', Bool.or_eq_false_iff, Bool.and_eq_true, decide_eq_true_eq, decide_eq_false_iff_not, beq_iff_eq] at hG; omega) | (dsimp only; omega) | (simp; done)) | exact nm_str (by simp only [go_sem] <;> rfl))) ?_
      refine sg0 rfl rfl (by simp only [go_sem, reduceIte, Nat.reduceEqDiff, FF, hk, encDs_one] <;> rfl) (by rfl) (by simp only [go_sem, reduceIte, Nat.reduceEqDiff, FF, hk, encDs_one] <;> rfl) (k_bin (by simp only [go_sem, reduceIte, Nat.reduceEqDiff, FF, hk, encDs_one] <;> rfl) (by simp only [go_sem, reduceIte, Nat.reduceEqDiff, FF, hk, encDs_one] <;> rfl) (by rfl) (by rfl) (by simp only [go_sem, reduceIte, Nat.reduceEqDiff, FF, hk, encDs_one] <;> rfl) (by intro hG; simp only [go_sem, hG])) ?_
      refine st0 rfl (k_pick (by simp only [go_sem, reduceIte, Nat.reduceEqDiff, FF, hk, encDs_one] <;> rfl) (by simp only [go_sem, reduceIte, Nat.reduceEqDiff, FF, hk, encDs_one] <;> rfl) (by simp only [go_sem, reduceIte, Nat.reduceEqDiff, FF, hk, encDs_one] <;> rfl) (by rfl) (by rfl) (by rfl) (by intro hG; first | (simp only [go_sem, reduceIte, Nat.reduceEqDiff, FF, hk, encDs_one]; done) | (simp [go_sem]; done) | (simp [go_sem] at hG ⊢ <;> simp [hG] <;> (intros; simp_all))) (by first | (simp only [go_sem, reduceIte, Nat.reduceEqDiff, FF, hk, encDs_one] <;> rfl) | rfl)) ?_
      refine st0 rfl (k_move (by simp only [go_sem, reduceIte, Nat.reduceEqDiff, FF, hk, encDs_one] <;> rfl)) ?_
      refine sg0 rfl rfl (by simp only [go_sem, reduceIte, Nat.reduceEqDiff, FF, hk, encDs_one] <;> rfl) (by rfl) (by simp only [go_sem, reduceIte, Nat.reduceEqDiff, FF, hk, encDs_one] <;> rfl) (k_field (by simp only [go_sem, reduceIte, Nat.reduceEqDiff, FF, hk, encDs_one] <;> rfl) (by simp only [go_sem] <;> rfl) (by rfl) (by rfl) (by simp only [go_sem, reduceIte, Nat.reduceEqDiff, FF, hk, encDs_one, Nat.reduceAdd, Nat.reduceSub, Nat.reduceMul, Nat.reduceLeDiff] <;> rfl) (by intro hG; simp only [go_sem, hG])) ?_
      refine sg1 rfl rfl (by simp only [go_sem, reduceIte, Nat.reduceEqDiff, FF, hk, encDs_one] <;> rfl) (by rfl) (by simp only [go_sem, reduceIte, Nat.reduceEqDiff, FF, hk, encDs_one] <;> rfl) (k_load (by simp only [go_sem, reduceIte, Nat.reduceEqDiff, FF, hk, encDs_one] <;> rfl) (by simp only [go_sem] <;> rfl) (by rfl) (by intro hG; simp only [go_sem, hG]) (by first | exact lm_ptr (by simp only [go_sem, reduceIte, Nat.reduceEqDiff, FF, hk, encDs_one] <;> rfl) (by simp only [go_sem, reduceIte, Nat.reduceEqDiff, FF, hk, encDs_one, Nat.reduceAdd, Nat.reduceSub, Nat.reduceMul, Nat.reduceLeDiff] <;> rfl) (fun _ => Nat.le_of_ble_eq_true rfl) | exact lm_pim (by simp only [go_sem, reduceIte, Nat.reduceEqDiff, FF, hk, encDs_one, Nat.reduceAdd, Nat.reduceSub, Nat.reduceMul, Nat.reduceLeDiff] <;> rfl) (fun _ => Nat.le_of_ble_eq_true rfl) | exact lm_rp (by simp only [go_sem, reduceIte, Nat.reduceEqDiff, FF, hk, encDs_one] <;> rfl) (by simp only [go_sem, reduceIte, Nat.reduceEqDiff, FF, hk, encDs_one, Nat.reduceAdd, Nat.reduceSub, Nat.reduceMul, Nat.reduceLeDiff] <;> rfl) (by intro hG; (repeat' apply And.intro) <;> first | rfl | omega | (simp only [Bool.not_eq_true', Bool.or_eq_false_iff, Bool.and_eq_true, decide_eq_true_eq, decide_eq_false_iff_not, beq_iff_eq] at hG; omega) | (dsimp only; omega) | (simp; done)))) ?_
      refine sg1 rfl rfl (by simp only [go_sem, reduceIte, Nat.reduceEqDiff, FF, hk, encDs_one] <;> rfl) (by rfl) (by simp only [go_sem, reduceIte, Nat.reduceEqDiff, FF, hk, encDs_one] <;> rfl) (k_index (by simp only [go_sem, reduceIte, Nat.reduceEqDiff, FF, hk, encDs_one] <;> rfl) (by simp only [go_sem, reduceIte, Nat.reduceEqDiff, FF, hk, encDs_one] <;> rfl) (by simp only [go_sem] <;> rfl) (by rfl) (by simp only [go_sem] <;> rfl) (by rfl) (by intro hG; simp only [go_sem, hG]) (by first | exact im_im (by first | (simp only [go_sem, reduceIte, Nat.reduceEqDiff, FF, hk, encDs_one, Nat.reduceAdd, Nat.reduceSub, Nat.reduceMul, Nat.reduceLeDiff, Int.reduceToNat] <;> rfl) | rfl) (by intro hG; (repeat' apply And.intro) <;> first | rfl | omega | (simp only [Bool.not_eq_true', Bool.or_eq_false_iff, Bool.and_eq_true, decide_eq_true_eq, decide_eq_false_iff_not, beq_iff_eq] at hG; omega) | (dsimp only; omega) | (simp; done)) | exact im_own (by simp only [go_sem, reduceIte, Nat.reduceEqDiff, FF, hk, encDs_one] <;> rfl) (by first | (simp only [go_sem, reduceIte, Nat.reduceEqDiff, FF, hk, encDs_one, Nat.reduceAdd, Nat.reduceSub, Nat.reduceMul, Nat.reduceLeDiff, Int.reduceToNat] <;> rfl) | rfl) (by intro hG; (repeat' apply And.intro) <;> first | rfl | omega | (simp only [Bool.not_eq_true', Bool.or_eq_false_iff, Bool.and_eq_true, decide_eq_true_eq, decide_eq_false_iff_not, beq_iff_eq] at hG; omega) | (dsimp only; omega) | (simp; done)) | exact im_osub (by simp only [go_sem, reduceIte, Nat.reduceEqDiff, FF, hk, encDs_one] <;> rfl) (by first | (simp only [go_sem, reduceIte, Nat.reduceEqDiff, FF, hk, encDs_one, Nat.reduceAdd, Nat.reduceSub, Nat.reduceMul, Nat.reduceLeDiff, Int.reduceToNat] <;> rfl) | rfl) (by intro hG; (repeat' apply And.intro) <;> first | rfl | omega | (simp only [Bool.not_eq_true', Bool.or_eq_false_iff, Bool.and_eq_true, decide_eq_true_eq, decide_eq_false_iff_not, beq_iff_eq] at hG; omega) | (dsimp only; omega) | (simp; done)))) ?_
      refine sg0 rfl rfl (by simp only [go_sem, reduceIte, Nat.reduceEqDiff, FF, hk, encDs_one] <;> rfl) (by rfl) (by simp only [go_sem, reduceIte, Nat.reduceEqDiff, FF, hk, encDs_one] <;> rfl) (k_field (by simp only [go_sem, reduceIte, Nat.reduceEqDiff, FF, hk, encDs_one] <;> rfl) (by simp only [go_sem] <;> rfl) (by rfl) (by rfl) (by simp only [go_sem, reduceIte, Nat.reduceEqDiff, FF, hk, encDs_one, Nat.reduceAdd, Nat.reduceSub, Nat.reduceMul, Nat.reduceLeDiff] <;> rfl) (by intro hG; simp only [go_sem, hG])) ?_
      refine sg1 rfl rfl (by simp only [go_sem, reduceIte, Nat.reduceEqDiff, FF, hk, encDs_one] <;> rfl) (by rfl) (by simp only [go_sem, reduceIte, Nat.reduceEqDiff, FF, hk, encDs_one] <;> rfl) (k_load (by simp only [go_sem, reduceIte, Nat.reduceEqDiff, FF, hk, encDs_one] <;> rfl) (by simp only [go_sem] <;> rfl) (by rfl) (by intro hG; simp only [go_sem, hG]) (by first | exact lm_ptr (by simp only [go_sem, reduceIte, Nat.reduceEqDiff, FF, hk, encDs_one] <;> rfl) (by simp only [go_sem, reduceIte, Nat.reduceEqDiff, FF, hk, encDs_one, Nat.reduceAdd, Nat.reduceSub, Nat.reduceMul, Nat.reduceLeDiff] <;> rfl) (fun _ => Nat.le_of_ble_eq_true rfl) | exact lm_pim (by simp only [go_sem, reduceIte, Nat.reduceEqDiff, FF, hk, encDs_one, Nat.reduceAdd, Nat.reduceSub, Nat.reduceMul, Nat.reduceLeDiff] <;> rfl) (fun _ => Nat.le_of_ble_eq_true rfl) | exact lm_rp (by simp only [go_sem, reduceIte, Nat.reduceEqDiff, FF, hk, encDs_one] <;> rfl) (by simp only [go_sem, reduceIte, Nat.reduceEqDiff, FF, hk, encDs_one, Nat.reduceAdd, Nat.reduceSub, Nat.reduceMul, Nat.reduceLeDiff] <;> rfl) (by intro hG; (repeat' apply And.intro) <;> first | rfl | omega | (simp only [Bool.not_eq_true', Bool.or_eq_false_iff, Bool.and_eq_true, decide_eq_true_eq, decide_eq_false_iff_not, beq_iff_eq] at hG; omega) | (dsimp only; omega) | (simp; done)))) ?_
      refine sg0 rfl rfl (by simp only [go_sem, reduceIte, Nat.reduceEqDiff, FF, hk, encDs_one] <;> rfl) (by rfl) (by simp only [go_sem, reduceIte, Nat.reduceEqDiff, FF, hk, encDs_one] <;> rfl) (k_field (by simp only [go_sem, reduceIte, Nat.reduceEqDiff, FF, hk, encDs_one] <;> rfl) (by simp only [go_sem] <;> rfl) (by rfl) (by rfl) (by simp only [go_sem, reduceIte, Nat.reduceEqDiff, FF, hk, encDs_one, Nat.reduceAdd, Nat.reduceSub, Nat.reduceMul, Nat.reduceLeDiff] <;> rfl) (by intro hG; simp only [go_sem, hG])) ?_
      refine sg1 rfl rfl (by simp only [go_sem, reduceIte, Nat.reduceEqDiff, FF, hk, encDs_one] <;> rfl) (by rfl) (by simp only [go_sem, reduceIte, Nat.reduceEqDiff, FF, hk, encDs_one] <;> rfl) (k_load (by simp only [go_sem, reduceIte, Nat.reduceEqDiff, FF, hk, encDs_one] <;> rfl) (by simp only [go_sem] <;> rfl) (by rfl) (by intro hG; simp only [go_sem, hG]) (by first | exact lm_ptr (by simp only [go_sem, reduceIte, Nat.reduceEqDiff, FF, hk, encDs_one] <;> rfl) (by simp only [go_sem, reduceIte, Nat.reduceEqDiff, FF, hk, encDs_one, Nat.reduceAdd, Nat.reduceSub, Nat.reduceMul, Nat.reduceLeDiff] <;> rfl) (fun _ => Nat.le_of_ble_eq_true rfl) | exact lm_pim (by simp only [go_sem, reduceIte, Nat.reduceEqDiff, FF, hk, encDs_one, Nat.reduceAdd, Nat.reduceSub, Nat.reduceMul, Nat.reduceLeDiff] <;> rfl) (fun _ => Nat.le_of_ble_eq_true rfl) | exact lm_rp (by simp only [go_sem, reduceIte, Nat.reduceEqDiff, FF, hk, encDs_one] <;> rfl) (by simp only [go_sem, reduceIte, Nat.reduceEqDiff, FF, hk, encDs_one, Nat.reduceAdd, Nat.reduceSub, Nat.reduceMul, Nat.reduceLeDiff] <;> rfl) (by intro hG; (repeat' apply And.intro) <;> first | rfl | omega | (simp only [Bool.not_eq_true', Bool.or_eq_false_iff, Bool.and_eq_true, decide_eq_true_eq, decide_eq_false_iff_not, beq_iff_eq] at hG; omega) | (dsimp only; omega) | (simp; done)))) ?_
      refine sg0 rfl rfl (by simp only [go_sem, reduceIte, Nat.reduceEqDiff, FF, hk, encDs_one] <;> rfl) (by rfl) (by simp only [go_sem, reduceIte, Nat.reduceEqDiff, FF, hk, encDs_one] <;> rfl) (k_bin (by simp only [go_sem, reduceIte, Nat.reduceEqDiff, FF, hk, encDs_one] <;> rfl) (by simp only [go_sem, reduceIte, Nat.reduceEqDiff, FF, hk, encDs_one] <;> rfl) (by rfl) (by rfl) (by simp only [go_sem, reduceIte, Nat.reduceEqDiff, FF, hk, encDs_one] <;> rfl) (by intro hG; simp only [go_sem, hG])) ?_
      refine st0 rfl (k_pick (by simp only [go_sem, reduceIte, Nat.reduceEqDiff, FF, hk, encDs_one] <;> rfl) (by simp only [go_sem, reduceIte, Nat.reduceEqDiff, FF, hk, encDs_one] <;> rfl) (by simp only [go_sem, reduceIte, Nat.reduceEqDiff, FF, hk, encDs_one] <;> rfl) (by rfl) (by rfl) (by rfl) (by intro hG; first | (simp only [go_sem, reduceIte, Nat.reduceEqDiff, FF, hk, encDs_one]; done) | (simp [go_sem]; done) | (simp [go_sem] at hG ⊢ <;> simp [hG] <;> (intros; simp_all))) (by first | (simp only [go_sem, reduceIte, Nat.reduceEqDiff, FF, hk, encDs_one] <;> rfl) | rfl)) ?_
      refine st0 rfl (k_move (by simp only [go_sem, reduceIte, Nat.reduceEqDiff, FF, hk, encDs_one] <;> rfl)) ?_
      refine sg0 rfl rfl (by simp only [go_sem, reduceIte, Nat.reduceEqDiff, FF, hk, encDs_one] <;> rfl) (by rfl) (by simp only [go_sem, reduceIte, Nat.reduceEqDiff, FF, hk, encDs_one] <;> rfl) (k_field (by simp only [go_sem, reduceIte, Nat.reduceEqDiff, FF, hk, encDs_one] <;> rfl) (by simp only [go_sem] <;> rfl) (by rfl) (by rfl) (by simp only [go_sem, reduceIte, Nat.reduceEqDiff, FF, hk, encDs_one, Nat.reduceAdd, Nat.reduceSub, Nat.reduceMul, Nat.reduceLeDiff] <;> rfl) (by intro hG; simp only [go_sem, hG])) ?_
      refine sg1 rfl rfl (by simp only [go_sem, reduceIte, Nat.reduceEqDiff, FF, hk, encDs_one] <;> rfl) (by rfl) (by simp only [go_sem, reduceIte, Nat.reduceEqDiff, FF, hk, encDs_one] <;> rfl) (k_load (by simp only [go_sem, reduceIte, Nat.reduceEqDiff, FF, hk, encDs_one] <;> rfl) (by simp only [go_sem] <;> rfl) (by rfl) (by intro hG; simp only [go_sem, hG]) (by first | exact lm_ptr (by simp only [go_sem, reduceIte, Nat.reduceEqDiff, FF, hk, encDs_one] <;> rfl) (by simp only [go_sem, reduceIte, Nat.reduceEqDiff, FF, hk, encDs_one, Nat.reduceAdd, Nat.reduceSub, Nat.reduceMul, Nat.reduceLeDiff] <;> rfl) (fun _ => Nat.le_of_ble_eq_true rfl) | exact lm_pim (by simp only [go_sem, reduceIte, Nat.reduceEqDiff, FF, hk, encDs_one, Nat.reduceAdd, Nat.reduceSub, Nat.reduceMul, Nat.reduceLeDiff] <;> rfl) (fun _ => Nat.le_of_ble_eq_true rfl) | exact lm_rp (by simp only [go_sem, reduceIte, Nat.reduceEqDiff, FF, hk, encDs_one] <;> rfl) (by simp only [go_sem, reduceIte, Nat.reduceEqDiff, FF, hk, encDs_one, Nat.reduceAdd, Nat.reduceSub, Nat.reduceMul, Nat.reduceLeDiff] <;> rfl) (by intro hG; (repeat' apply And.intro) <;> first | rfl | omega | (simp only [Bool.not_eq_true', Bool.or_eq_false_iff, Bool.and_eq_true, decide_eq_true_eq, decide_eq_false_iff_not, beq_iff_eq] at hG; omega) | (dsimp only; omega) | (simp; done)))) ?_
      refine sg1 rfl rfl (by simp only [go_sem, reduceIte, Nat.reduceEqDiff, FF, hk, encDs_one] <;> rfl) (by rfl) (by simp only [go_sem, reduceIte, Nat.reduceEqDiff, FF, hk, encDs_one] <;> rfl) (k_index (by simp only [go_sem, reduceIte, Nat.reduceEqDiff, FF, hk, encDs_one] <;> rfl) (by simp only [go_sem, reduceIte, Nat.reduceEqDiff, FF, hk, encDs_one] <;> rfl) (by simp only [go_sem] <;> rfl) (by rfl) (by simp only [go_sem] <;> rfl) (by rfl) (by intro hG; simp only [go_sem, hG]) (by first | exact im_im (by first | (simp only [go_sem, reduceIte, Nat.reduceEqDiff, FF, hk, encDs_one, Nat.reduceAdd, Nat.reduceSub, Nat.reduceMul, Nat.reduceLeDiff, Int.reduceToNat] <;> rfl) | rfl) (by intro hG; (repeat' apply And.intro) <;> first | rfl | omega | (simp only [Bool.not_eq_true', Bool.or_eq_false_iff, Bool.and_eq_true, decide_eq_true_eq, decide_eq_false_iff_not, beq_iff_eq] at hG; omega) | (dsimp only; omega) | (simp; done)) | exact im_own (by simp only [go_sem, reduceIte, Nat.reduceEqDiff, FF, hk, encDs_one] <;> rfl) (by first | (simp only [go_sem, reduceIte, Nat.reduceEqDiff, FF, hk, encDs_one, Nat.reduceAdd, Nat.reduceSub, Nat.reduceMul, Nat.reduceLeDiff, Int.reduceToNat] <;> rfl) | rfl) (by intro hG; (repeat' apply And.intro) <;> first | rfl | omega | (simp only [Bool.not_eq_true', Bool.or_eq_false_iff, Bool.and_eq_true, decide_eq_true_eq, decide_eq_false_iff_not, beq_iff_eq] at hG; omega) | (dsimp only; omega) | (simp; done)) | exact im_osub (by simp only [go_sem, reduceIte, Nat.reduceEqDiff, FF, hk, encDs_one] <;> rfl) (by first | (simp only [go_sem, reduceIte, Nat.reduceEqDiff, FF, hk, encDs_one, Nat.reduceAdd, Nat.reduceSub, Nat.reduceMul, Nat.reduceLeDiff, Int.reduceToNat] <;> rfl) | rfl) (by intro hG; (repeat' apply And.intro) <;> first | rfl | omega | (simp only [Bool.not_eq_true', Bool.or_eq_false_iff, Bool.and_eq_true, decide_eq_true_eq, decide_eq_false_iff_not, beq_iff_eq] at hG; omega) | (dsimp only; omega) | (simp; done)))) ?_
      refine sg0 rfl rfl (by simp only [go_sem, reduceIte, Nat.reduceEqDiff, FF, hk, encDs_one] <;> rfl) (by rfl) (by simp only [go_sem, reduceIte, Nat.reduceEqDiff, FF, hk, encDs_one] <;> rfl) (k_field (by simp only [go_sem, reduceIte, Nat.reduceEqDiff, FF, hk, encDs_one] <;> rfl) (by simp only [go_sem] <;> rfl) (by rfl) (by rfl) (by simp only [go_sem, reduceIte, Nat.reduceEqDiff, FF, hk, encDs_one, Nat.reduceAdd, Nat.reduceSub, Nat.reduceMul, Nat.reduceLeDiff] <;> rfl) (by intro hG; simp only [go_sem, hG])) ?_
      refine sg1 rfl rfl (by simp only [go_sem, reduceIte, Nat.reduceEqDiff, FF, hk, encDs_one] <;> rfl) (by rfl) (by simp only [go_sem, reduceIte, Nat.reduceEqDiff, FF, hk, encDs_one] <;> rfl) (k_load (by simp only [go_sem, reduceIte, Nat.reduceEqDiff, FF, hk, encDs_one] <;> rfl) (by simp only [go_sem] <;> rfl) (by rfl) (by intro hG; simp only [go_sem, hG]) (by first | exact lm_ptr (by simp only [go_sem, reduceIte, Nat.reduceEqDiff, FF, hk, encDs_one] <;> rfl) (by simp only [go_sem, reduceIte, Nat.reduceEqDiff, FF, hk, encDs_one, Nat.reduceAdd, Nat.reduceSub, Nat.reduceMul, Nat.reduceLeDiff] <;> rfl) (fun _ => Nat.le_of_ble_eq_true rfl) | exact lm_pim (by simp only [go_sem, reduceIte, Nat.reduceEqDiff, FF, hk, encDs_one, Nat.reduceAdd, Nat.reduceSub, Nat.reduceMul, Nat.reduceLeDiff] <;> rfl) (fun _ => Nat.le_of_ble_eq_true rfl) | exact lm_rp (by simp only [go_sem, reduceIte, Nat.reduceEqDiff, FF, hk, encDs_one] <;> rfl) (by simp only [go_sem, reduceIte, Nat.reduceEqDiff, FF, hk, encDs_one, Nat.reduceAdd, Nat.reduceSub, Nat.reduceMul, Nat.reduceLeDiff] <;> rfl) (by intro hG; (repeat' apply And.intro) <;> first | rfl | omega | (simp only [Bool.not_eq_true', Bool.or_eq_false_iff, Bool.and_eq_true, decide_eq_true_eq, decide_eq_false_iff_not, beq_iff_eq] at hG; omega) | (dsimp only; omega) | (simp; done)))) ?_
      refine sg0 rfl rfl (by simp only [go_sem, reduceIte, Nat.reduceEqDiff, FF, hk, encDs_one] <;> rfl) (by rfl) (by simp only [go_sem, reduceIte, Nat.reduceEqDiff, FF, hk, encDs_one] <;> rfl) (k_field (by simp only [go_sem, reduceIte, Nat.reduceEqDiff, FF, hk, encDs_one] <;> rfl) (by simp only [go_sem] <;> rfl) (by rfl) (by rfl) (by simp only [go_sem, reduceIte, Nat.reduceEqDiff, FF, hk, encDs_one, Nat.reduceAdd, Nat.reduceSub, Nat.reduceMul, Nat.reduceLeDiff] <;> rfl) (by intro hG; simp only [go_sem, hG])) ?_
      refine sg1 rfl rfl (by simp only [go_sem, reduceIte, Nat.reduceEqDiff, FF, hk, encDs_one] <;> rfl) (by rfl) (by simp only [go_sem, reduceIte, Nat.reduceEqDiff, FF, hk, encDs_one] <;> rfl) (k_load (by simp only [go_sem, reduceIte, Nat.reduceEqDiff, FF, hk, encDs_one] <;> rfl) (by simp only [go_sem] <;> rfl) (by rfl) (by intro hG; simp only [go_sem, hG]) (by first | exact lm_ptr (by simp only [go_sem, reduceIte, Nat.reduceEqDiff, FF, hk, encDs_one] <;> rfl) (by simp only [go_sem, reduceIte, Nat.reduceEqDiff, FF, hk, encDs_one, Nat.reduceAdd, Nat.reduceSub, Nat.reduceMul, Nat.reduceLeDiff] <;> rfl) (fun _ => Nat.le_of_ble_eq_true rfl) | exact lm_pim (by simp only [go_sem, reduceIte, Nat.reduceEqDiff, FF, hk, encDs_one, Nat.reduceAdd, Nat.reduceSub, Nat.reduceMul, Nat.reduceLeDiff] <;> rfl) (fun _ => Nat.le_of_ble_eq_true rfl) | exact lm_rp (by simp only [go_sem, reduceIte, Nat.reduceEqDiff, FF, hk, encDs_one] <;> rfl) (by simp only [go_sem, reduceIte, Nat.reduceEqDiff, FF, hk, encDs_one, Nat.reduceAdd, Nat.reduceSub, Nat.reduceMul, Nat.reduceLeDiff] <;> rfl) (by intro hG; (repeat' apply And.intro) <;> first | rfl | omega | (simp only [Bool.not_eq_true', Bool.or_eq_false_iff, Bool.and_eq_true, decide_eq_true_eq, decide_eq_false_iff_not, beq_iff_eq] at hG; omega) | (dsimp only; omega) | (simp; done)))) ?_
      refine sg0 rfl rfl (by simp only [go_sem, reduceIte, Nat.reduceEqDiff, FF, hk, encDs_one] <;> rfl) (by rfl) (by simp only [go_sem, reduceIte, Nat.reduceEqDiff, FF, hk, encDs_one] <;> rfl) (k_bin (by simp only [go_sem, reduceIte, Nat.reduceEqDiff, FF, hk, encDs_one] <;> rfl) (by simp only [go_sem, reduceIte, Nat.reduceEqDiff, FF, hk, encDs_one] <;> rfl) (by rfl) (by rfl) (by simp only [go_sem, reduceIte, Nat.reduceEqDiff, FF, hk, encDs_one] <;> rfl) (by intro hG; simp only [go_sem, hG])) ?_
      refine st0 rfl (k_pick (by simp only [go_sem, reduceIte, Nat.reduceEqDiff, FF, hk, encDs_one] <;> rfl) (by simp only [go_sem, reduceIte, Nat.reduceEqDiff, FF, hk, encDs_one] <;> rfl) (by simp only [go_sem, reduceIte, Nat.reduceEqDiff, FF, hk, encDs_one] <;> rfl) (by rfl) (by rfl) (by rfl) (by intro hG; first | (simp only [go_sem, reduceIte, Nat.reduceEqDiff, FF, hk, encDs_one]; done) | (simp [go_sem]; done) | (simp [go_sem] at hG ⊢ <;> simp [hG] <;> (intros; simp_all))) (by first | (simp only [go_sem, reduceIte, Nat.reduceEqDiff, FF, hk, encDs_one] <;> rfl) | rfl)) ?_
      refine st0 rfl (k_move (by simp only [go_sem, reduceIte, Nat.reduceEqDiff, FF, hk, encDs_one] <;> rfl)) ?_
      refine sg0 rfl rfl (by simp only [go_sem, reduceIte, Nat.reduceEqDiff, FF, hk, encDs_one] <;> rfl) (by rfl) (by simp only [go_sem, reduceIte, Nat.reduceEqDiff, FF, hk, encDs_one] <;> rfl) (k_field (by simp only [go_sem, reduceIte, Nat.reduceEqDiff, FF, hk, encDs_one] <;> rfl) (by simp only [go_sem] <;> rfl) (by rfl) (by rfl) (by simp only [go_sem, reduceIte, Nat.reduceEqDiff, FF, hk, encDs_one, Nat.reduceAdd, Nat.reduceSub, Nat.reduceMul, Nat.reduceLeDiff] <;> rfl) (by intro hG; simp only [go_sem, hG])) ?_
      refine sg1 rfl rfl (by simp only [go_sem, reduceIte, Nat.reduceEqDiff, FF, hk, encDs_one] <;> rfl) (by rfl) (by simp only [go_sem, reduceIte, Nat.reduceEqDiff, FF, hk, encDs_one] <;> rfl) (k_load (by simp only [go_sem, reduceIte, Nat.reduceEqDiff, FF, hk, encDs_one] <;> rfl) (by simp only [go_sem] <;> rfl) (by rfl) (by intro hG; simp only [go_sem, hG]) (by first | exact lm_ptr (by simp only [go_sem, reduceIte, Nat.reduceEqDiff, FF, hk, encDs_one] <;> rfl) (by simp only [go_sem, reduceIte, Nat.reduceEqDiff, FF, hk, encDs_one, Nat.reduceAdd, Nat.reduceSub, Nat.reduceMul, Nat.reduceLeDiff] <;> rfl) (fun _ => Nat.le_of_ble_eq_true rfl) | exact lm_pim (by simp only [go_sem, reduceIte, Nat.reduceEqDiff, FF, hk, encDs_one, Nat.reduceAdd, Nat.reduceSub, Nat.reduceMul, Nat.reduceLeDiff] <;> rfl) (fun _ => Nat.le_of_ble_eq_true rfl) | exact lm_rp (by simp only [go_sem, reduceIte, Nat.reduceEqDiff, FF, hk, encDs_one] <;> rfl) (by simp only [go_sem, reduceIte, Nat.reduceEqDiff, FF, hk, encDs_one, Nat.reduceAdd, Nat.reduceSub, Nat.reduceMul, Nat.reduceLeDiff] <;> rfl) (by intro hG; (repeat' apply And.intro) <;> first | rfl | omega | (simp only [Bool.not_eq_true', Bool.or_eq_false_iff, Bool.and_eq_true, decide_eq_true_eq, decide_eq_false_iff_not, beq_iff_eq] at hG; omega) | (dsimp only; omega) | (simp; done)))) ?_
      refine sg1 rfl rfl (by simp only [go_sem, reduceIte, Nat.reduceEqDiff, FF, hk, encDs_one] <;> rfl) (by rfl) (by simp only [go_sem, reduceIte, Nat.reduceEqDiff, FF, hk, encDs_one] <;> rfl) (k_index (by simp only [go_sem, reduceIte, Nat.reduceEqDiff, FF, hk, encDs_one] <;> rfl) (by simp only [go_sem, reduceIte, Nat.reduceEqDiff, FF, hk, encDs_one] <;> rfl) (by simp only [go_sem] <;> rfl) (by rfl) (by simp only [go_sem] <;> rfl) (by rfl) (by intro hG; simp only [go_sem, hG]) (by first | exact im_im (by first | (simp only [go_sem, reduceIte, Nat.reduceEqDiff, FF, hk, encDs_one, Nat.reduceAdd, Nat.reduceSub, Nat.reduceMul, Nat.reduceLeDiff, Int.reduceToNat] <;> rfl) | rfl) (by intro hG; (repeat' apply And.intro) <;> first | rfl | omega | (simp only [Bool.not_eq_true', Bool.or_eq_false_iff, Bool.and_eq_true, decide_eq_true_eq, decide_eq_false_iff_not, beq_iff_eq] at hG; omega) | (dsimp only; omega) | (simp; done)) | exact im_own (by simp only [go_sem, reduceIte, Nat.reduceEqDiff, FF, hk, encDs_one] <;> rfl) (by first | (simp only [go_sem, reduceIte, Nat.reduceEqDiff, FF, hk, encDs_one, Nat.reduceAdd, Nat.reduceSub, Nat.reduceMul, Nat.reduceLeDiff, Int.reduceToNat] <;> rfl) | rfl) (by intro hG; (repeat' apply And.intro) <;> first | rfl | omega | (simp only [Bool.not_eq_true', Bool.or_eq_false_iff, Bool.and_eq_true, decide_eq_true_eq, decide_eq_false_iff_not, beq_iff_eq] at hG; omega) | (dsimp only; omega) | (simp; done)) | exact im_osub (by simp only [go_sem, reduceIte, Nat.reduceEqDiff, FF, hk, encDs_one] <;> rfl) (by first | (simp only [go_sem, reduceIte, Nat.reduceEqDiff, FF, hk, encDs_one, Nat.reduceAdd, Nat.reduceSub, Nat.reduceMul, Nat.reduceLeDiff, Int.reduceToNat] <;> rfl) | rfl) (by intro hG; (repeat' apply And.intro) <;> first | rfl | omega | (simp only [Bool.not_eq_true', Bool.or_eq_false_iff, Bool.and_eq_true, decide_eq_true_eq, decide_eq_false_iff_not, beq_iff_eq] at hG; omega) | (dsimp only; omega) | (simp; done)))) ?_
      refine sg1 rfl rfl (by simp only [go_sem, reduceIte, Nat.reduceEqDiff, FF, hk, encDs_one] <;> rfl) (by rfl) (by simp only [go_sem, reduceIte, Nat.reduceEqDiff, FF, hk, encDs_one] <;> rfl) (k_load (by simp only [go_sem, reduceIte, Nat.reduceEqDiff, FF, hk, encDs_one] <;> rfl) (by simp only [go_sem] <;> rfl) (by rfl) (by intro hG; simp only [go_sem, hG]) (by first | exact lm_ptr (by simp only [go_sem, reduceIte, Nat.reduceEqDiff, FF, hk, encDs_one] <;> rfl) (by simp only [go_sem, reduceIte, Nat.reduceEqDiff, FF, hk, encDs_one, Nat.reduceAdd, Nat.reduceSub, Nat.reduceMul, Nat.reduceLeDiff] <;> rfl) (fun _ => Nat.le_of_ble_eq_true rfl) | exact lm_pim (by simp only [go_sem, reduceIte, Nat.reduceEqDiff, FF, hk, encDs_one, Nat.reduceAdd, Nat.reduceSub, Nat.reduceMul, Nat.reduceLeDiff] <;> rfl) (fun _ => Nat.le_of_ble_eq_true rfl) | exact lm_rp (by simp only [go_sem, reduceIte, Nat.reduceEqDiff, FF, hk, encDs_one] <;> rfl) (by simp only [go_sem, reduceIte, Nat.reduceEqDiff, FF, hk, encDs_one, Nat.reduceAdd, Nat.reduceSub, Nat.reduceMul, Nat.reduceLeDiff] <;> rfl) (by intro hG; (repeat' apply And.intro) <;> first | rfl | omega | (simp only [Bool.not_eq_true', Bool.or_eq_false_iff, Bool.and_eq_true, decide_eq_true_eq, decide_eq_false_iff_not, beq_iff_eq] at hG; omega) | (dsimp only; omega) | (simp; done)))) ?_
      refine sg1 rfl rfl (by simp only [go_sem, reduceIte, Nat.reduceEqDiff, FF, hk, encDs_one] <;> rfl) (by rfl) (by simp only [go_sem, reduceIte, Nat.reduceEqDiff, FF, hk, encDs_one] <;> rfl) (k_call (by simp only [go_sem, reduceIte, Nat.reduceEqDiff, FF, hk, encDs_one] <;> rfl) rfl (by simp only [go_sem, reduceIte, Nat.reduceEqDiff, FF, hk, encDs_one] <;> rfl) (by intro hG; simp only [go_sem, hG]) (by rfl) (Subs.refl _) (fun hG => ih x hx)) ?_
      refine st0 rfl (k_pick (by simp only [go_sem, reduceIte, Nat.reduceEqDiff, FF, hk, encDs_one] <;> rfl) (by simp only [go_sem, reduceIte, Nat.reduceEqDiff, FF, hk, encDs_one] <;> rfl) (by simp only [go_sem, reduceIte, Nat.reduceEqDiff, FF, hk, encDs_one] <;> rfl) (by rfl) (by rfl) (by rfl) (by intro hG; first | (simp only [go_sem, reduceIte, Nat.reduceEqDiff, FF, hk, encDs_one]; done) | (simp [go_sem]; done) | (simp [go_sem] at hG ⊢ <;> simp [hG] <;> (intros; simp_all))) (by first | (simp only [go_sem, reduceIte, Nat.reduceEqDiff, FF, hk, encDs_one] <;> rfl) | rfl)) ?_
      refine st0 rfl (k_assign (by simp only [go_sem, reduceIte, Nat.reduceEqDiff, FF, hk, encDs_one] <;> rfl)) ?_
      refine hKK _ _ ?_
      clear hKK KK
      refine awp_ret ⟨[_], ⟨⟨(by simp only [go_sem, reduceIte, Nat.reduceEqDiff, FF]), (by simp only [go_sem, reduceIte, Nat.reduceEqDiff, FF] <;> rfl)⟩, trivial⟩, ?_⟩
      simp only [go_sem, reduceIte, Nat.reduceEqDiff, FF, tupled]
      exact CV.Sub.of_eq (by rw [lexicalD_one d x hc hk])
    · have hF : (d.kind == 1 && ((d.kids.length : Nat) : Int) == 1) = false := by
        have : (((d.kids.length : Nat) : Int) == 1) = false := by rw [beq_eq_false_iff_ne]; omega
        rw [this, Bool.and_false]
      refine awp_rseq_draw Try.mixed (by decide) (by kernel_rfl) fun KK hKK => ?_
      refine st0 rfl (k_field (by simp only [go_sem, reduceIte, Nat.reduceEqDiff, FF] <;> rfl) (by simp only [go_sem] <;> rfl) (by rfl) (by rfl) (by simp only [go_sem, reduceIte, Nat.reduceEqDiff, FF, Nat.reduceAdd, Nat.reduceSub, Nat.reduceMul, Nat.reduceLeDiff] <;> rfl) (by intro hG; simp only [go_sem])) ?_
      refine st1 rfl (k_load (by simp only [go_sem, reduceIte, Nat.reduceEqDiff, FF] <;> rfl) (by simp only [go_sem] <;> rfl) (by rfl) (by intro hG; simp only [go_sem]) (by first | exact lm_ptr (by simp only [go_sem, reduceIte, Nat.reduceEqDiff, FF] <;> rfl) (by simp only [go_sem, reduceIte, Nat.reduceEqDiff, FF, Nat.reduceAdd, Nat.reduceSub, Nat.reduceMul, Nat.reduceLeDiff] <;> rfl) (fun _ => Nat.le_of_ble_eq_true rfl) | exact lm_pim (by simp only [go_sem, reduceIte, Nat.reduceEqDiff, FF, Nat.reduceAdd, Nat.reduceSub, Nat.reduceMul, Nat.reduceLeDiff] <;> rfl) (fun _ => Nat.le_of_ble_eq_true rfl) | exact lm_rp (by simp only [go_sem, reduceIte, Nat.reduceEqDiff, FF] <;> rfl) (by simp only [go_sem, reduceIte, Nat.reduceEqDiff, FF, Nat.reduceAdd, Nat.reduceSub, Nat.reduceMul, Nat.reduceLeDiff] <;> rfl) (by intro hG; (repeat' apply And.intro) <;> first | rfl | omega | (dsimp only; omega) | (simp; done)))) ?_
      refine st0 rfl (k_bin (by simp only [go_sem, reduceIte, Nat.reduceEqDiff, FF] <;> rfl) (by simp only [go_sem, reduceIte, Nat.reduceEqDiff, FF] <;> rfl) (by rfl) (by rfl) (by simp only [go_sem, reduceIte, Nat.reduceEqDiff, FF] <;> rfl) (by intro hG; simp only [go_sem])) ?_
      refine st0 rfl (k_move (by simp only [go_sem, reduceIte, Nat.reduceEqDiff, FF] <;> rfl)) ?_
      refine sg0 rfl rfl (by simp only [go_sem, reduceIte, Nat.reduceEqDiff, FF] <;> rfl) (by rfl) (by simp only [go_sem, reduceIte, Nat.reduceEqDiff, FF] <;> rfl) (k_field (by simp only [go_sem, reduceIte, Nat.reduceEqDiff, FF] <;> rfl) (by simp only [go_sem] <;> rfl) (by rfl) (by rfl) (by simp only [go_sem, reduceIte, Nat.reduceEqDiff, FF, Nat.reduceAdd, Nat.reduceSub, Nat.reduceMul, Nat.reduceLeDiff] <;> rfl) (by intro hG; simp only [go_sem, hG])) ?_
      refine sg1 rfl rfl (by simp only [go_sem, reduceIte, Nat.reduceEqDiff, FF] <;> rfl) (by rfl) (by simp only [go_sem, reduceIte, Nat.reduceEqDiff, FF] <;> rfl) (k_load (by simp only [go_sem, reduceIte, Nat.reduceEqDiff, FF] <;> rfl) (by simp only [go_sem] <;> rfl) (by rfl) (by intro hG; simp only [go_sem, hG]) (by first | exact lm_ptr (by simp only [go_sem, reduceIte, Nat.reduceEqDiff, FF] <;> rfl) (by simp only [go_sem, reduceIte, Nat.reduceEqDiff, FF, Nat.reduceAdd, Nat.reduceSub, Nat.reduceMul, Nat.reduceLeDiff] <;> rfl) (fun _ => Nat.le_of_ble_eq_true rfl) | exact lm_pim (by simp only [go_sem, reduceIte, Nat.reduceEqDiff, FF, Nat.reduceAdd, Nat.reduceSub, Nat.reduceMul, Nat.reduceLeDiff] <;> rfl) (fun _ => Nat.le_of_ble_eq_true rfl) | exact lm_rp (by simp only [go_sem, reduceIte, Nat.reduceEqDiff, FF] <;> rfl) (by simp only [go_sem, reduceIte, Nat.reduceEqDiff, FF, Nat.reduceAdd, Nat.reduceSub, Nat.reduceMul, Nat.reduceLeDiff] <;> rfl) (by intro hG; (repeat' apply And.intro) <;> first | rfl | omega | (simp only [Bool.not_eq_true', Bool.or_eq_false_iff, Bool.and_eq_true, decide_eq_true_eq, decide_eq_false_iff_not, beq_iff_eq] at hG; omega) | (dsimp only; omega) | (simp; done)))) ?_
      refine sg1 rfl rfl (by simp only [go_sem, reduceIte, Nat.reduceEqDiff, FF] <;> rfl) (by rfl) (by simp only [go_sem, reduceIte, Nat.reduceEqDiff, FF] <;> rfl) (k_len (by simp only [go_sem, reduceIte, Nat.reduceEqDiff, FF] <;> rfl) (by intro hG; simp only [go_sem, hG]) (by first | exact nm_im (by simp only [go_sem] <;> rfl) | exact nm_own (by simp only [go_sem] <;> rfl) (by simp only [go_sem, reduceIte, Nat.reduceEqDiff, FF] <;> rfl) (by intro hG; (repeat' apply And.intro) <;> first | rfl | omega | (simp only [Bool.not_eq_true', Bool.or_eq_false_iff, Bool.and_eq_true, decide_eq_true_eq, decide_eq_false_iff_not, beq_iff_eq] at hG; omega) | (dsimp only; omega) | (simp; done)) | exact nm_emp (by simp only [go_sem] <;> rfl) | exact nm_osub (by simp only [go_sem] <;> rfl) (by simp only [go_sem, reduceIte, Nat.reduceEqDiff, FF] <;> rfl) (by intro hG; (repeat' apply And.intro) <;> first | rfl | omega | (simp only [Bool.not_eq_true', Bool.or_eq_false_iff, Bool.and_eq_true, decide_eq_true_eq, decide_eq_false_iff_not, beq_iff_eq] at hG; omega) | (dsimp only; omega) | (simp; done)) | exact nm_str (by simp only [go_sem] <;> rfl))) ?_
      refine sg0 rfl rfl (by simp only [go_sem, reduceIte, Nat.reduceEqDiff, FF] <;> rfl) (by rfl) (by simp only [go_sem, reduceIte, Nat.reduceEqDiff, FF] <;> rfl) (k_bin (by simp only [go_sem, reduceIte, Nat.reduceEqDiff, FF] <;> rfl) (by simp only [go_sem, reduceIte, Nat.reduceEqDiff, FF] <;> rfl) (by rfl) (by rfl) (by simp only [go_sem, reduceIte, Nat.reduceEqDiff, FF] <;> rfl) (by intro hG; simp only [go_sem, hG])) ?_
      refine st0 rfl (k_pick (by simp only [go_sem, reduceIte, Nat.reduceEqDiff, FF] <;> rfl) (by simp only [go_sem, reduceIte, Nat.reduceEqDiff, FF] <;> rfl) (by simp only [go_sem, reduceIte, Nat.reduceEqDiff, FF] <;> rfl) (by rfl) (by rfl) (by rfl) (by intro hG; first | (simp only [go_sem, reduceIte, Nat.reduceEqDiff, FF, hF]; done) | (simp [go_sem]; done) | (simp [go_sem] at hG ⊢ <;> simp [hG] <;> (intros; simp_all))) (by first | (simp only [go_sem, reduceIte, Nat.reduceEqDiff, FF] <;> rfl) | rfl)) ?_
      refine st0 rfl (k_move (by simp only [go_sem, reduceIte, Nat.reduceEqDiff, FF] <;> rfl)) ?_
      refine sgF rfl (by simp only [go_sem, reduceIte, Nat.reduceEqDiff, FF] <;> rfl) (by rfl) (by simp only [go_sem, reduceIte, Nat.reduceEqDiff, FF, hF]) ?_
      refine sgF rfl (by simp only [go_sem, reduceIte, Nat.reduceEqDiff, FF] <;> rfl) (by rfl) (by simp only [go_sem, reduceIte, Nat.reduceEqDiff, FF, hF]) ?_
      refine sgF rfl (by simp only [go_sem, reduceIte, Nat.reduceEqDiff, FF] <;> rfl) (by rfl) (by simp only [go_sem, reduceIte, Nat.reduceEqDiff, FF, hF]) ?_
      refine sgF rfl (by simp only [go_sem, reduceIte, Nat.reduceEqDiff, FF] <;> rfl) (by rfl) (by simp only [go_sem, reduceIte, Nat.reduceEqDiff, FF, hF]) ?_
      refine sgF rfl (by simp only [go_sem, reduceIte, Nat.reduceEqDiff, FF] <;> rfl) (by rfl) (by simp only [go_sem, reduceIte, Nat.reduceEqDiff, FF, hF]) ?_
      refine sgF rfl (by simp only [go_sem, reduceIte, Nat.reduceEqDiff, FF] <;> rfl) (by rfl) (by simp only [go_sem, reduceIte, Nat.reduceEqDiff, FF, hF]) ?_
      refine sgF rfl (by simp only [go_sem, reduceIte, Nat.reduceEqDiff, FF] <;> rfl) (by rfl) (by simp only [go_sem, reduceIte, Nat.reduceEqDiff, FF, hF]) ?_
      refine sgF rfl (by simp only [go_sem, reduceIte, Nat.reduceEqDiff, FF] <;> rfl) (by rfl) (by simp only [go_sem, reduceIte, Nat.reduceEqDiff, FF, hF]) ?_
      refine st0 rfl (k_pick (by simp only [go_sem, reduceIte, Nat.reduceEqDiff, FF] <;> rfl) (by simp only [go_sem, reduceIte, Nat.reduceEqDiff, FF] <;> rfl) (by simp only [go_sem, reduceIte, Nat.reduceEqDiff, FF] <;> rfl) (by rfl) (by rfl) (by rfl) (by intro hG; first | (simp only [go_sem, reduceIte, Nat.reduceEqDiff, FF, hF]; done) | (simp [go_sem]; done) | (simp [go_sem] at hG ⊢ <;> simp [hG] <;> (intros; simp_all))) (by first | (simp only [go_sem, reduceIte, Nat.reduceEqDiff, FF] <;> rfl) | rfl)) ?_
      refine st0 rfl (k_move (by simp only [go_sem, reduceIte, Nat.reduceEqDiff, FF] <;> rfl)) ?_
      refine sgF rfl (by simp only [go_sem, reduceIte, Nat.reduceEqDiff, FF] <;> rfl) (by rfl) (by simp only [go_sem, reduceIte, Nat.reduceEqDiff, FF, hF]) ?_
      refine sgF rfl (by simp only [go_sem, reduceIte, Nat.reduceEqDiff, FF] <;> rfl) (by rfl) (by simp only [go_sem, reduceIte, Nat.reduceEqDiff, FF, hF]) ?_
      refine sgF rfl (by simp only [go_sem, reduceIte, Nat.reduceEqDiff, FF] <;> rfl) (by rfl) (by simp only [go_sem, reduceIte, Nat.reduceEqDiff, FF, hF]) ?_
      refine sgF rfl (by simp only [go_sem, reduceIte, Nat.reduceEqDiff, FF] <;> rfl) (by rfl) (by simp only [go_sem, reduceIte, Nat.reduceEqDiff, FF, hF]) ?_
      refine sgF rfl (by simp only [go_sem, reduceIte, Nat.reduceEqDiff, FF] <;> rfl) (by rfl) (by simp only [go_sem, reduceIte, Nat.reduceEqDiff, FF, hF]) ?_
      refine sgF rfl (by simp only [go_sem, reduceIte, Nat.reduceEqDiff, FF] <;> rfl) (by rfl) (by simp only [go_sem, reduceIte, Nat.reduceEqDiff, FF, hF]) ?_
      refine sgF rfl (by simp only [go_sem, reduceIte, Nat.reduceEqDiff, FF] <;> rfl) (by rfl) (by simp only [go_sem, reduceIte, Nat.reduceEqDiff, FF, hF]) ?_
      refine sgF rfl (by simp only [go_sem, reduceIte, Nat.reduceEqDiff, FF] <;> rfl) (by rfl) (by simp only [go_sem, reduceIte, Nat.reduceEqDiff, FF, hF]) ?_
      refine st0 rfl (k_pick (by simp only [go_sem, reduceIte, Nat.reduceEqDiff, FF] <;> rfl) (by simp only [go_sem, reduceIte, Nat.reduceEqDiff, FF] <;> rfl) (by simp only [go_sem, reduceIte, Nat.reduceEqDiff, FF] <;> rfl) (by rfl) (by rfl) (by rfl) (by intro hG; first | (simp only [go_sem, reduceIte, Nat.reduceEqDiff, FF, hF]; done) | (simp [go_sem]; done) | (simp [go_sem] at hG ⊢ <;> simp [hG] <;> (intros; simp_all))) (by first | (simp only [go_sem, reduceIte, Nat.reduceEqDiff, FF] <;> rfl) | rfl)) ?_
      refine st0 rfl (k_move (by simp only [go_sem, reduceIte, Nat.reduceEqDiff, FF] <;> rfl)) ?_
      refine sgF rfl (by simp only [go_sem, reduceIte, Nat.reduceEqDiff, FF] <;> rfl) (by rfl) (by simp only [go_sem, reduceIte, Nat.reduceEqDiff, FF, hF]) ?_
      refine sgF rfl (by simp only [go_sem, reduceIte, Nat.reduceEqDiff, FF] <;> rfl) (by rfl) (by simp only [go_sem, reduceIte, Nat.reduceEqDiff, FF, hF]) ?_
      refine sgF rfl (by simp only [go_sem, reduceIte, Nat.reduceEqDiff, FF] <;> rfl) (by rfl) (by simp only [go_sem, reduceIte, Nat.reduceEqDiff, FF, hF]) ?_
      refine sgF rfl (by simp only [go_sem, reduceIte, Nat.reduceEqDiff, FF] <;> rfl) (by rfl) (by simp only [go_sem, reduceIte, Nat.reduceEqDiff, FF, hF]) ?_
      refine sgF rfl (by simp only [go_sem, reduceIte, Nat.reduceEqDiff, FF] <;> rfl) (by rfl) (by simp only [go_sem, reduceIte, Nat.reduceEqDiff, FF, hF]) ?_
      refine st0 rfl (k_pick (by simp only [go_sem, reduceIte, Nat.reduceEqDiff, FF] <;> rfl) (by simp only [go_sem, reduceIte, Nat.reduceEqDiff, FF] <;> rfl) (by simp only [go_sem, reduceIte, Nat.reduceEqDiff, FF] <;> rfl) (by rfl) (by rfl) (by rfl) (by intro hG; first | (simp only [go_sem, reduceIte, Nat.reduceEqDiff, FF, hF]; done) | (simp [go_sem]; done) | (simp [go_sem] at hG ⊢ <;> simp [hG] <;> (intros; simp_all))) (by first | (simp only [go_sem, reduceIte, Nat.reduceEqDiff, FF] <;> rfl) | rfl)) ?_
      refine st0 rfl (k_assign (by simp only [go_sem, reduceIte, Nat.reduceEqDiff, FF] <;> rfl)) ?_
      refine hKK _ _ ?_
      clear hKK KK
      refine awp_ret ⟨[_], ⟨⟨(by simp only [go_sem, reduceIte, Nat.reduceEqDiff, FF]), (by simp only [go_sem, reduceIte, Nat.reduceEqDiff, FF] <;> rfl)⟩, trivial⟩, ?_⟩
      simp only [go_sem, reduceIte, Nat.reduceEqDiff, FF, tupled]
      exact CV.Sub.of_eq (by rw [lexicalD_no d hc hl])

theorem cmpD_eq (a b : Dv) : cmpD a b = if a.frm ≠ b.frm then intsF a.frm b.frm else if a.to ≠ b.to then intsF a.to b.to else if a.kind ≠ b.kind then intsF a.kind b.kind
    else if !(a.name.toList == b.name.toList) then (if Op.bytesLess a.name.toList b.name.toList then -1 else 1) else cmpL a.kids b.kids := by
  obtain ⟨k, n, f, t, ks⟩ := a
  obtain ⟨k', n', f', t', ks'⟩ := b
  rw [cmpD]
  rfl
theorem cmpL_step {ks ls : List Dv} {i : Nat} (h1 : i < ks.length) (h2 : i < ls.length) : cmpL (ks.drop i) (ls.drop i) = if cmpD (ks.getD i default) (ls.getD i default) ≠ 0 then cmpD (ks.getD i default) (ls.getD i default) else cmpL (ks.drop (i + 1)) (ls.drop (i + 1)) := by
  rw [List.drop_eq_getElem_cons h1, List.drop_eq_getElem_cons h2, cmpL, getD_lt h1, getD_lt h2]
theorem cmpL_end {ks ls : List Dv} {i : Nat} (h1 : i ≤ ks.length) (h2 : i ≤ ls.length) (h : ¬ (i < ks.length ∧ i < ls.length)) : cmpL (ks.drop i) (ls.drop i) = intsF ks.length ls.length := by
  by_cases e1 : i < ks.length
  · have e2 : i = ls.length := by omega
    subst e2
    rw [List.drop_eq_getElem_cons e1, List.drop_length, cmpL]
    unfold intsF
    rw [if_neg (by omega), if_pos (by omega)]
  · have e1 : i = ks.length := by omega
    subst e1
    rw [List.drop_length]
    by_cases e2 : ks.length < ls.length
    · rw [List.drop_eq_getElem_cons e2, cmpL]
      unfold intsF
      rw [if_pos (by omega)]
    · have e2 : ls.length = ks.length := by omega
      rw [← e2, List.drop_length, cmpL]
      unfold intsF
      rw [if_neg (by omega), if_neg (by omega)]

theorem compare_ok : ∀ (N : Nat) (a b : Dv), a.size ≤ N → okD a → APure Try.prog 32 [.agg (cellsD a), .agg (cellsD b)] (.int (cmpD a b)) := by
  intro N
  induction N with
  | zero => intro d; cases d; simp [Dv.size]
  | succ N ih =>
  intro a b hN hok
  have hlen := okD_len hok
  rw [cmpD_eq]
  have FF : True := trivial
  refine apure_of Try.func32 rfl (by kernel_rfl) (by simp [Try.ntmps32]) ?_
  rw [Try.ntmps32]
  refine awp_rseq (by decide) fun KK hKK => ?_
  refine m_box ?_
  refine m_box ?_
  refine m_assign ?_
  refine hKK _ _ ?_
  clear hKK KK
  refine awp_seq ?_
  refine awp_rseq (by decide) fun KK hKK => ?_
  refine m_field ?_
  refine m_load ?_
  refine m_field ?_
  refine m_load ?_
  refine m_bin ?_
  refine hKK _ _ ?_
  clear hKK KK
  refine m_cond (fun hc => ?_) (fun hc => ?_)
  · refine awp_rseq (by decide) fun KK hKK => ?_
    refine m_field ?_
    refine m_load ?_
    refine m_field ?_
    refine m_load ?_
    refine m_call (fun hG => ints_ok _ _) ?_
    refine m_assign ?_
    refine hKK _ _ ?_
    clear hKK KK
    refine awp_ret ⟨[_], ⟨⟨(by simp only [go_sem, reduceIte, Nat.reduceEqDiff, FF]), (by simp only [go_sem, reduceIte, Nat.reduceEqDiff, FF] <;> rfl)⟩, trivial⟩, ?_⟩
    simp only [go_sem, reduceIte, Nat.reduceEqDiff, FF, tupled]
    have h1 : a.frm ≠ b.frm := by simpa using hc
    exact CV.Sub.of_eq (by rw [if_pos h1])
  refine awp_skip ?_
  first | rw [thenQ_normal] | rw [blockQ_normal, thenQ_normal]
  have h1 : ¬ a.frm ≠ b.frm := by simpa using hc
  rw [if_neg h1]
  refine awp_seq ?_
  refine awp_rseq (by decide) fun KK hKK => ?_
  refine m_field ?_
  refine m_load ?_
  refine m_field ?_
  refine m_load ?_
  refine m_bin ?_
  refine hKK _ _ ?_
  clear hKK KK
  clear hc
  refine m_cond (fun hc => ?_) (fun hc => ?_)
  · refine awp_rseq (by decide) fun KK hKK => ?_
    refine m_field ?_
    refine m_load ?_
    refine m_field ?_
    refine m_load ?_
    refine m_call (fun hG => ints_ok _ _) ?_
    refine m_assign ?_
    refine hKK _ _ ?_
    clear hKK KK
    refine awp_ret ⟨[_], ⟨⟨(by simp only [go_sem, reduceIte, Nat.reduceEqDiff, FF]), (by simp only [go_sem, reduceIte, Nat.reduceEqDiff, FF] <;> rfl)⟩, trivial⟩, ?_⟩
    simp only [go_sem, reduceIte, Nat.reduceEqDiff, FF, tupled]
    have h1 : a.to ≠ b.to := by simpa using hc
    exact CV.Sub.of_eq (by rw [if_pos h1])
  refine awp_skip ?_
  first | rw [thenQ_normal] | rw [blockQ_normal, thenQ_normal]
  have h2 : ¬ a.to ≠ b.to := by simpa using hc
  rw [if_neg h2]
  refine awp_seq ?_
  refine awp_rseq (by decide) fun KK hKK => ?_
  refine m_field ?_
  refine m_load ?_
  refine m_field ?_
  refine m_load ?_
  refine m_bin ?_
  refine hKK _ _ ?_
  clear hKK KK
  clear hc
  refine m_cond (fun hc => ?_) (fun hc => ?_)
  · refine awp_rseq (by decide) fun KK hKK => ?_
    refine m_field ?_
    refine m_load ?_
    refine m_field ?_
    refine m_load ?_
    refine m_call (fun hG => ints_ok _ _) ?_
    refine m_assign ?_
    refine hKK _ _ ?_
    clear hKK KK
    refine awp_ret ⟨[_], ⟨⟨(by simp only [go_sem, reduceIte, Nat.reduceEqDiff, FF]), (by simp only [go_sem, reduceIte, Nat.reduceEqDiff, FF] <;> rfl)⟩, trivial⟩, ?_⟩
    simp only [go_sem, reduceIte, Nat.reduceEqDiff, FF, tupled]
    have h1 : a.kind ≠ b.kind := by simpa using hc
    exact CV.Sub.of_eq (by rw [if_pos h1])
  refine awp_skip ?_
  first | rw [thenQ_normal] | rw [blockQ_normal, thenQ_normal]
  have h3 : ¬ a.kind ≠ b.kind := by simpa using hc
  rw [if_neg h3]
  refine awp_seq ?_
  refine awp_rseq (by decide) fun KK hKK => ?_
  refine m_field ?_
  refine m_load ?_
  refine m_field ?_
  refine m_load ?_
  refine m_bin ?_
  refine hKK _ _ ?_
  clear hKK KK
  clear hc
  refine m_cond (fun hc => ?_) (fun hc => ?_)
  · rw [if_pos hc]
    refine awp_seq ?_
    refine awp_rseq (by decide) fun KK hKK => ?_
    refine m_field ?_
    refine m_load ?_
    refine m_field ?_
    refine m_load ?_
    refine m_bin ?_
    refine hKK _ _ ?_
    clear hKK KK
    clear hc
    refine m_cond (fun hc => ?_) (fun hc => ?_)
    · refine awp_rseq (by decide) fun KK hKK => ?_
      refine m_assign ?_
      refine hKK _ _ ?_
      clear hKK KK
      refine awp_ret ⟨[_], ⟨⟨(by simp only [go_sem, reduceIte, Nat.reduceEqDiff, FF]), (by simp only [go_sem, reduceIte, Nat.reduceEqDiff, FF] <;> rfl)⟩, trivial⟩, ?_⟩
      simp only [go_sem, reduceIte, Nat.reduceEqDiff, FF, tupled]
      exact CV.Sub.of_eq (by rw [if_pos hc])
    refine awp_skip ?_
    first | rw [thenQ_normal] | rw [blockQ_normal, thenQ_normal]
    refine awp_rseq (by decide) fun KK hKK => ?_
    refine m_assign ?_
    refine hKK _ _ ?_
    clear hKK KK
    refine awp_ret ⟨[_], ⟨⟨(by simp only [go_sem, reduceIte, Nat.reduceEqDiff, FF]), (by simp only [go_sem, reduceIte, Nat.reduceEqDiff, FF] <;> rfl)⟩, trivial⟩, ?_⟩
    simp only [go_sem, reduceIte, Nat.reduceEqDiff, FF, tupled]
    exact CV.Sub.of_eq (by rw [if_neg (by simp [hc])])
  refine awp_skip ?_
  first | rw [thenQ_normal] | rw [blockQ_normal, thenQ_normal]
  rw [if_neg (by simp [hc])]
  refine awp_seq ?_
  clear hc
  refine awp_rseq (by decide) fun KK hKK => ?_
  refine m_assign ?_
  refine hKK _ _ ?_
  clear hKK KK
  refine awp_block ?_
  refine m_for (ι := Nat) (fun i => [(2, .ptr 2 0), (3, .ptr 3 0), (5, .int i)]) (fun i => [(2, .box 38 ((cellsD a).map .c)), (3, .box 38 ((cellsD b).map .c))]) (fun i => a.kids.length - i) (fun i => i ≤ a.kids.length ∧ i ≤ b.kids.length ∧ cmpL (a.kids.drop i) (b.kids.drop i) = cmpL a.kids b.kids) (0) ?_ ?_
  · exact ⟨Nat.zero_le _, Nat.zero_le _, rfl⟩
  · rintro i ⟨hi, hj, hres⟩
    refine awp_seq ?_
    refine awp_rseq (by decide) fun KK hKK => ?_
    refine m_move ?_
    refine m_field ?_
    refine m_load ?_
    refine m_len ?_
    refine m_bin ?_
    refine m_move ?_
    refine g_move ?_
    refine g_field ?_
    refine g_load ?_
    refine g_len ?_
    refine g_bin ?_
    refine m_pick ?_
    refine hKK _ _ ?_
    clear hKK KK
    refine m_cond (fun hc => ?_) (fun hc => ?_)
    · simp only [Bool.and_eq_true, decide_eq_true_eq] at hc
      obtain ⟨hi1, hj1⟩ := hc
      have hi' : i < a.kids.length := by omega
      have hj' : i < b.kids.length := by omega
      have w3 : IntKind.i64.wrap ((i : Int) + 1) = ((i + 1 : Nat) : Int) := wrap_in (by omega)
      refine awp_skip ?_
      first | rw [thenQ_normal] | rw [blockQ_normal, thenQ_normal]
      refine awp_seq (awp_block ?_)
      refine awp_rseq_draw Try.mixed (by decide) (by kernel_rfl) fun KK hKK => ?_
      refine st0 rfl (k_field (by simp only [go_sem, reduceIte, Nat.reduceEqDiff, FF, encDs_getD, hi', hj'] <;> rfl) (by simp only [go_sem] <;> rfl) (by rfl) (by rfl) (by simp only [go_sem, reduceIte, Nat.reduceEqDiff, FF, encDs_getD, hi', hj', Nat.reduceAdd, Nat.reduceSub, Nat.reduceMul, Nat.reduceLeDiff] <;> rfl) (by intro hG; simp only [go_sem])) ?_
      refine st1 rfl (k_load (by simp only [go_sem, reduceIte, Nat.reduceEqDiff, FF, encDs_getD, hi', hj'] <;> rfl) (by simp only [go_sem] <;> rfl) (by rfl) (by intro hG; simp only [go_sem]) (by first | exact lm_ptr (by simp only [go_sem, reduceIte, Nat.reduceEqDiff, FF, encDs_getD, hi', hj'] <;> rfl) (by simp only [go_sem, reduceIte, Nat.reduceEqDiff, FF, encDs_getD, hi', hj', Nat.reduceAdd, Nat.reduceSub, Nat.reduceMul, Nat.reduceLeDiff] <;> rfl) (fun _ => Nat.le_of_ble_eq_true rfl) | exact lm_pim (by simp only [go_sem, reduceIte, Nat.reduceEqDiff, FF, encDs_getD, hi', hj', Nat.reduceAdd, Nat.reduceSub, Nat.reduceMul, Nat.reduceLeDiff] <;> rfl) (fun _ => Nat.le_of_ble_eq_true rfl) | exact lm_rp (by simp only [go_sem, reduceIte, Nat.reduceEqDiff, FF, encDs_getD, hi', hj'] <;> rfl) (by simp only [go_sem, reduceIte, Nat.reduceEqDiff, FF, encDs_getD, hi', hj', Nat.reduceAdd, Nat.reduceSub, Nat.reduceMul, Nat.reduceLeDiff] <;> rfl) (by intro hG; (repeat' apply And.intro) <;> first | rfl | omega | (dsimp only; omega) | (simp; done)))) ?_
      refine st0 rfl (k_move (by simp only [go_sem, reduceIte, Nat.reduceEqDiff, FF, encDs_getD, hi', hj'] <;> rfl)) ?_
      refine st1 rfl (k_index (by simp only [go_sem, reduceIte, Nat.reduceEqDiff, FF, encDs_getD, hi', hj'] <;> rfl) (by simp only [go_sem, reduceIte, Nat.reduceEqDiff, FF, encDs_getD, hi', hj'] <;> rfl) (by simp only [go_sem] <;> rfl) (by rfl) (by simp only [go_sem] <;> rfl) (by rfl) (by intro hG; simp only [go_sem]) (by first | exact im_im (by first | (simp only [go_sem, reduceIte, Nat.reduceEqDiff, FF, encDs_getD, hi', hj', Nat.reduceAdd, Nat.reduceSub, Nat.reduceMul, Nat.reduceLeDiff, Int.reduceToNat] <;> rfl) | rfl) (by intro hG; (repeat' apply And.intro) <;> first | rfl | omega | (dsimp only; omega) | (simp; done)) | exact im_own (by simp only [go_sem, reduceIte, Nat.reduceEqDiff, FF, encDs_getD, hi', hj'] <;> rfl) (by first | (simp only [go_sem, reduceIte, Nat.reduceEqDiff, FF, encDs_getD, hi', hj', Nat.reduceAdd, Nat.reduceSub, Nat.reduceMul, Nat.reduceLeDiff, Int.reduceToNat] <;> rfl) | rfl) (by intro hG; (repeat' apply And.intro) <;> first | rfl | omega | (dsimp only; omega) | (simp; done)) | exact im_osub (by simp only [go_sem, reduceIte, Nat.reduceEqDiff, FF, encDs_getD, hi', hj'] <;> rfl) (by first | (simp only [go_sem, reduceIte, Nat.reduceEqDiff, FF, encDs_getD, hi', hj', Nat.reduceAdd, Nat.reduceSub, Nat.reduceMul, Nat.reduceLeDiff, Int.reduceToNat] <;> rfl) | rfl) (by intro hG; (repeat' apply And.intro) <;> first | rfl | omega | (dsimp only; omega) | (simp; done)))) ?_
      refine st1 rfl (k_load (by simp only [go_sem, reduceIte, Nat.reduceEqDiff, FF, encDs_getD, hi', hj'] <;> rfl) (by simp only [go_sem] <;> rfl) (by rfl) (by intro hG; simp only [go_sem]) (by first | exact lm_ptr (by simp only [go_sem, reduceIte, Nat.reduceEqDiff, FF, encDs_getD, hi', hj'] <;> rfl) (by simp only [go_sem, reduceIte, Nat.reduceEqDiff, FF, encDs_getD, hi', hj', Nat.reduceAdd, Nat.reduceSub, Nat.reduceMul, Nat.reduceLeDiff] <;> rfl) (fun _ => Nat.le_of_ble_eq_true rfl) | exact lm_pim (by simp only [go_sem, reduceIte, Nat.reduceEqDiff, FF, encDs_getD, hi', hj', Nat.reduceAdd, Nat.reduceSub, Nat.reduceMul, Nat.reduceLeDiff] <;> rfl) (fun _ => Nat.le_of_ble_eq_true rfl) | exact lm_rp (by simp only [go_sem, reduceIte, Nat.reduceEqDiff, FF, encDs_getD, hi', hj'] <;> rfl) (by simp only [go_sem, reduceIte, Nat.reduceEqDiff, FF, encDs_getD, hi', hj', Nat.reduceAdd, Nat.reduceSub, Nat.reduceMul, Nat.reduceLeDiff] <;> rfl) (by intro hG; (repeat' apply And.intro) <;> first | rfl | omega | (dsimp only; omega) | (simp; done)))) ?_
      refine st0 rfl (k_field (by simp only [go_sem, reduceIte, Nat.reduceEqDiff, FF, encDs_getD, hi', hj'] <;> rfl) (by simp only [go_sem] <;> rfl) (by rfl) (by rfl) (by simp only [go_sem, reduceIte, Nat.reduceEqDiff, FF, encDs_getD, hi', hj', Nat.reduceAdd, Nat.reduceSub, Nat.reduceMul, Nat.reduceLeDiff] <;> rfl) (by intro hG; simp only [go_sem])) ?_
      refine st1 rfl (k_load (by simp only [go_sem, reduceIte, Nat.reduceEqDiff, FF, encDs_getD, hi', hj'] <;> rfl) (by simp only [go_sem] <;> rfl) (by rfl) (by intro hG; simp only [go_sem]) (by first | exact lm_ptr (by simp only [go_sem, reduceIte, Nat.reduceEqDiff, FF, encDs_getD, hi', hj'] <;> rfl) (by simp only [go_sem, reduceIte, Nat.reduceEqDiff, FF, encDs_getD, hi', hj', Nat.reduceAdd, Nat.reduceSub, Nat.reduceMul, Nat.reduceLeDiff] <;> rfl) (fun _ => Nat.le_of_ble_eq_true rfl) | exact lm_pim (by simp only [go_sem, reduceIte, Nat.reduceEqDiff, FF, encDs_getD, hi', hj', Nat.reduceAdd, Nat.reduceSub, Nat.reduceMul, Nat.reduceLeDiff] <;> rfl) (fun _ => Nat.le_of_ble_eq_true rfl) | exact lm_rp (by simp only [go_sem, reduceIte, Nat.reduceEqDiff, FF, encDs_getD, hi', hj'] <;> rfl) (by simp only [go_sem, reduceIte, Nat.reduceEqDiff, FF, encDs_getD, hi', hj', Nat.reduceAdd, Nat.reduceSub, Nat.reduceMul, Nat.reduceLeDiff] <;> rfl) (by intro hG; (repeat' apply And.intro) <;> first | rfl | omega | (dsimp only; omega) | (simp; done)))) ?_
      refine st0 rfl (k_move (by simp only [go_sem, reduceIte, Nat.reduceEqDiff, FF, encDs_getD, hi', hj'] <;> rfl)) ?_
      refine st1 rfl (k_index (by simp only [go_sem, reduceIte, Nat.reduceEqDiff, FF, encDs_getD, hi', hj'] <;> rfl) (by simp only [go_sem, reduceIte, Nat.reduceEqDiff, FF, encDs_getD, hi', hj'] <;> rfl) (by simp only [go_sem] <;> rfl) (by rfl) (by simp only [go_sem] <;> rfl) (by rfl) (by intro hG; simp only [go_sem]) (by first | exact im_im (by first | (simp only [go_sem, reduceIte, Nat.reduceEqDiff, FF, encDs_getD, hi', hj', Nat.reduceAdd, Nat.reduceSub, Nat.reduceMul, Nat.reduceLeDiff, Int.reduceToNat] <;> rfl) | rfl) (by intro hG; (repeat' apply And.intro) <;> first | rfl | omega | (dsimp only; omega) | (simp; done)) | exact im_own (by simp only [go_sem, reduceIte, Nat.reduceEqDiff, FF, encDs_getD, hi', hj'] <;> rfl) (by first | (simp only [go_sem, reduceIte, Nat.reduceEqDiff, FF, encDs_getD, hi', hj', Nat.reduceAdd, Nat.reduceSub, Nat.reduceMul, Nat.reduceLeDiff, Int.reduceToNat] <;> rfl) | rfl) (by intro hG; (repeat' apply And.intro) <;> first | rfl | omega | (dsimp only; omega) | (simp; done)) | exact im_osub (by simp only [go_sem, reduceIte, Nat.reduceEqDiff, FF, encDs_getD, hi', hj'] <;> rfl) (by first | (simp only [go_sem, reduceIte, Nat.reduceEqDiff, FF, encDs_getD, hi', hj', Nat.reduceAdd, Nat.reduceSub, Nat.reduceMul, Nat.reduceLeDiff, Int.reduceToNat] <;> rfl) | rfl) (by intro hG; (repeat' apply And.intro) <;> first | rfl | omega | (dsimp only; omega) | (simp; done)))) ?_
      refine st1 rfl (k_load (by simp only [go_sem, reduceIte, Nat.reduceEqDiff, FF, encDs_getD, hi', hj'] <;> rfl) (by simp only [go_sem] <;> rfl) (by rfl) (by intro hG; simp only [go_sem]) (by first | exact lm_ptr (by simp only [go_sem, reduceIte, Nat.reduceEqDiff, FF, encDs_getD, hi', hj'] <;> rfl) (by simp only [go_sem, reduceIte, Nat.reduceEqDiff, FF, encDs_getD, hi', hj', Nat.reduceAdd, Nat.reduceSub, Nat.reduceMul, Nat.reduceLeDiff] <;> rfl) (fun _ => Nat.le_of_ble_eq_true rfl) | exact lm_pim (by simp only [go_sem, reduceIte, Nat.reduceEqDiff, FF, encDs_getD, hi', hj', Nat.reduceAdd, Nat.reduceSub, Nat.reduceMul, Nat.reduceLeDiff] <;> rfl) (fun _ => Nat.le_of_ble_eq_true rfl) | exact lm_rp (by simp only [go_sem, reduceIte, Nat.reduceEqDiff, FF, encDs_getD, hi', hj'] <;> rfl) (by simp only [go_sem, reduceIte, Nat.reduceEqDiff, FF, encDs_getD, hi', hj', Nat.reduceAdd, Nat.reduceSub, Nat.reduceMul, Nat.reduceLeDiff] <;> rfl) (by intro hG; (repeat' apply And.intro) <;> first | rfl | omega | (dsimp only; omega) | (simp; done)))) ?_
      refine st1 rfl (k_call (by simp only [go_sem, reduceIte, Nat.reduceEqDiff, FF, encDs_getD, hi', hj'] <;> rfl) rfl (by simp only [go_sem, reduceIte, Nat.reduceEqDiff, FF, encDs_getD, hi', hj'] <;> rfl) (by intro hG; simp only [go_sem]) (by rfl) (Subs.refl _) (fun hG => ih _ _ (by have := kids_sizeD a i hi'; omega) (okD_kid hok hi'))) ?_
      refine st0 rfl (k_assign (by simp only [go_sem, reduceIte, Nat.reduceEqDiff, FF, encDs_getD, hi', hj'] <;> rfl)) ?_
      refine hKK _ _ ?_
      clear hKK KK
      refine awp_rseq (by decide) fun KK hKK => ?_
      refine m_move ?_
      refine m_bin ?_
      refine hKK _ _ ?_
      clear hKK KK
      refine m_cond (fun hc => ?_) (fun hc => ?_)
      · refine awp_rseq (by decide) fun KK hKK => ?_
        refine m_move ?_
        refine m_assign ?_
        refine hKK _ _ ?_
        clear hKK KK
        refine awp_ret ⟨[_], ⟨⟨(by simp only [go_sem, reduceIte, Nat.reduceEqDiff, FF]), (by simp only [go_sem, reduceIte, Nat.reduceEqDiff, FF] <;> rfl)⟩, trivial⟩, ?_⟩
        simp only [go_sem, reduceIte, Nat.reduceEqDiff, FF, tupled]
        exact CV.Sub.of_eq (by rw [← hres, cmpL_step hi' hj', if_pos (by simpa using hc)])
      refine awp_skip ?_
      first | rw [thenQ_normal] | rw [blockQ_normal, thenQ_normal]
      have h0 : ¬ cmpD (a.kids.getD i default) (b.kids.getD i default) ≠ 0 := by simpa using hc
      have FF := And.intro w3 FF
      refine awp_rlast (by decide) fun KK hKK => ?_
      refine m_move ?_
      refine m_bin ?_
      refine m_assign ?_
      refine hKK _ _ ?_
      clear hKK KK
      try rw [thenQ_normal]
      refine m_next (i + 1) ?_ ?_
      · exact ⟨hi', hj', by rw [← hres, cmpL_step hi' hj', if_neg h0]⟩
      · omega
    · refine awp_exit ?_
      simp only [thenQ_exit, blockQ_exit, reduceIte, Nat.reduceEqDiff]
      try rw [thenQ_normal]
      refine awp_rseq (by decide) fun KK hKK => ?_
      refine m_field ?_
      refine m_load ?_
      refine m_len ?_
      refine m_field ?_
      refine m_load ?_
      refine m_len ?_
      refine m_call (fun hG => ints_ok _ _) ?_
      refine m_assign ?_
      refine hKK _ _ ?_
      clear hKK KK
      refine awp_ret ⟨[_], ⟨⟨(by simp only [go_sem, reduceIte, Nat.reduceEqDiff, FF]), (by simp only [go_sem, reduceIte, Nat.reduceEqDiff, FF] <;> rfl)⟩, trivial⟩, ?_⟩
      simp only [go_sem, reduceIte, Nat.reduceEqDiff, FF, tupled]
      simp only [Bool.and_eq_false_iff, decide_eq_false_iff_not] at hc
      exact CV.Sub.of_eq (by rw [← hres, cmpL_end hi hj (by omega)])
end Go.Am
