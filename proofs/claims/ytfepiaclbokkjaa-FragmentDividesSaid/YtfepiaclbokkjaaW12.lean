/- Contracts: is a word covered; the gaps of a list of edges, twice. No condition. -/
import Derived.Test.YtfepiaclbokkjaaW11
namespace Go.Am
open Go.Proofs
attribute [local go_sem ↓] ofL_cons ofH_cons upd_apply
attribute [local go_sem] cellsE cellsC cellsP
set_option maxHeartbeats 2000000
set_option linter.unusedSimpArgs false

theorem any_drop {α : Type} {l : List α} {i : Nat} (d : α) (p : α → Bool) (h : i < l.length) : (l.drop i).any p = (p (l.getD i d) || (l.drop (i + 1)).any p) := by
  rw [List.drop_eq_getElem_cons h, List.any_cons, getD_lt h]

def covE (c : Ch) (w : Nat) (k : Int) : Bool := decide (0 ≤ k) && decide (k < (c.edges.length : Int)) && decide ((edgeAt c k).frm ≤ (w : Int)) && decide ((w : Int) < (edgeAt c k).to)
def coveredF (c : Ch) (l : List Int) (w : Nat) : Bool := l.any (covE c w)

theorem covered_ok (c : Ch) (l : List Int) (w : Nat) (hl : l.length ≤ 1000000) : APure Try.prog 19 [.agg (cellsC c), encInts l, .int w] (.bool (coveredF c l w)) := by
  have FF : True := trivial
  refine apure_of Try.func19 rfl (by kernel_rfl) (by simp [Try.ntmps19]) ?_
  rw [Try.ntmps19]
  refine awp_rseq (by decide) fun KK hKK => ?_
  refine m_box ?_
  refine m_assign ?_
  refine hKK _ _ ?_
  clear hKK KK
  refine awp_seq ?_
  refine awp_rseq (by decide) fun KK hKK => ?_
  refine m_assign ?_
  refine hKK _ _ ?_
  clear hKK KK
  refine awp_block ?_
  refine m_for (ι := Nat) (fun i => [(1, .c (encInts l)), (2, .int w), (3, .ptr 3 0), (7, .int i)]) (fun i => [(3, .box 24 ((cellsC c).map .c))]) (fun i => l.length - i) (fun i => i ≤ l.length ∧ coveredF c l w = (l.drop i).any (covE c w)) (0) ?_ ?_
  · exact ⟨Nat.zero_le _, by rw [List.drop_zero]; rfl⟩
  rintro i ⟨hi, hres⟩
  refine awp_seq ?_
  refine awp_rseq (by decide) fun KK hKK => ?_
  refine m_move ?_
  refine m_move ?_
  refine m_len ?_
  refine m_bin ?_
  refine hKK _ _ ?_
  clear hKK KK
  refine m_cond (fun hc => ?_) (fun hc => ?_)
  · simp only [decide_eq_true_eq] at hc
    have hi' : i < l.length := by omega
    have w3 : IntKind.i64.wrap ((i : Int) + 1) = ((i + 1 : Nat) : Int) := wrap_in (by omega)
    rw [any_drop 0 _ hi'] at hres
    refine awp_skip ?_
    first | rw [thenQ_normal] | rw [blockQ_normal, thenQ_normal]
    refine awp_seq (awp_block ?_)
    clear hc
    refine awp_rseq_draw Try.mixed (by decide) (by kernel_rfl) fun KK hKK => ?_
    refine m_move ?_
    refine m_move ?_
    refine m_index ?_
    refine m_load ?_
    refine m_bin ?_
    refine m_move ?_
    refine g_move ?_
    refine g_move ?_
    refine g_index ?_
    refine g_load ?_
    refine g_field ?_
    refine g_load ?_
    refine g_len ?_
    refine g_bin ?_
    refine m_pick ?_
    refine m_move ?_
    refine g_field ?_
    refine g_load ?_
    refine g_move ?_
    refine g_move ?_
    refine g_index ?_
    refine g_load ?_
    refine g_index ?_
    refine g_field ?_
    refine g_load ?_
    refine g_move ?_
    refine g_bin ?_
    refine m_pick ?_
    refine m_move ?_
    refine g_move ?_
    refine g_field ?_
    refine g_load ?_
    refine g_move ?_
    refine g_move ?_
    refine g_index ?_
    refine g_load ?_
    refine g_index ?_
    refine g_field ?_
    refine g_load ?_
    refine g_bin ?_
    refine m_pick ?_
    refine hKK _ _ ?_
    clear hKK KK
    refine m_cond (fun hc => ?_) (fun hc => ?_)
    · refine awp_rseq (by decide) fun KK hKK => ?_
      refine m_assign ?_
      refine hKK _ _ ?_
      clear hKK KK
      refine awp_ret ⟨[_], ⟨⟨(by simp only [go_sem, reduceIte, Nat.reduceEqDiff, FF]), (by simp only [go_sem, reduceIte, Nat.reduceEqDiff, FF] <;> rfl)⟩, trivial⟩, ?_⟩
      simp only [go_sem, reduceIte, Nat.reduceEqDiff, FF, tupled]
      have : covE c w (l.getD i 0) = true := hc
      rw [hres, this]
      exact CV.Sub.refl _
    refine awp_skip ?_
    first | rw [thenQ_normal] | rw [blockQ_normal, thenQ_normal]
    have FF := And.intro w3 FF
    refine awp_rlast (by decide) fun KK hKK => ?_
    refine m_move ?_
    refine m_bin ?_
    refine m_assign ?_
    refine hKK _ _ ?_
    clear hKK KK
    try rw [thenQ_normal]
    refine m_next (i + 1) ?_ ?_
    · refine ⟨hi', ?_⟩
      have : covE c w (l.getD i 0) = false := hc
      rw [hres, this, Bool.false_or]
    · omega
  · refine awp_exit ?_
    simp only [thenQ_exit, blockQ_exit, reduceIte, Nat.reduceEqDiff]
    try rw [thenQ_normal]
    have hi' : i = l.length := by simp only [decide_eq_false_iff_not] at hc; omega
    rw [hi', List.drop_length] at hres
    refine awp_rseq (by decide) fun KK hKK => ?_
    refine m_assign ?_
    refine hKK _ _ ?_
    clear hKK KK
    refine awp_ret ⟨[_], ⟨⟨(by simp only [go_sem, reduceIte, Nat.reduceEqDiff, FF]), (by simp only [go_sem, reduceIte, Nat.reduceEqDiff, FF] <;> rfl)⟩, trivial⟩, ?_⟩
    simp only [go_sem, reduceIte, Nat.reduceEqDiff, FF, tupled]
    rw [hres]
    exact CV.Sub.refl _

/-- One word more. -/
def gapStep (out : List (Int × Int)) (w : Nat) : List (Int × Int) :=
  if decide (0 < (out.length : Int)) && (out.getD (out.length - 1) (0, 0)).2 == (w : Int) then out.set (out.length - 1) ((out.getD (out.length - 1) (0, 0)).1, ((w + 1 : Nat) : Int)) else out ++ [((w : Int), ((w + 1 : Nat) : Int))]
def gapsTo (p : Nat → Bool) : Nat → List (Int × Int)
  | 0 => []
  | w + 1 => if p w then gapsTo p w else gapStep (gapsTo p w) w
def gapsF (c : Ch) (l : List Int) : List (Int × Int) := gapsTo (coveredF c l) c.words.toNat

theorem gapStep_len (out : List (Int × Int)) (w : Nat) : (gapStep out w).length ≤ out.length + 1 := by
  unfold gapStep
  split <;> simp
theorem gapsTo_len (p : Nat → Bool) : ∀ w, (gapsTo p w).length ≤ w
  | 0 => Nat.le_refl _
  | w + 1 => by
    have := gapsTo_len p w
    have h2 := gapStep_len (gapsTo p w) w
    rw [gapsTo]
    split <;> omega

def cellsS (s : Int × Int) : List CV := [.int s.1, .int s.2]
theorem set_span (O : List (Int × Int)) (n : Nat) (t : Int) (f : Nat → List CV) {ty : TypeId} (hf : f = upd (fun q => cellsS (O.getD q (0, 0))) n [.int (O.getD n (0, 0)).1, .int t]) :
    objLe (.row ty 2 O.length f) (.row ty 2 (O.set n ((O.getD n (0, 0)).1, t)).length (fun q => cellsS ((O.set n ((O.getD n (0, 0)).1, t)).getD q (0, 0)))) := by
  subst hf
  refine objLe_rown (by simp) fun q hq => ?_
  by_cases e : q = n
  · subst e
    rw [upd_same]
    simp [cellsS, hq]
  · rw [upd_ne _ _ _ _ e]
    simp [Ne.symm e]

theorem rgaps_ok (c : Ch) (h : Ok c) (l : List Int) (hl : l.length ≤ 1000000) : APure Try.prog 18 [.agg (cellsC c), encInts l] (encSpans (gapsF c l)) := by
  obtain ⟨W, hW⟩ : ∃ W : Nat, c.words = (W : Int) := ⟨c.words.toNat, by have := h.words; omega⟩
  have hWt : c.words.toNat = W := by rw [hW]; rfl
  have hW2 : W ≤ 32 := by have := h.words; omega
  have FF : True := trivial
  refine apure_of Try.func18 rfl (by kernel_rfl) (by simp [Try.ntmps18]) ?_
  rw [Try.ntmps18]
  unfold gapsF
  rw [hWt]
  generalize hp : coveredF c l = p
  refine awp_rseq (by decide) fun KK hKK => ?_
  refine m_box ?_
  refine m_assign ?_
  refine hKK _ _ ?_
  clear hKK KK
  refine awp_rseq (by decide) fun KK hKK => ?_
  refine m_slice0 ?_
  refine m_assign ?_
  refine hKK _ _ ?_
  clear hKK KK
  refine awp_seq ?_
  refine awp_rseq (by decide) fun KK hKK => ?_
  refine m_assign ?_
  refine hKK _ _ ?_
  clear hKK KK
  refine awp_block ?_
  refine AWp.weak (weak_adopt 5 100 45 2 (fun q => cellsS ((gapsTo p 0).getD q (0, 0))) (by simp only [go_sem, reduceIte, Nat.reduceEqDiff, FF]) (by simp only [go_sem, reduceIte, Nat.reduceEqDiff, FF])) ?_
  refine m_for (ι := Nat) (fun w => [(1, .c (encInts l)), (2, .ptr 2 0), (5, .own 100 (gapsTo p w).length), (6, .int w)]) (fun w => [(2, .box 24 ((cellsC c).map .c)), (100, .row 45 2 (gapsTo p w).length (fun q => cellsS ((gapsTo p w).getD q (0, 0))))]) (fun w => W - w) (fun w => w ≤ W) (0) ?_ ?_
  · exact Nat.zero_le _
  intro w hw
  refine awp_seq ?_
  have FF := And.intro hW FF
  refine awp_rseq (by decide) fun KK hKK => ?_
  refine m_move ?_
  refine m_field ?_
  refine m_load ?_
  refine m_bin ?_
  refine hKK _ _ ?_
  clear hKK KK
  refine m_cond (fun hc => ?_) (fun hc => ?_)
  · simp only [decide_eq_true_eq] at hc
    have hw' : w < W := by omega
    have w3 : IntKind.i64.wrap ((w : Int) + 1) = ((w + 1 : Nat) : Int) := wrap_in (by omega)
    have hln := gapsTo_len p w
    have hst : gapsTo p (w + 1) = if p w then gapsTo p w else gapStep (gapsTo p w) w := rfl
    generalize gapsTo p w = O at hln hst ⊢
    refine awp_skip ?_
    first | rw [thenQ_normal] | rw [blockQ_normal, thenQ_normal]
    refine awp_seq (awp_block ?_)
    clear hc
    refine awp_seq ?_
    refine awp_rseq (by decide) fun KK hKK => ?_
    refine m_load ?_
    refine m_move ?_
    refine m_move ?_
    refine m_call (fun hG => covered_ok c l w hl) ?_
    refine hKK _ _ ?_
    clear hKK KK
    rw [hp]
    refine m_cond (fun hc => ?_) (fun hc => ?_)
    · rw [if_pos hc] at hst
      refine awp_exit ?_
      simp only [thenQ_exit, blockQ_exit, reduceIte, Nat.reduceEqDiff]
      try rw [thenQ_normal]
      have FF := And.intro w3 FF
      refine awp_rlast (by decide) fun KK hKK => ?_
      refine m_move ?_
      refine m_bin ?_
      refine m_assign ?_
      refine hKK _ _ ?_
      clear hKK KK
      have FF := And.intro hst FF
      try rw [thenQ_normal]
      refine m_next (w + 1) ?_ ?_
      · exact hw'
      · omega
    rw [if_neg (by rw [hc]; decide)] at hst
    unfold gapStep at hst
    have w5 : IntKind.i64.wrap ((O.length : Int) - 1) = (O.length : Int) - 1 := wrap_in (by omega)
    have hN : ((O.length : Int) - 1).toNat = O.length - 1 := by omega
    clear hc
    refine awp_skip ?_
    first | rw [thenQ_normal] | rw [blockQ_normal, thenQ_normal]
    refine awp_rseq (by decide) fun KK hKK => ?_
    refine m_move ?_
    refine m_len ?_
    refine m_assign ?_
    refine hKK _ _ ?_
    clear hKK KK
    refine awp_rseq (by decide) fun KK hKK => ?_
    refine st0 rfl (k_move (by simp only [go_sem, reduceIte, Nat.reduceEqDiff, FF, w5, hN, cellsS] <;> rfl)) ?_
    refine st0 rfl (k_bin (by simp only [go_sem, reduceIte, Nat.reduceEqDiff, FF, w5, hN, cellsS] <;> rfl) (by simp only [go_sem, reduceIte, Nat.reduceEqDiff, FF, w5, hN, cellsS] <;> rfl) (by rfl) (by rfl) (by simp only [go_sem, reduceIte, Nat.reduceEqDiff, FF, w5, hN, cellsS] <;> rfl) (by intro hG; simp only [go_sem])) ?_
    refine st0 rfl (k_move (by simp only [go_sem, reduceIte, Nat.reduceEqDiff, FF, w5, hN, cellsS] <;> rfl)) ?_
    refine sg0 rfl rfl (by simp only [go_sem, reduceIte, Nat.reduceEqDiff, FF, w5, hN, cellsS] <;> rfl) (by rfl) (by simp only [go_sem, reduceIte, Nat.reduceEqDiff, FF, w5, hN, cellsS] <;> rfl) (k_move (by simp only [go_sem, reduceIte, Nat.reduceEqDiff, FF, w5, hN, cellsS] <;> rfl)) ?_
    refine sg0 rfl rfl (by simp only [go_sem, reduceIte, Nat.reduceEqDiff, FF, w5, hN, cellsS] <;> rfl) (by rfl) (by simp only [go_sem, reduceIte, Nat.reduceEqDiff, FF, w5, hN, cellsS] <;> rfl) (k_move (by simp only [go_sem, reduceIte, Nat.reduceEqDiff, FF, w5, hN, cellsS] <;> rfl)) ?_
    refine sg0 rfl rfl (by simp only [go_sem, reduceIte, Nat.reduceEqDiff, FF, w5, hN, cellsS] <;> rfl) (by rfl) (by simp only [go_sem, reduceIte, Nat.reduceEqDiff, FF, w5, hN, cellsS] <;> rfl) (k_bin (by simp only [go_sem, reduceIte, Nat.reduceEqDiff, FF, w5, hN, cellsS] <;> rfl) (by simp only [go_sem, reduceIte, Nat.reduceEqDiff, FF, w5, hN, cellsS] <;> rfl) (by rfl) (by rfl) (by simp only [go_sem, reduceIte, Nat.reduceEqDiff, FF, w5, hN, cellsS] <;> rfl) (by intro hG; simp only [go_sem, hG])) ?_
    refine sg1 rfl rfl (by simp only [go_sem, reduceIte, Nat.reduceEqDiff, FF, w5, hN, cellsS] <;> rfl) (by rfl) (by simp only [go_sem, reduceIte, Nat.reduceEqDiff, FF, w5, hN, cellsS] <;> rfl) (k_index (by simp only [go_sem, reduceIte, Nat.reduceEqDiff, FF, w5, hN, cellsS] <;> rfl) (by simp only [go_sem, reduceIte, Nat.reduceEqDiff, FF, w5, hN, cellsS] <;> rfl) (by simp only [go_sem] <;> rfl) (by rfl) (by simp only [go_sem] <;> rfl) (by rfl) (by intro hG; simp only [go_sem, hG]) (by first | exact im_im (by first | (simp only [go_sem, reduceIte, Nat.reduceEqDiff, FF, w5, hN, cellsS, Nat.reduceAdd, Nat.reduceSub, Nat.reduceMul, Nat.reduceLeDiff, Int.reduceToNat] <;> rfl) | rfl) (by intro hG; (repeat' apply And.intro) <;> first | rfl | omega | (simp only [Bool.not_eq_true', Bool.or_eq_false_iff, Bool.and_eq_true, decide_eq_true_eq, decide_eq_false_iff_not, beq_iff_eq] at hG; omega) | (dsimp only; omega) | (simp; done)) | exact im_own (by simp only [go_sem, reduceIte, Nat.reduceEqDiff, FF, w5, hN, cellsS] <;> rfl) (by first | (simp only [go_sem, reduceIte, Nat.reduceEqDiff, FF, w5, hN, cellsS, Nat.reduceAdd, Nat.reduceSub, Nat.reduceMul, Nat.reduceLeDiff, Int.reduceToNat] <;> rfl) | rfl) (by intro hG; (repeat' apply And.intro) <;> first | rfl | omega | (simp only [Bool.not_eq_true', Bool.or_eq_false_iff, Bool.and_eq_true, decide_eq_true_eq, decide_eq_false_iff_not, beq_iff_eq] at hG; omega) | (dsimp only; omega) | (simp; done)) | exact im_osub (by simp only [go_sem, reduceIte, Nat.reduceEqDiff, FF, w5, hN, cellsS] <;> rfl) (by first | (simp only [go_sem, reduceIte, Nat.reduceEqDiff, FF, w5, hN, cellsS, Nat.reduceAdd, Nat.reduceSub, Nat.reduceMul, Nat.reduceLeDiff, Int.reduceToNat] <;> rfl) | rfl) (by intro hG; (repeat' apply And.intro) <;> first | rfl | omega | (simp only [Bool.not_eq_true', Bool.or_eq_false_iff, Bool.and_eq_true, decide_eq_true_eq, decide_eq_false_iff_not, beq_iff_eq] at hG; omega) | (dsimp only; omega) | (simp; done)))) ?_
    refine sg0 rfl rfl (by simp only [go_sem, reduceIte, Nat.reduceEqDiff, FF, w5, hN, cellsS] <;> rfl) (by rfl) (by simp only [go_sem, reduceIte, Nat.reduceEqDiff, FF, w5, hN, cellsS] <;> rfl) (k_field (by simp only [go_sem, reduceIte, Nat.reduceEqDiff, FF, w5, hN, cellsS] <;> rfl) (by simp only [go_sem] <;> rfl) (by rfl) (by rfl) (by simp only [go_sem, reduceIte, Nat.reduceEqDiff, FF, w5, hN, cellsS, Nat.reduceAdd, Nat.reduceSub, Nat.reduceMul, Nat.reduceLeDiff] <;> rfl) (by intro hG; simp only [go_sem, hG])) ?_
    refine sg1 rfl rfl (by simp only [go_sem, reduceIte, Nat.reduceEqDiff, FF, w5, hN, cellsS] <;> rfl) (by rfl) (by simp only [go_sem, reduceIte, Nat.reduceEqDiff, FF, w5, hN, cellsS] <;> rfl) (k_load (by simp only [go_sem, reduceIte, Nat.reduceEqDiff, FF, w5, hN, cellsS] <;> rfl) (by simp only [go_sem] <;> rfl) (by rfl) (by intro hG; simp only [go_sem, hG]) (by first | exact lm_ptr (by simp only [go_sem, reduceIte, Nat.reduceEqDiff, FF, w5, hN, cellsS] <;> rfl) (by simp only [go_sem, reduceIte, Nat.reduceEqDiff, FF, w5, hN, cellsS, Nat.reduceAdd, Nat.reduceSub, Nat.reduceMul, Nat.reduceLeDiff] <;> rfl) (fun _ => Nat.le_of_ble_eq_true rfl) | exact lm_pim (by simp only [go_sem, reduceIte, Nat.reduceEqDiff, FF, w5, hN, cellsS, Nat.reduceAdd, Nat.reduceSub, Nat.reduceMul, Nat.reduceLeDiff] <;> rfl) (fun _ => Nat.le_of_ble_eq_true rfl) | exact lm_rp (by simp only [go_sem, reduceIte, Nat.reduceEqDiff, FF, w5, hN, cellsS] <;> rfl) (by simp only [go_sem, reduceIte, Nat.reduceEqDiff, FF, w5, hN, cellsS, Nat.reduceAdd, Nat.reduceSub, Nat.reduceMul, Nat.reduceLeDiff] <;> rfl) (by intro hG; (repeat' apply And.intro) <;> first | rfl | omega | (simp only [Bool.not_eq_true', Bool.or_eq_false_iff, Bool.and_eq_true, decide_eq_true_eq, decide_eq_false_iff_not, beq_iff_eq] at hG; omega) | (dsimp only; omega) | (simp; done)))) ?_
    refine sg0 rfl rfl (by simp only [go_sem, reduceIte, Nat.reduceEqDiff, FF, w5, hN, cellsS] <;> rfl) (by rfl) (by simp only [go_sem, reduceIte, Nat.reduceEqDiff, FF, w5, hN, cellsS] <;> rfl) (k_move (by simp only [go_sem, reduceIte, Nat.reduceEqDiff, FF, w5, hN, cellsS] <;> rfl)) ?_
    refine sg0 rfl rfl (by simp only [go_sem, reduceIte, Nat.reduceEqDiff, FF, w5, hN, cellsS] <;> rfl) (by rfl) (by simp only [go_sem, reduceIte, Nat.reduceEqDiff, FF, w5, hN, cellsS] <;> rfl) (k_bin (by simp only [go_sem, reduceIte, Nat.reduceEqDiff, FF, w5, hN, cellsS] <;> rfl) (by simp only [go_sem, reduceIte, Nat.reduceEqDiff, FF, w5, hN, cellsS] <;> rfl) (by rfl) (by rfl) (by simp only [go_sem, reduceIte, Nat.reduceEqDiff, FF, w5, hN, cellsS] <;> rfl) (by intro hG; simp only [go_sem, hG])) ?_
    refine st0 rfl (k_pick (by simp only [go_sem, reduceIte, Nat.reduceEqDiff, FF, w5, hN, cellsS] <;> rfl) (by simp only [go_sem, reduceIte, Nat.reduceEqDiff, FF, w5, hN, cellsS] <;> rfl) (by simp only [go_sem, reduceIte, Nat.reduceEqDiff, FF, w5, hN, cellsS] <;> rfl) (by rfl) (by rfl) (by rfl) (by intro hG; first | (simp only [go_sem, reduceIte, Nat.reduceEqDiff, FF, w5, hN, cellsS]; done) | (simp [go_sem]; done) | (simp [go_sem] at hG ⊢ <;> simp [hG] <;> (intros; simp_all))) (by first | (simp only [go_sem, reduceIte, Nat.reduceEqDiff, FF, w5, hN, cellsS] <;> rfl) | rfl)) ?_
    refine hKK _ _ ?_
    clear hKK KK
    refine m_cond (fun hc => ?_) (fun hc => ?_)
    · rw [if_pos hc] at hst
      have hpos : 0 < O.length := by simp only [Bool.and_eq_true, decide_eq_true_eq] at hc; omega
      have w6 : (O.length : Int) - 1 < O.length := by omega
      have FF := And.intro w5 (And.intro hN (And.intro w3 FF))
      refine awp_rlast (by decide) fun KK hKK => ?_
      refine m_move ?_
      refine m_move ?_
      refine m_bin ?_
      refine m_move ?_
      refine m_bin ?_
      refine m_index ?_
      refine m_field ?_
      first | refine m_stPtr ?_ | refine m_stRp ?_
      refine hKK _ _ ?_
      clear hKK KK
      first | rw [thenQ_normal] | rw [blockQ_normal, thenQ_normal]
      have FF := And.intro w3 FF
      refine awp_rlast (by decide) fun KK hKK => ?_
      refine m_move ?_
      refine m_bin ?_
      refine m_assign ?_
      refine hKK _ _ ?_
      clear hKK KK
      try rw [thenQ_normal]
      refine ⟨w + 1, ?_, ?_, (by simp only [List.forall_mem_cons, List.forall_mem_nil, go_sem, reduceIte, Nat.reduceEqDiff, FF, hst, List.length_set]; all_goals ((repeat' apply And.intro) <;> first | trivial | rfl | exact objLe_refl _ | (intro _ _; exact Subs.refl _))), ?_⟩
      · exact hw'
      · omega
      · rw [hst]
        exact List.forall_mem_cons.2 ⟨objLe_of (by simp only [go_sem, reduceIte, Nat.reduceEqDiff, List.length_append, List.length_cons, List.length_nil, FF]), List.forall_mem_cons.2 ⟨set_span O (O.length - 1) _ _ rfl, List.forall_mem_nil _⟩⟩
    · rw [if_neg (by rw [hc]; decide)] at hst
      have FF := And.intro w3 FF
      refine awp_rlast (by decide) fun KK hKK => ?_
      refine m_move ?_
      refine m_move ?_
      refine m_move ?_
      refine m_bin ?_
      refine m_build ?_
      refine m_sliceN ?_
      first | refine m_appOwn ?_ | refine m_appEmp ?_
      refine m_assign ?_
      refine hKK _ _ ?_
      clear hKK KK
      first | rw [thenQ_normal] | rw [blockQ_normal, thenQ_normal]
      have FF := And.intro w3 FF
      refine awp_rlast (by decide) fun KK hKK => ?_
      refine m_move ?_
      refine m_bin ?_
      refine m_assign ?_
      refine hKK _ _ ?_
      clear hKK KK
      try rw [thenQ_normal]
      refine ⟨w + 1, ?_, ?_, (by simp only [List.forall_mem_cons, List.forall_mem_nil, go_sem, reduceIte, Nat.reduceEqDiff, FF, hst, List.length_append, List.length_cons, List.length_nil]; all_goals ((repeat' apply And.intro) <;> first | trivial | rfl | exact objLe_refl _ | (intro _ _; exact Subs.refl _))), ?_⟩
      · exact hw'
      · omega
      · rw [hst]
        exact List.forall_mem_cons.2 ⟨objLe_of (by simp only [go_sem, reduceIte, Nat.reduceEqDiff, List.length_append, List.length_cons, List.length_nil, FF]), List.forall_mem_cons.2 ⟨snoc_row cellsS (0, 0) O ((w : Int), ((w + 1 : Nat) : Int)), List.forall_mem_nil _⟩⟩
  · refine awp_exit ?_
    simp only [thenQ_exit, blockQ_exit, reduceIte, Nat.reduceEqDiff]
    try rw [thenQ_normal]
    have hw' : w = W := by simp only [decide_eq_false_iff_not] at hc; omega
    rw [← hw']
    refine m_frz 100 [(5, .c (encSpans (gapsTo p w)))] [] ?_
    refine awp_rseq (by decide) fun KK hKK => ?_
    refine m_move ?_
    refine m_assign ?_
    refine hKK _ _ ?_
    clear hKK KK
    refine awp_ret ⟨[_], ⟨⟨(by simp only [go_sem, reduceIte, Nat.reduceEqDiff, FF]), (by simp only [go_sem, reduceIte, Nat.reduceEqDiff, FF] <;> rfl)⟩, trivial⟩, ?_⟩
    simp only [go_sem, reduceIte, Nat.reduceEqDiff, FF, tupled]
    exact CV.Sub.refl _
end Go.Am
