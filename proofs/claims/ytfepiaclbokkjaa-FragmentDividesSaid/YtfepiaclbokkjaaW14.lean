/- Contracts: the greatest number of words that edges cover; the examples of the chapter. No condition. -/
import Derived.Test.YtfepiaclbokkjaaW13
namespace Go.Am
open Go.Proofs
attribute [local go_sem ↓] ofL_cons ofH_cons upd_apply
attribute [local go_sem] cellsE cellsC cellsP
set_option maxHeartbeats 2000000
set_option linter.unusedSimpArgs false
set_option linter.unusedVariables false

def bestRow (c : Ch) (B : Nat → Int) (a : Nat) : Nat → Int
  | 0 => B (a + 1)
  | i + 1 => if (c.edges.getD i default).frm == (a : Int) then
      (if bestRow c B a i < (c.edges.getD i default).to - (c.edges.getD i default).frm + B (c.edges.getD i default).to.toNat then (c.edges.getD i default).to - (c.edges.getD i default).frm + B (c.edges.getD i default).to.toNat else bestRow c B a i)
    else bestRow c B a i
theorem bestRow_succ (c : Ch) (B : Nat → Int) (a i : Nat) : bestRow c B a (i + 1) = if (c.edges.getD i default).frm == (a : Int) then
      (if bestRow c B a i < (c.edges.getD i default).to - (c.edges.getD i default).frm + B (c.edges.getD i default).to.toNat then (c.edges.getD i default).to - (c.edges.getD i default).frm + B (c.edges.getD i default).to.toNat else bestRow c B a i)
    else bestRow c B a i := rfl
def bestN (c : Ch) : Nat → Nat → Int
  | 0, _ => 0
  | N + 1, a => if c.words ≤ (a : Int) then 0 else bestRow c (bestN c N) a c.edges.length

theorem bestRow_bd {c : Ch} (h : Ok c) {B : Nat → Int} {a : Nat} (ha : (a : Int) < c.words) (hB : ∀ q, a < q → (q : Int) ≤ c.words → 0 ≤ B q ∧ B q ≤ c.words - q) : ∀ i, i ≤ c.edges.length → 0 ≤ bestRow c B a i ∧ bestRow c B a i ≤ c.words - a
  | 0, _ => by
    have := hB (a + 1) (by omega) (by omega)
    rw [bestRow]
    omega
  | i + 1, hi => by
    have ih := bestRow_bd h ha hB i (by omega)
    have hs := h.span (c.edges.getD i default) (by rw [getD_lt (by omega)]; exact List.getElem_mem _)
    rw [bestRow]
    split
    · rename_i hf
      have hf : (c.edges.getD i default).frm = (a : Int) := by simpa using hf
      have := hB (c.edges.getD i default).to.toNat (by omega) (by omega)
      split <;> omega
    · exact ih
theorem bestN_bd {c : Ch} (h : Ok c) : ∀ N a : Nat, (a : Int) ≤ c.words → 0 ≤ bestN c N a ∧ bestN c N a ≤ c.words - a
  | 0, a, ha => by rw [bestN]; omega
  | N + 1, a, ha => by
    rw [bestN]
    split
    · omega
    · exact bestRow_bd h (by omega) (fun q _ h2 => bestN_bd h N q h2) _ (Nat.le_refl _)

theorem best_ok (c : Ch) (h : Ok c) : ∀ (N a : Nat), c.words - a ≤ N → (a : Int) ≤ c.words → APure Try.prog 20 [.agg (cellsC c), .int a] (.int (bestN c N a)) := by
  intro N
  induction N with
  | zero =>
    intro a hN ha
    have FF : True := trivial
    refine apure_of Try.func20 rfl (by kernel_rfl) (by simp [Try.ntmps20]) ?_
    rw [Try.ntmps20]
    refine awp_rseq (by decide) fun KK hKK => ?_
    refine m_box ?_
    refine m_assign ?_
    refine hKK _ _ ?_
    clear hKK KK
    refine awp_seq ?_
    refine awp_rseq (by decide) fun KK hKK => ?_
    refine m_move ?_
    refine m_field ?_
    refine m_load ?_
    refine m_bin ?_
    refine hKK _ _ ?_
    clear hKK KK
    refine m_cond (fun hc => ?_) (fun hc => ?_)
    · refine awp_rseq (by decide) fun KK hKK => ?_
      refine m_assign ?_
      refine hKK _ _ ?_
      clear hKK KK
      refine awp_ret ⟨[_], ⟨⟨(by simp only [go_sem, reduceIte, Nat.reduceEqDiff, FF]), (by simp only [go_sem, reduceIte, Nat.reduceEqDiff, FF] <;> rfl)⟩, trivial⟩, ?_⟩
      simp only [go_sem, reduceIte, Nat.reduceEqDiff, FF, tupled]
      exact CV.Sub.refl _
    · exfalso
      simp only [decide_eq_false_iff_not] at hc
      omega
  | succ N ih =>
    intro a hN ha
    have hw := h.words
    have hL := h.len
    have FF : True := trivial
    refine apure_of Try.func20 rfl (by kernel_rfl) (by simp [Try.ntmps20]) ?_
    rw [Try.ntmps20]
    refine awp_rseq (by decide) fun KK hKK => ?_
    refine m_box ?_
    refine m_assign ?_
    refine hKK _ _ ?_
    clear hKK KK
    refine awp_seq ?_
    refine awp_rseq (by decide) fun KK hKK => ?_
    refine m_move ?_
    refine m_field ?_
    refine m_load ?_
    refine m_bin ?_
    refine hKK _ _ ?_
    clear hKK KK
    refine m_cond (fun hc => ?_) (fun hc => ?_)
    · refine awp_rseq (by decide) fun KK hKK => ?_
      refine m_assign ?_
      refine hKK _ _ ?_
      clear hKK KK
      refine awp_ret ⟨[_], ⟨⟨(by simp only [go_sem, reduceIte, Nat.reduceEqDiff, FF]), (by simp only [go_sem, reduceIte, Nat.reduceEqDiff, FF] <;> rfl)⟩, trivial⟩, ?_⟩
      simp only [go_sem, reduceIte, Nat.reduceEqDiff, FF, tupled]
      simp only [decide_eq_true_eq] at hc
      rw [bestN, if_pos hc]
      exact CV.Sub.refl _
    have ha' : ¬ c.words ≤ (a : Int) := by simpa using hc
    have hbn : bestN c (N + 1) a = bestRow c (bestN c N) a c.edges.length := by rw [bestN, if_neg ha']
    have w1 : IntKind.i64.wrap ((a : Int) + 1) = ((a + 1 : Nat) : Int) := wrap_in (by omega)
    clear hc
    refine awp_skip ?_
    first | rw [thenQ_normal] | rw [blockQ_normal, thenQ_normal]
    have FF := And.intro w1 FF
    refine awp_rseq (by decide) fun KK hKK => ?_
    refine m_load ?_
    refine m_move ?_
    refine m_bin ?_
    refine m_call (fun hG => ih (a + 1) (by omega) (by omega)) ?_
    refine m_assign ?_
    refine hKK _ _ ?_
    clear hKK KK
    refine awp_seq ?_
    refine awp_rseq (by decide) fun KK hKK => ?_
    refine m_field ?_
    refine m_load ?_
    refine m_len ?_
    refine m_move ?_
    refine hKK _ _ ?_
    clear hKK KK
    refine awp_block ?_
    refine m_for (ι := Nat) (fun i => [(1, .int a), (2, .ptr 2 0), (5, .int (bestRow c (bestN c N) a i)), (17, .c (encEs c.edges)), (18, .int c.edges.length), (19, .int i)]) (fun i => [(2, .box 24 ((cellsC c).map .c))]) (fun i => c.edges.length - i) (fun i => i ≤ c.edges.length) (0) ?_ ?_
    · exact Nat.zero_le _
    intro i hi
    refine awp_rseq (by decide) fun KK hKK => ?_
    refine m_bin ?_
    refine hKK _ _ ?_
    clear hKK KK
    refine awp_seq ?_
    refine m_cond (fun hc => ?_) (fun hc => ?_)
    · simp only [decide_eq_true_eq] at hc
      have hi' : i < c.edges.length := by omega
      have w3 : IntKind.i64.wrap ((i : Int) + 1) = ((i + 1 : Nat) : Int) := wrap_in (by omega)
      have hst := bestRow_succ c (bestN c N) a i
      have hbd := bestRow_bd h (B := bestN c N) (a := a) (by omega) (fun q _ h2 => bestN_bd h N q h2) i hi
      generalize bestRow c (bestN c N) a i = M at hst hbd ⊢
      obtain ⟨e, he⟩ : ∃ e, e = c.edges.getD i default := ⟨_, rfl⟩
      have hs := h.span e (by rw [he, getD_lt hi']; exact List.getElem_mem _)
      rw [← he] at hst
      obtain ⟨T, hT⟩ : ∃ T : Nat, e.to = (T : Int) := ⟨e.to.toNat, by omega⟩
      have hTt : e.to.toNat = T := by omega
      rw [hTt, hT] at hst
      have hb2 := bestN_bd h N T (by omega)
      have w4 : IntKind.i64.wrap ((T : Int) - e.frm) = (T : Int) - e.frm := wrap_in (by omega)
      have w5 : IntKind.i64.wrap ((T : Int) - e.frm + bestN c N T) = (T : Int) - e.frm + bestN c N T := wrap_in (by omega)
      refine awp_skip ?_
      first | rw [thenQ_normal] | rw [blockQ_normal, thenQ_normal]
      refine awp_seq (awp_block ?_)
      clear hc
      have FF := And.intro he.symm FF
      refine awp_rseq (by decide) fun KK hKK => ?_
      refine m_index ?_
      refine m_load ?_
      refine m_alloc ?_
      first | refine m_stPtr ?_ | refine m_stRp ?_
      refine hKK _ _ ?_
      clear hKK KK
      refine awp_rseq (by decide) fun KK hKK => ?_
      refine m_field ?_
      refine m_load ?_
      refine m_move ?_
      refine m_bin ?_
      refine hKK _ _ ?_
      clear hKK KK
      refine m_cond (fun hc => ?_) (fun hc => ?_)
      · rw [if_pos hc] at hst
        have hf : e.frm = (a : Int) := by simpa using hc
        have FF := And.intro hT (And.intro w4 (And.intro w5 FF))
        refine awp_rlast_draw Try.mixed (by decide) (by kernel_rfl) fun KK hKK => ?_
        refine m_move ?_
        refine m_field ?_
        refine m_load ?_
        refine m_field ?_
        refine m_load ?_
        refine m_bin ?_
        refine m_load ?_
        refine m_field ?_
        refine m_load ?_
        refine m_call (fun hG => ih T (by omega) (by omega)) ?_
        refine m_bin ?_
        refine m_max ?_
        refine m_assign ?_
        refine hKK _ _ ?_
        clear hKK KK
        first | rw [thenQ_normal] | rw [blockQ_normal, thenQ_normal]
        have FF := And.intro w3 FF
        refine awp_rlast (by decide) fun KK hKK => ?_
        refine m_bin ?_
        refine m_move ?_
        refine hKK _ _ ?_
        clear hKK KK
        have FF := And.intro hst FF
        try rw [thenQ_normal]
        refine m_next (i + 1) ?_ ?_
        · exact hi'
        · omega
      · rw [if_neg (by rw [hc]; decide)] at hst
        refine awp_skip ?_
        first | rw [thenQ_normal] | rw [blockQ_normal, thenQ_normal]
        have FF := And.intro w3 FF
        refine awp_rlast (by decide) fun KK hKK => ?_
        refine m_bin ?_
        refine m_move ?_
        refine hKK _ _ ?_
        clear hKK KK
        have FF := And.intro hst FF
        try rw [thenQ_normal]
        refine m_next (i + 1) ?_ ?_
        · exact hi'
        · omega
    · refine awp_exit ?_
      simp only [thenQ_exit, blockQ_exit, reduceIte, Nat.reduceEqDiff]
      try rw [thenQ_normal]
      have hi' : i = c.edges.length := by simp only [decide_eq_false_iff_not] at hc; omega
      rw [hbn, ← hi']
      refine awp_rseq (by decide) fun KK hKK => ?_
      refine m_move ?_
      refine m_assign ?_
      refine hKK _ _ ?_
      clear hKK KK
      refine awp_ret ⟨[_], ⟨⟨(by simp only [go_sem, reduceIte, Nat.reduceEqDiff, FF]), (by simp only [go_sem, reduceIte, Nat.reduceEqDiff, FF] <;> rfl)⟩, trivial⟩, ?_⟩
      simp only [go_sem, reduceIte, Nat.reduceEqDiff, FF, tupled]
      exact CV.Sub.refl _

def exA : Ch := canonF (buildF 4 [itemE ⟨#[97]⟩ 0 1, itemE ⟨#[98]⟩ 1 3, itemE ⟨#[99]⟩ 2 4])
def exB : Ch := canonF (buildF 3 [itemE ⟨#[97]⟩ 0 1, itemE ⟨#[98]⟩ 0 2, itemE ⟨#[99]⟩ 2 3])
def exC : Ch := canonF (buildF 2 [itemE ⟨#[97]⟩ 0 1, itemE ⟨#[98]⟩ 1 2, itemE ⟨#[99]⟩ 0 2])
theorem ex1 : decide (coverF exA = [0, 1]) = true := by decide +kernel
theorem ex2 : decide (gapsF exA [0, 1] = [(3, 4)]) = true := by decide +kernel
theorem ex3 : decide (maxF exB = [1, 2]) = true := by decide +kernel
theorem ex4 : decide (coverF exC = [2]) = true := by decide +kernel
theorem ex5 : decide (gapsF exA [] = [(0, 4)]) = true := by decide +kernel
end Go.Am
