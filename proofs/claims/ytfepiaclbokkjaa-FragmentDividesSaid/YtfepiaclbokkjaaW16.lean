/- The walks of three laws: maximal edges, the cover, the gaps. No condition. -/
import Derived.Test.YtfepiaclbokkjaaW15
namespace Go.Am
open Go.Proofs
attribute [local go_sem ↓] ofL_cons ofH_cons upd_apply
attribute [local go_sem] cellsE cellsC
set_option maxHeartbeats 2000000
set_option linter.unusedSimpArgs false
set_option linter.unusedVariables false

theorem chart_of (words : Int) (h0 : 0 ≤ words) (h1 : words ≤ 255) (l : List Ed) : ∃ c b, chartedF words l = (c, b) ∧ (b = true → Ok c) ∧ APure Try.prog 9 [.raw (.int .u8 words), encEs l] (.tup [.agg (cellsC c), .bool b]) := by
  refine ⟨(chartedF words l).1, (chartedF words l).2, rfl, fun hb => ?_, charted_ok words h0 h1 l⟩
  by_cases h : lightF l 14 = true
  · have hs : chartedF words l = (canonF (buildF (1 + words.tmod 8) l), true) := by unfold chartedF; rw [h]; rfl
    rw [hs]
    obtain ⟨hl, ho⟩ := light_lex h
    exact canon_ok (build_wf _ hl ho)
  · have h : lightF l 14 = false := by simpa using h
    have hs : (chartedF words l).2 = false := by unfold chartedF; rw [h]; rfl
    rw [hs] at hb
    cases hb

theorem maxF_len {c : Ch} (h : Ok c) : (maxF c).length ≤ 1000000 := Nat.le_trans (maxTo_len c _) h.len
theorem coverF_len {c : Ch} (h : Ok c) : (coverF c).length ≤ 32 := by
  have := (dpB_ok h c.words.toNat (Nat.le_refl _) 0 (by omega) (by omega)).1
  have hw := h.words
  unfold coverF
  omega
theorem gapsF_len {c : Ch} (h : Ok c) (l : List Int) : (gapsF c l).length ≤ 32 := by
  have := gapsTo_len (coveredF c l) c.words.toNat
  have hw := h.words
  unfold gapsF
  omega

theorem lawMaximal (words : Int) (h0 : 0 ≤ words) (h1 : words ≤ 255) (l : List Ed) : APure Try.prog 3 [.raw (.int .u8 words), encEs l] (.bool true) := by
  obtain ⟨c, b, -, hok, hch⟩ := chart_of words h0 h1 l
  have FF : True := trivial
  refine apure_of Try.func3 rfl (by kernel_rfl) (by simp [Try.ntmps3]) ?_
  rw [Try.ntmps3]
  refine awp_rseq (by decide) fun KK hKK => ?_
  refine m_assign ?_
  refine hKK _ _ ?_
  clear hKK KK
  refine awp_rseq (by decide) fun KK hKK => ?_
  refine m_move ?_
  refine m_move ?_
  refine m_call (fun hG => hch) ?_
  refine m_move ?_
  refine m_extract ?_
  refine m_extract ?_
  refine m_alloc ?_
  first | refine m_stPtr ?_ | refine m_stRp ?_
  refine m_assign ?_
  refine hKK _ _ ?_
  clear hKK KK
  refine awp_seq ?_
  refine awp_rseq (by decide) fun KK hKK => ?_
  refine m_move ?_
  refine m_not ?_
  refine hKK _ _ ?_
  clear hKK KK
  refine m_cond (fun hc => ?_) (fun hc => ?_)
  · refine awp_rseq (by decide) fun KK hKK => ?_
    refine m_call (fun hG => example_ok) ?_
    refine m_assign ?_
    refine hKK _ _ ?_
    clear hKK KK
    refine awp_ret ⟨[_], ⟨⟨(by simp only [go_sem, reduceIte, Nat.reduceEqDiff, FF]), (by simp only [go_sem, reduceIte, Nat.reduceEqDiff, FF] <;> rfl)⟩, trivial⟩, ?_⟩
    simp only [go_sem, reduceIte, Nat.reduceEqDiff, FF, tupled]
    exact CV.Sub.refl _
  refine awp_skip ?_
  first | rw [thenQ_normal] | rw [blockQ_normal, thenQ_normal]
  have hk : Ok c := hok (by simpa using hc)
  have hd : decide (maxF c = maxF c) = true := decide_eq_true rfl
  clear hc
  have FF := And.intro hd FF
  refine awp_rseq_draw Try.mixed (by decide) (by kernel_rfl) fun KK hKK => ?_
  refine m_load ?_
  refine m_call (fun hG => maximal_ok c hk.len) ?_
  refine m_load ?_
  refine m_call (fun hG => rmaximal_ok c hk.len) ?_
  refine m_call (fun hG => same_ok (maxF c) (maxF c) (maxF_len hk)) ?_
  refine m_move ?_
  refine g_call (fun hG => example_ok) ?_
  refine m_pick ?_
  refine m_assign ?_
  refine hKK _ _ ?_
  clear hKK KK
  refine awp_ret ⟨[_], ⟨⟨(by simp only [go_sem, reduceIte, Nat.reduceEqDiff, FF]), (by simp only [go_sem, reduceIte, Nat.reduceEqDiff, FF] <;> rfl)⟩, trivial⟩, ?_⟩
  simp only [go_sem, reduceIte, Nat.reduceEqDiff, FF, tupled]
  exact CV.Sub.refl _

theorem lawCovers (words : Int) (h0 : 0 ≤ words) (h1 : words ≤ 255) (l : List Ed) : APure Try.prog 4 [.raw (.int .u8 words), encEs l] (.bool true) := by
  obtain ⟨c, b, -, hok, hch⟩ := chart_of words h0 h1 l
  have FF : True := trivial
  refine apure_of Try.func4 rfl (by kernel_rfl) (by simp [Try.ntmps4]) ?_
  rw [Try.ntmps4]
  refine awp_rseq (by decide) fun KK hKK => ?_
  refine m_assign ?_
  refine hKK _ _ ?_
  clear hKK KK
  refine awp_rseq (by decide) fun KK hKK => ?_
  refine m_move ?_
  refine m_move ?_
  refine m_call (fun hG => hch) ?_
  refine m_move ?_
  refine m_extract ?_
  refine m_extract ?_
  refine m_alloc ?_
  first | refine m_stPtr ?_ | refine m_stRp ?_
  refine m_assign ?_
  refine hKK _ _ ?_
  clear hKK KK
  refine awp_seq ?_
  refine awp_rseq (by decide) fun KK hKK => ?_
  refine m_move ?_
  refine m_not ?_
  refine hKK _ _ ?_
  clear hKK KK
  refine m_cond (fun hc => ?_) (fun hc => ?_)
  · refine awp_rseq (by decide) fun KK hKK => ?_
    refine m_call (fun hG => example_ok) ?_
    refine m_assign ?_
    refine hKK _ _ ?_
    clear hKK KK
    refine awp_ret ⟨[_], ⟨⟨(by simp only [go_sem, reduceIte, Nat.reduceEqDiff, FF]), (by simp only [go_sem, reduceIte, Nat.reduceEqDiff, FF] <;> rfl)⟩, trivial⟩, ?_⟩
    simp only [go_sem, reduceIte, Nat.reduceEqDiff, FF, tupled]
    exact CV.Sub.refl _
  refine awp_skip ?_
  first | rw [thenQ_normal] | rw [blockQ_normal, thenQ_normal]
  have hk : Ok c := hok (by simpa using hc)
  have hd : decide (coverF c = coverF c) = true := decide_eq_true rfl
  clear hc
  have FF := And.intro hd FF
  refine awp_rseq_draw Try.mixed (by decide) (by kernel_rfl) fun KK hKK => ?_
  refine m_load ?_
  refine m_call (fun hG => cover_ok c hk) ?_
  refine m_load ?_
  refine m_call (fun hG => rcover_ok c hk) ?_
  refine m_call (fun hG => same_ok (coverF c) (coverF c) (Nat.le_trans (coverF_len hk) (by decide))) ?_
  refine m_move ?_
  refine g_call (fun hG => example_ok) ?_
  refine m_pick ?_
  refine m_assign ?_
  refine hKK _ _ ?_
  clear hKK KK
  refine awp_ret ⟨[_], ⟨⟨(by simp only [go_sem, reduceIte, Nat.reduceEqDiff, FF]), (by simp only [go_sem, reduceIte, Nat.reduceEqDiff, FF] <;> rfl)⟩, trivial⟩, ?_⟩
  simp only [go_sem, reduceIte, Nat.reduceEqDiff, FF, tupled]
  exact CV.Sub.refl _

theorem lawGaps (words : Int) (h0 : 0 ≤ words) (h1 : words ≤ 255) (l : List Ed) (n : List Int) : APure Try.prog 5 [.raw (.int .u8 words), encEs l, encInts n] (.bool true) := by
  obtain ⟨c, b, -, hok, hch⟩ := chart_of words h0 h1 l
  have FF : True := trivial
  refine apure_of Try.func5 rfl (by kernel_rfl) (by simp [Try.ntmps5]) ?_
  rw [Try.ntmps5]
  refine awp_rseq (by decide) fun KK hKK => ?_
  refine m_assign ?_
  refine hKK _ _ ?_
  clear hKK KK
  refine awp_rseq (by decide) fun KK hKK => ?_
  refine m_move ?_
  refine m_move ?_
  refine m_call (fun hG => hch) ?_
  refine m_move ?_
  refine m_extract ?_
  refine m_extract ?_
  refine m_alloc ?_
  first | refine m_stPtr ?_ | refine m_stRp ?_
  refine m_assign ?_
  refine hKK _ _ ?_
  clear hKK KK
  refine awp_seq ?_
  refine awp_rseq (by decide) fun KK hKK => ?_
  refine m_move ?_
  refine m_not ?_
  refine m_move ?_
  refine g_move ?_
  refine g_len ?_
  refine g_bin ?_
  refine m_pick ?_
  refine hKK _ _ ?_
  clear hKK KK
  refine m_cond (fun hc => ?_) (fun hc => ?_)
  · refine awp_rseq (by decide) fun KK hKK => ?_
    refine m_call (fun hG => example_ok) ?_
    refine m_assign ?_
    refine hKK _ _ ?_
    clear hKK KK
    refine awp_ret ⟨[_], ⟨⟨(by simp only [go_sem, reduceIte, Nat.reduceEqDiff, FF]), (by simp only [go_sem, reduceIte, Nat.reduceEqDiff, FF] <;> rfl)⟩, trivial⟩, ?_⟩
    simp only [go_sem, reduceIte, Nat.reduceEqDiff, FF, tupled]
    exact CV.Sub.refl _
  refine awp_skip ?_
  first | rw [thenQ_normal] | rw [blockQ_normal, thenQ_normal]
  have hb : b = true ∧ n.length ≤ 30 := by simp only [Bool.or_eq_false_iff, Bool.not_eq_false', decide_eq_false_iff_not] at hc; exact ⟨hc.1, by omega⟩
  have hk : Ok c := hok hb.1
  have hn : n.length ≤ 1000000 := by omega
  have hd : decide (gapsF c n = gapsF c n) = true := decide_eq_true rfl
  clear hc
  have FF := And.intro hd FF
  refine awp_rseq_draw Try.mixed (by decide) (by kernel_rfl) fun KK hKK => ?_
  refine m_load ?_
  refine m_move ?_
  refine m_call (fun hG => gaps_ok c hk n hn) ?_
  refine m_load ?_
  refine m_move ?_
  refine m_call (fun hG => rgaps_ok c hk n hn) ?_
  refine m_call (fun hG => sameSpans_ok (gapsF c n) (gapsF c n) (Nat.le_trans (gapsF_len hk n) (by decide))) ?_
  refine m_move ?_
  refine g_call (fun hG => example_ok) ?_
  refine m_pick ?_
  refine m_assign ?_
  refine hKK _ _ ?_
  clear hKK KK
  refine awp_ret ⟨[_], ⟨⟨(by simp only [go_sem, reduceIte, Nat.reduceEqDiff, FF]), (by simp only [go_sem, reduceIte, Nat.reduceEqDiff, FF] <;> rfl)⟩, trivial⟩, ?_⟩
  simp only [go_sem, reduceIte, Nat.reduceEqDiff, FF, tupled]
  exact CV.Sub.refl _
end Go.Am
