/- Contracts: the better of two plans, twice. No condition. -/
import Derived.Test.YtfepiaclbokkjaaW8
namespace Go.Am
open Go.Proofs
attribute [local go_sem ↓] ofL_cons ofH_cons upd_apply
set_option maxHeartbeats 1000000
set_option linter.unusedSimpArgs false

abbrev Pl := Int × List Int
def cellsP (p : Pl) : List CV := [.int p.1, encInts p.2]
attribute [local go_sem] cellsP
def lexLt : List Int → List Int → Bool
  | x :: r, y :: q => if x != y then decide (x < y) else lexLt r q
  | _, _ => false
def betterF (a b : Pl) : Bool :=
  if a.1 != b.1 then decide (b.1 < a.1) else if ((a.2.length : Nat) : Int) != ((b.2.length : Nat) : Int) then decide (((a.2.length : Nat) : Int) < ((b.2.length : Nat) : Int)) else lexLt a.2 b.2
theorem lexLt_drop {a b : List Int} {i : Nat} (h1 : i < a.length) (h2 : i < b.length) : lexLt (a.drop i) (b.drop i) = if a.getD i 0 != b.getD i 0 then decide (a.getD i 0 < b.getD i 0) else lexLt (a.drop (i + 1)) (b.drop (i + 1)) := by
  rw [List.drop_eq_getElem_cons h1, List.drop_eq_getElem_cons h2, lexLt, getD_lt h1, getD_lt h2]

theorem better_ok (a b : Pl) (hl : a.2.length ≤ 1000000) : APure Try.prog 26 [.agg (cellsP a), .agg (cellsP b)] (.bool (betterF a b)) := by
  have FF : True := trivial
  refine apure_of Try.func26 rfl (by kernel_rfl) (by simp [Try.ntmps26]) ?_
  rw [Try.ntmps26]
  unfold betterF
  refine awp_rseq (by decide) fun KK hKK => ?_
  refine m_box ?_
  refine m_box ?_
  refine m_assign ?_
  refine hKK _ _ ?_
  clear hKK KK
  refine awp_seq ?_
  refine awp_rseq (by decide) fun KK hKK => ?_
  refine m_field ?_
  refine m_load ?_
  refine m_field ?_
  refine m_load ?_
  refine m_bin ?_
  refine hKK _ _ ?_
  clear hKK KK
  refine m_cond (fun hc => ?_) (fun hc => ?_)
  · rw [if_pos hc]
    refine awp_rseq (by decide) fun KK hKK => ?_
    refine m_field ?_
    refine m_load ?_
    refine m_field ?_
    refine m_load ?_
    refine m_bin ?_
    refine m_assign ?_
    refine hKK _ _ ?_
    clear hKK KK
    refine awp_ret ⟨[_], ⟨⟨(by simp only [go_sem, reduceIte, Nat.reduceEqDiff, FF]), (by simp only [go_sem, reduceIte, Nat.reduceEqDiff, FF] <;> rfl)⟩, trivial⟩, ?_⟩
    simp only [go_sem, reduceIte, Nat.reduceEqDiff, FF, tupled]
    exact CV.Sub.refl _
  refine awp_skip ?_
  first | rw [thenQ_normal] | rw [blockQ_normal, thenQ_normal]
  rw [if_neg (by rw [hc]; decide)]
  clear hc
  refine awp_seq ?_
  refine awp_rseq (by decide) fun KK hKK => ?_
  refine m_field ?_
  refine m_load ?_
  refine m_len ?_
  refine m_field ?_
  refine m_load ?_
  refine m_len ?_
  refine m_bin ?_
  refine hKK _ _ ?_
  clear hKK KK
  refine m_cond (fun hc => ?_) (fun hc => ?_)
  · rw [if_pos hc]
    refine awp_rseq (by decide) fun KK hKK => ?_
    refine m_field ?_
    refine m_load ?_
    refine m_len ?_
    refine m_field ?_
    refine m_load ?_
    refine m_len ?_
    refine m_bin ?_
    refine m_assign ?_
    refine hKK _ _ ?_
    clear hKK KK
    refine awp_ret ⟨[_], ⟨⟨(by simp only [go_sem, reduceIte, Nat.reduceEqDiff, FF]), (by simp only [go_sem, reduceIte, Nat.reduceEqDiff, FF] <;> rfl)⟩, trivial⟩, ?_⟩
    simp only [go_sem, reduceIte, Nat.reduceEqDiff, FF, tupled]
    exact CV.Sub.refl _
  refine awp_skip ?_
  first | rw [thenQ_normal] | rw [blockQ_normal, thenQ_normal]
  rw [if_neg (by rw [hc]; decide)]
  have hab : a.2.length = b.2.length := by simp only [bne_eq_false_iff_eq] at hc; omega
  clear hc
  refine awp_seq ?_
  refine awp_rseq (by decide) fun KK hKK => ?_
  refine m_field ?_
  refine m_load ?_
  refine m_len ?_
  refine m_move ?_
  refine hKK _ _ ?_
  clear hKK KK
  refine awp_block ?_
  refine m_for (ι := Nat) (fun i => [(2, .ptr 2 0), (3, .ptr 3 0), (32, .int a.2.length), (33, .int i)]) (fun i => [(2, .box 55 ((cellsP a).map .c)), (3, .box 55 ((cellsP b).map .c))]) (fun i => a.2.length - i) (fun i => i ≤ a.2.length ∧ lexLt (a.2.drop i) (b.2.drop i) = lexLt a.2 b.2) (0) ?_ ?_
  · exact ⟨Nat.zero_le _, rfl⟩
  rintro i ⟨hi, hres⟩
  refine awp_rseq (by decide) fun KK hKK => ?_
  refine m_bin ?_
  refine hKK _ _ ?_
  clear hKK KK
  refine awp_seq ?_
  refine m_cond (fun hc => ?_) (fun hc => ?_)
  · simp only [decide_eq_true_eq] at hc
    have hi' : i < a.2.length := by omega
    have hi2 : i < b.2.length := by omega
    have w3 : IntKind.i64.wrap ((i : Int) + 1) = ((i + 1 : Nat) : Int) := wrap_in (by omega)
    have hstep := lexLt_drop hi' hi2
    rw [hres] at hstep
    refine awp_skip ?_
    first | rw [thenQ_normal] | rw [blockQ_normal, thenQ_normal]
    refine awp_seq (awp_block ?_)
    clear hc
    refine awp_rseq (by decide) fun KK hKK => ?_
    refine m_move ?_
    refine m_assign ?_
    refine hKK _ _ ?_
    clear hKK KK
    refine awp_rseq_draw Try.mixed (by decide) (by kernel_rfl) fun KK hKK => ?_
    refine m_field ?_
    refine m_load ?_
    refine m_move ?_
    refine m_index ?_
    refine m_load ?_
    refine m_field ?_
    refine m_load ?_
    refine m_move ?_
    refine m_index ?_
    refine m_load ?_
    refine m_bin ?_
    refine hKK _ _ ?_
    clear hKK KK
    refine m_cond (fun hc => ?_) (fun hc => ?_)
    · refine awp_rseq_draw Try.mixed (by decide) (by kernel_rfl) fun KK hKK => ?_
      refine m_field ?_
      refine m_load ?_
      refine m_move ?_
      refine m_index ?_
      refine m_load ?_
      refine m_field ?_
      refine m_load ?_
      refine m_move ?_
      refine m_index ?_
      refine m_load ?_
      refine m_bin ?_
      refine m_assign ?_
      refine hKK _ _ ?_
      clear hKK KK
      refine awp_ret ⟨[_], ⟨⟨(by simp only [go_sem, reduceIte, Nat.reduceEqDiff, FF]), (by simp only [go_sem, reduceIte, Nat.reduceEqDiff, FF] <;> rfl)⟩, trivial⟩, ?_⟩
      simp only [go_sem, reduceIte, Nat.reduceEqDiff, FF, tupled]
      exact CV.Sub.of_eq (by rw [hstep, if_pos hc])
    refine awp_skip ?_
    first | rw [thenQ_normal] | rw [blockQ_normal, thenQ_normal]
    have FF := And.intro w3 FF
    refine awp_rlast (by decide) fun KK hKK => ?_
    refine m_bin ?_
    refine m_move ?_
    refine hKK _ _ ?_
    clear hKK KK
    try rw [thenQ_normal]
    refine m_next (i + 1) ?_ ?_
    · exact ⟨hi', by rw [hstep, if_neg (by rw [hc]; decide)]⟩
    · omega
  · refine awp_exit ?_
    simp only [thenQ_exit, blockQ_exit, reduceIte, Nat.reduceEqDiff]
    try rw [thenQ_normal]
    have hi' : i = a.2.length := by simp only [decide_eq_false_iff_not] at hc; omega
    refine awp_rseq (by decide) fun KK hKK => ?_
    refine m_assign ?_
    refine hKK _ _ ?_
    clear hKK KK
    refine awp_ret ⟨[_], ⟨⟨(by simp only [go_sem, reduceIte, Nat.reduceEqDiff, FF]), (by simp only [go_sem, reduceIte, Nat.reduceEqDiff, FF] <;> rfl)⟩, trivial⟩, ?_⟩
    simp only [go_sem, reduceIte, Nat.reduceEqDiff, FF, tupled]
    refine CV.Sub.of_eq ?_
    rw [← hres, hi', List.drop_length, lexLt]
    simp

theorem rbetter_ok (a b : Pl) (hl : a.2.length ≤ 1000000) : APure Try.prog 27 [.agg (cellsP a), .agg (cellsP b)] (.bool (betterF a b)) := by
  have FF : True := trivial
  refine apure_of Try.func27 rfl (by kernel_rfl) (by simp [Try.ntmps27]) ?_
  rw [Try.ntmps27]
  unfold betterF
  refine awp_rseq (by decide) fun KK hKK => ?_
  refine m_box ?_
  refine m_box ?_
  refine m_assign ?_
  refine hKK _ _ ?_
  clear hKK KK
  refine awp_seq ?_
  refine awp_rseq (by decide) fun KK hKK => ?_
  refine m_field ?_
  refine m_load ?_
  refine m_field ?_
  refine m_load ?_
  refine m_bin ?_
  refine hKK _ _ ?_
  clear hKK KK
  refine m_cond (fun hc => ?_) (fun hc => ?_)
  · rw [if_pos hc]
    refine awp_rseq (by decide) fun KK hKK => ?_
    refine m_field ?_
    refine m_load ?_
    refine m_field ?_
    refine m_load ?_
    refine m_bin ?_
    refine m_assign ?_
    refine hKK _ _ ?_
    clear hKK KK
    refine awp_ret ⟨[_], ⟨⟨(by simp only [go_sem, reduceIte, Nat.reduceEqDiff, FF]), (by simp only [go_sem, reduceIte, Nat.reduceEqDiff, FF] <;> rfl)⟩, trivial⟩, ?_⟩
    simp only [go_sem, reduceIte, Nat.reduceEqDiff, FF, tupled]
    exact CV.Sub.refl _
  refine awp_skip ?_
  first | rw [thenQ_normal] | rw [blockQ_normal, thenQ_normal]
  rw [if_neg (by rw [hc]; decide)]
  clear hc
  refine awp_seq ?_
  refine awp_rseq (by decide) fun KK hKK => ?_
  refine m_field ?_
  refine m_load ?_
  refine m_len ?_
  refine m_field ?_
  refine m_load ?_
  refine m_len ?_
  refine m_bin ?_
  refine hKK _ _ ?_
  clear hKK KK
  refine m_cond (fun hc => ?_) (fun hc => ?_)
  · rw [if_pos hc]
    refine awp_rseq (by decide) fun KK hKK => ?_
    refine m_field ?_
    refine m_load ?_
    refine m_len ?_
    refine m_field ?_
    refine m_load ?_
    refine m_len ?_
    refine m_bin ?_
    refine m_assign ?_
    refine hKK _ _ ?_
    clear hKK KK
    refine awp_ret ⟨[_], ⟨⟨(by simp only [go_sem, reduceIte, Nat.reduceEqDiff, FF]), (by simp only [go_sem, reduceIte, Nat.reduceEqDiff, FF] <;> rfl)⟩, trivial⟩, ?_⟩
    simp only [go_sem, reduceIte, Nat.reduceEqDiff, FF, tupled]
    exact CV.Sub.refl _
  refine awp_skip ?_
  first | rw [thenQ_normal] | rw [blockQ_normal, thenQ_normal]
  rw [if_neg (by rw [hc]; decide)]
  have hab : a.2.length = b.2.length := by simp only [bne_eq_false_iff_eq] at hc; omega
  clear hc
  refine awp_seq ?_
  refine awp_rseq (by decide) fun KK hKK => ?_
  refine m_assign ?_
  refine hKK _ _ ?_
  clear hKK KK
  refine awp_block ?_
  refine m_for (ι := Nat) (fun i => [(2, .ptr 2 0), (3, .ptr 3 0), (5, .int i)]) (fun i => [(2, .box 59 ((cellsP a).map .c)), (3, .box 59 ((cellsP b).map .c))]) (fun i => a.2.length - i) (fun i => i ≤ a.2.length ∧ lexLt (a.2.drop i) (b.2.drop i) = lexLt a.2 b.2) (0) ?_ ?_
  · exact ⟨Nat.zero_le _, rfl⟩
  rintro i ⟨hi, hres⟩
  refine awp_seq ?_
  refine awp_rseq (by decide) fun KK hKK => ?_
  refine m_move ?_
  refine m_field ?_
  refine m_load ?_
  refine m_len ?_
  refine m_bin ?_
  refine hKK _ _ ?_
  clear hKK KK
  refine m_cond (fun hc => ?_) (fun hc => ?_)
  · simp only [decide_eq_true_eq] at hc
    have hi' : i < a.2.length := by omega
    have hi2 : i < b.2.length := by omega
    have w3 : IntKind.i64.wrap ((i : Int) + 1) = ((i + 1 : Nat) : Int) := wrap_in (by omega)
    have hstep := lexLt_drop hi' hi2
    rw [hres] at hstep
    refine awp_skip ?_
    first | rw [thenQ_normal] | rw [blockQ_normal, thenQ_normal]
    refine awp_seq (awp_block ?_)
    clear hc
    refine awp_rseq_draw Try.mixed (by decide) (by kernel_rfl) fun KK hKK => ?_
    refine m_field ?_
    refine m_load ?_
    refine m_move ?_
    refine m_index ?_
    refine m_load ?_
    refine m_field ?_
    refine m_load ?_
    refine m_move ?_
    refine m_index ?_
    refine m_load ?_
    refine m_bin ?_
    refine hKK _ _ ?_
    clear hKK KK
    refine m_cond (fun hc => ?_) (fun hc => ?_)
    · refine awp_rseq_draw Try.mixed (by decide) (by kernel_rfl) fun KK hKK => ?_
      refine m_field ?_
      refine m_load ?_
      refine m_move ?_
      refine m_index ?_
      refine m_load ?_
      refine m_field ?_
      refine m_load ?_
      refine m_move ?_
      refine m_index ?_
      refine m_load ?_
      refine m_bin ?_
      refine m_assign ?_
      refine hKK _ _ ?_
      clear hKK KK
      refine awp_ret ⟨[_], ⟨⟨(by simp only [go_sem, reduceIte, Nat.reduceEqDiff, FF]), (by simp only [go_sem, reduceIte, Nat.reduceEqDiff, FF] <;> rfl)⟩, trivial⟩, ?_⟩
      simp only [go_sem, reduceIte, Nat.reduceEqDiff, FF, tupled]
      exact CV.Sub.of_eq (by rw [hstep, if_pos hc])
    refine awp_skip ?_
    first | rw [thenQ_normal] | rw [blockQ_normal, thenQ_normal]
    have FF := And.intro w3 FF
    refine awp_rlast (by decide) fun KK hKK => ?_
    refine m_move ?_
    refine m_bin ?_
    refine m_assign ?_
    refine hKK _ _ ?_
    clear hKK KK
    try rw [thenQ_normal]
    refine m_next (i + 1) ?_ ?_
    · exact ⟨hi', by rw [hstep, if_neg (by rw [hc]; decide)]⟩
    · omega
  · refine awp_exit ?_
    simp only [thenQ_exit, blockQ_exit, reduceIte, Nat.reduceEqDiff]
    try rw [thenQ_normal]
    have hi' : i = a.2.length := by simp only [decide_eq_false_iff_not] at hc; omega
    refine awp_rseq (by decide) fun KK hKK => ?_
    refine m_assign ?_
    refine hKK _ _ ?_
    clear hKK KK
    refine awp_ret ⟨[_], ⟨⟨(by simp only [go_sem, reduceIte, Nat.reduceEqDiff, FF]), (by simp only [go_sem, reduceIte, Nat.reduceEqDiff, FF] <;> rfl)⟩, trivial⟩, ?_⟩
    simp only [go_sem, reduceIte, Nat.reduceEqDiff, FF, tupled]
    refine CV.Sub.of_eq ?_
    rw [← hres, hi', List.drop_length, lexLt]
    simp
end Go.Am
