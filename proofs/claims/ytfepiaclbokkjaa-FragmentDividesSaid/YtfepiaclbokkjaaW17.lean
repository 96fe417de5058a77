/- The walks of two laws: the cover covers most words; maximal edges extend. No condition. -/
import Derived.Test.YtfepiaclbokkjaaW16
import Derived.Test.YtfepiaclbokkjaaSpec4
namespace Go.Am
open Go.Proofs
attribute [local go_sem ↓] ofL_cons ofH_cons upd_apply
attribute [local go_sem] cellsE cellsC
set_option maxHeartbeats 2000000
set_option linter.unusedSimpArgs false
set_option linter.unusedVariables false

def foundE (c : Ch) (i : Nat) (k : Int) : Bool := (i : Int) == k || extF (edgeAt c k) (c.edges.getD i default)

theorem lawExtends (words : Int) (h0 : 0 ≤ words) (h1 : words ≤ 255) (l : List Ed) : APure Try.prog 8 [.raw (.int .u8 words), encEs l] (.bool true) := by
  obtain ⟨c, b, -, hok, hch⟩ := chart_of words h0 h1 l
  have FF : True := trivial
  refine apure_of Try.func8 rfl (by kernel_rfl) (by simp [Try.ntmps8]) ?_
  rw [Try.ntmps8]
  refine awp_rseq (by decide) fun KK hKK => ?_
  refine m_assign ?_
  refine hKK _ _ ?_
  clear hKK KK
  refine awp_rseq (by decide) fun KK hKK => ?_
  refine m_move ?_
  refine m_move ?_
  refine m_call (fun hG => hch) ?_
  refine m_move ?_
  refine m_extract ?_
  refine m_extract ?_
  refine m_alloc ?_
  first | refine m_stPtr ?_ | refine m_stRp ?_
  refine m_assign ?_
  refine hKK _ _ ?_
  clear hKK KK
  refine awp_seq ?_
  refine awp_rseq (by decide) fun KK hKK => ?_
  refine m_move ?_
  refine m_not ?_
  refine hKK _ _ ?_
  clear hKK KK
  refine m_cond (fun hc => ?_) (fun hc => ?_)
  · refine awp_rseq (by decide) fun KK hKK => ?_
    refine m_call (fun hG => example_ok) ?_
    refine m_assign ?_
    refine hKK _ _ ?_
    clear hKK KK
    refine awp_ret ⟨[_], ⟨⟨(by simp only [go_sem, reduceIte, Nat.reduceEqDiff, FF]), (by simp only [go_sem, reduceIte, Nat.reduceEqDiff, FF] <;> rfl)⟩, trivial⟩, ?_⟩
    simp only [go_sem, reduceIte, Nat.reduceEqDiff, FF, tupled]
    exact CV.Sub.refl _
  refine awp_skip ?_
  first | rw [thenQ_normal] | rw [blockQ_normal, thenQ_normal]
  have hk : Ok c := hok (by simpa using hc)
  have hmx := maxF_len hk
  have hL := hk.len
  clear hc
  refine awp_rseq (by decide) fun KK hKK => ?_
  refine m_load ?_
  refine m_call (fun hG => maximal_ok c hk.len) ?_
  refine m_assign ?_
  refine hKK _ _ ?_
  clear hKK KK
  refine awp_seq ?_
  refine awp_rseq (by decide) fun KK hKK => ?_
  refine m_field ?_
  refine m_load ?_
  refine m_len ?_
  refine m_move ?_
  refine hKK _ _ ?_
  clear hKK KK
  refine awp_block ?_
  refine m_for (ι := Nat) (fun i => [(5, .ptr 5 0), (7, .c (encInts (maxF c))), (26, .c (encEs c.edges)), (27, .int c.edges.length), (28, .int i)]) (fun i => [(5, .box 24 ((cellsC c).map .c))]) (fun i => c.edges.length - i) (fun i => i ≤ c.edges.length) (0) ?_ ?_
  · exact Nat.zero_le _
  intro i hi
  refine awp_rseq (by decide) fun KK hKK => ?_
  refine m_bin ?_
  refine hKK _ _ ?_
  clear hKK KK
  refine awp_seq ?_
  refine m_cond (fun hc => ?_) (fun hc => ?_)
  · simp only [decide_eq_true_eq] at hc
    have hi' : i < c.edges.length := by omega
    have w3 : IntKind.i64.wrap ((i : Int) + 1) = ((i + 1 : Nat) : Int) := wrap_in (by omega)
    obtain ⟨e, he⟩ : ∃ e, e = c.edges.getD i default := ⟨_, rfl⟩
    refine awp_skip ?_
    first | rw [thenQ_normal] | rw [blockQ_normal, thenQ_normal]
    refine awp_seq (awp_block ?_)
    clear hc
    have FF := And.intro he.symm FF
    refine awp_rseq (by decide) fun KK hKK => ?_
    refine m_move ?_
    refine m_index ?_
    refine m_load ?_
    refine m_alloc ?_
    refine m_assign ?_
    first | refine m_stPtr ?_ | refine m_stRp ?_
    refine hKK _ _ ?_
    clear hKK KK
    refine awp_rseq (by decide) fun KK hKK => ?_
    refine m_assign ?_
    refine hKK _ _ ?_
    clear hKK KK
    refine awp_seq ?_
    refine awp_rseq (by decide) fun KK hKK => ?_
    refine m_move ?_
    refine m_len ?_
    refine m_move ?_
    refine hKK _ _ ?_
    clear hKK KK
    refine awp_block ?_
    refine m_for (ι := Nat) (fun j => [(5, .ptr 5 0), (7, .c (encInts (maxF c))), (8, .int i), (9, .ptr 9 0), (10, .bool (((maxF c).take j).any (foundE c i))), (26, .c (encEs c.edges)), (27, .int c.edges.length), (28, .int i), (33, .c (encInts (maxF c))), (34, .int (maxF c).length), (35, .int j)]) (fun j => [(5, .box 24 ((cellsC c).map .c)), (9, .box 43 ((cellsE e).map .c))]) (fun j => (maxF c).length - j) (fun j => j ≤ (maxF c).length) (0) ?_ ?_
    · exact Nat.zero_le _
    intro j hj
    refine awp_rseq (by decide) fun KK hKK => ?_
    refine m_bin ?_
    refine hKK _ _ ?_
    clear hKK KK
    refine awp_seq ?_
    refine m_cond (fun hc => ?_) (fun hc => ?_)
    · simp only [decide_eq_true_eq] at hc
      have hj' : j < (maxF c).length := by omega
      have w4 : IntKind.i64.wrap ((j : Int) + 1) = ((j + 1 : Nat) : Int) := wrap_in (by omega)
      obtain ⟨k, hk0⟩ : ∃ k, k = (maxF c).getD j 0 := ⟨_, rfl⟩
      have hany : ((maxF c).take (j + 1)).any (foundE c i) = (((maxF c).take j).any (foundE c i) || ((i : Int) == k || extF (edgeAt c k) e)) := by
        rw [take_snoc hj', List.any_append, List.any_cons, List.any_nil, Bool.or_false, hk0, getD_lt hj', he]
        rfl
      have hkr : 0 ≤ k ∧ k < (c.edges.length : Int) := by
        obtain ⟨q, h1, h2, _⟩ := (maxTo_mem c c.edges.length k).1 (by rw [hk0, getD_lt hj']; exact List.getElem_mem _)
        omega
      have f1 : decide (k < 0) = false := decide_eq_false (by omega)
      have f2 : decide ((c.edges.length : Int) ≤ k) = false := decide_eq_false (by omega)
      generalize ((maxF c).take j).any (foundE c i) = B at hany ⊢
      refine awp_skip ?_
      first | rw [thenQ_normal] | rw [blockQ_normal, thenQ_normal]
      refine awp_seq (awp_block ?_)
      clear hc
      have FF := And.intro hk0.symm FF
      refine awp_rseq (by decide) fun KK hKK => ?_
      refine m_index ?_
      refine m_load ?_
      refine m_assign ?_
      refine hKK _ _ ?_
      clear hKK KK
      refine awp_seq ?_
      have FF := And.intro f1 (And.intro f2 FF)
      refine awp_rseq (by decide) fun KK hKK => ?_
      refine m_move ?_
      refine m_bin ?_
      refine m_move ?_
      refine g_move ?_
      refine g_field ?_
      refine g_load ?_
      refine g_len ?_
      refine g_bin ?_
      refine m_pick ?_
      refine hKK _ _ ?_
      clear hKK KK
      refine m_cond (fun hc => ?_) (fun hc => ?_)
      · cases hc
      refine awp_skip ?_
      first | rw [thenQ_normal] | rw [blockQ_normal, thenQ_normal]
      clear hc
      refine awp_rseq (by decide) fun KK hKK => ?_
      refine m_field ?_
      refine m_load ?_
      refine m_move ?_
      refine m_index ?_
      refine m_load ?_
      refine m_alloc ?_
      first | refine m_stPtr ?_ | refine m_stRp ?_
      refine hKK _ _ ?_
      clear hKK KK
      refine awp_rlast (by decide) fun KK hKK => ?_
      refine m_move ?_
      refine m_move ?_
      refine g_move ?_
      refine g_move ?_
      refine g_bin ?_
      refine m_pick ?_
      refine m_move ?_
      refine g_field ?_
      refine g_load ?_
      refine g_field ?_
      refine g_load ?_
      refine g_bin ?_
      refine g_move ?_
      refine g_field ?_
      refine g_load ?_
      refine g_field ?_
      refine g_load ?_
      refine g_bin ?_
      refine g_pick ?_
      refine g_move ?_
      refine g_field ?_
      refine g_load ?_
      refine g_field ?_
      refine g_load ?_
      refine g_bin ?_
      refine g_field ?_
      refine g_load ?_
      refine g_field ?_
      refine g_load ?_
      refine g_bin ?_
      refine g_bin ?_
      refine g_pick ?_
      refine m_pick ?_
      refine m_assign ?_
      refine hKK _ _ ?_
      clear hKK KK
      first | rw [thenQ_normal] | rw [blockQ_normal, thenQ_normal]
      have FF := And.intro w4 FF
      refine awp_rlast (by decide) fun KK hKK => ?_
      refine m_bin ?_
      refine m_move ?_
      refine hKK _ _ ?_
      clear hKK KK
      try rw [thenQ_normal]
      refine ⟨j + 1, ?_, ?_, (by simp only [List.forall_mem_cons, List.forall_mem_nil, go_sem, reduceIte, Nat.reduceEqDiff, FF, hany, extF, wid, edgeAt, Bool.or_assoc]; all_goals ((repeat' apply And.intro) <;> first | trivial | rfl | exact objLe_refl _ | (intro _ _; exact Subs.refl _))), (by simp only [List.forall_mem_cons, List.forall_mem_nil, go_sem, reduceIte, Nat.reduceEqDiff, FF, hany, extF, wid, edgeAt, Bool.or_assoc]; all_goals ((repeat' apply And.intro) <;> first | trivial | rfl | exact objLe_refl _ | (intro _ _; exact Subs.refl _)))⟩
      · exact hj'
      · omega
    · refine awp_exit ?_
      simp only [thenQ_exit, blockQ_exit, reduceIte, Nat.reduceEqDiff]
      try rw [thenQ_normal]
      have hj' : j = (maxF c).length := by simp only [decide_eq_false_iff_not] at hc; omega
      obtain ⟨k, hkl, hkm, hx⟩ := max_extends hk (32 - wid (c.edges.getD i default)).toNat i hi' (by omega)
      have hany : ((maxF c).take j).any (foundE c i) = true := by
        rw [hj', List.take_length, List.any_eq_true]
        refine ⟨k, hkm, ?_⟩
        unfold foundE
        rcases hx with rfl | hx
        · simp
        · rw [edgeAt_nat, hx, Bool.or_true]
      clear hc
      have FF := And.intro hany FF
      refine awp_rseq (by decide) fun KK hKK => ?_
      refine m_move ?_
      refine m_not ?_
      refine hKK _ _ ?_
      clear hKK KK
      refine m_cond (fun hc => ?_) (fun hc => ?_)
      · cases hc
      refine awp_skip ?_
      first | rw [thenQ_normal] | rw [blockQ_normal, thenQ_normal]
      have FF := And.intro w3 FF
      refine awp_rlast (by decide) fun KK hKK => ?_
      refine m_bin ?_
      refine m_move ?_
      refine hKK _ _ ?_
      clear hKK KK
      try rw [thenQ_normal]
      refine m_next (i + 1) ?_ ?_
      · exact hi'
      · omega
  · refine awp_exit ?_
    simp only [thenQ_exit, blockQ_exit, reduceIte, Nat.reduceEqDiff]
    try rw [thenQ_normal]
    refine awp_rseq (by decide) fun KK hKK => ?_
    refine m_call (fun hG => example_ok) ?_
    refine m_assign ?_
    refine hKK _ _ ?_
    clear hKK KK
    refine awp_ret ⟨[_], ⟨⟨(by simp only [go_sem, reduceIte, Nat.reduceEqDiff, FF]), (by simp only [go_sem, reduceIte, Nat.reduceEqDiff, FF] <;> rfl)⟩, trivial⟩, ?_⟩
    simp only [go_sem, reduceIte, Nat.reduceEqDiff, FF, tupled]
    exact CV.Sub.refl _

theorem sumW_snoc (c : Ch) : ∀ (l : List Int) (k : Int), sumW c (l ++ [k]) = sumW c l + ((edgeAt c k).to - (edgeAt c k).frm)
  | [], k => by simp [sumW]
  | x :: l, k => by
    have := sumW_snoc c l k
    simp only [List.cons_append, sumW]
    omega
/-- Where the first edges of a plan end. -/
def endW (c : Ch) : Int → List Int → Int
  | a, [] => a
  | _, k :: r => endW c (edgeAt c k).to r
theorem endW_snoc (c : Ch) : ∀ (l : List Int) (a k : Int), endW c a (l ++ [k]) = (edgeAt c k).to
  | [], a, k => rfl
  | x :: l, a, k => endW_snoc c l _ k
theorem planR_split {c : Ch} : ∀ (l r : List Int) (a : Int), planR c a (l ++ r) → planR c (endW c a l) r
  | [], r, a, h => h
  | k :: l, r, a, h => planR_split l r _ h.2
theorem sumW_bd {c : Ch} (h : Ok c) : ∀ (l : List Int) (a : Int), planR c a l → 0 ≤ a → a ≤ c.words → 0 ≤ sumW c l ∧ a + sumW c l ≤ endW c a l ∧ endW c a l ≤ c.words
  | [], a, _, _, h2 => by simp [sumW, endW]; exact h2
  | k :: r, a, hp, h1, h2 => by
    have hs := edge_span h (k := k.toNat) (by have := hp.1; omega)
    have h3 := hp.1.2.2
    have ih := sumW_bd h r (edgeAt c k).to hp.2 (by unfold edgeAt; omega) (by unfold edgeAt; omega)
    simp only [sumW, endW]
    unfold edgeAt at *
    omega
theorem planR_take {c : Ch} : ∀ (l r : List Int) (a : Int), planR c a (l ++ r) → planR c a l
  | [], r, a, h => trivial
  | k :: l, r, a, h => ⟨h.1, planR_take l r _ h.2⟩

def wholeE (c : Ch) (e : Ed) : Bool := IntKind.i64.wrap (e.to - e.frm) == c.words

theorem lawMost (words : Int) (h0 : 0 ≤ words) (h1 : words ≤ 255) (l : List Ed) : APure Try.prog 7 [.raw (.int .u8 words), encEs l] (.bool true) := by
  obtain ⟨c, b, -, hok, hch⟩ := chart_of words h0 h1 l
  have FF : True := trivial
  refine apure_of Try.func7 rfl (by kernel_rfl) (by simp [Try.ntmps7]) ?_
  rw [Try.ntmps7]
  refine awp_rseq (by decide) fun KK hKK => ?_
  refine m_assign ?_
  refine hKK _ _ ?_
  clear hKK KK
  refine awp_rseq (by decide) fun KK hKK => ?_
  refine m_move ?_
  refine m_move ?_
  refine m_call (fun hG => hch) ?_
  refine m_move ?_
  refine m_extract ?_
  refine m_extract ?_
  refine m_alloc ?_
  first | refine m_stPtr ?_ | refine m_stRp ?_
  refine m_assign ?_
  refine hKK _ _ ?_
  clear hKK KK
  refine awp_seq ?_
  refine awp_rseq (by decide) fun KK hKK => ?_
  refine m_move ?_
  refine m_not ?_
  refine hKK _ _ ?_
  clear hKK KK
  refine m_cond (fun hc => ?_) (fun hc => ?_)
  · refine awp_rseq (by decide) fun KK hKK => ?_
    refine m_call (fun hG => example_ok) ?_
    refine m_assign ?_
    refine hKK _ _ ?_
    clear hKK KK
    refine awp_ret ⟨[_], ⟨⟨(by simp only [go_sem, reduceIte, Nat.reduceEqDiff, FF]), (by simp only [go_sem, reduceIte, Nat.reduceEqDiff, FF] <;> rfl)⟩, trivial⟩, ?_⟩
    simp only [go_sem, reduceIte, Nat.reduceEqDiff, FF, tupled]
    exact CV.Sub.refl _
  refine awp_skip ?_
  first | rw [thenQ_normal] | rw [blockQ_normal, thenQ_normal]
  have hk : Ok c := hok (by simpa using hc)
  have hcl := coverF_len hk
  have hL := hk.len
  have hpl := cover_plan hk
  have hw := hk.words
  have hbest := cover_sum hk (N := 32) (by omega)
  have hwhole := fun i0 h1 h2 => cover_whole hk (i0 := i0) h1 h2
  have hcov := cover_ok c hk
  generalize coverF c = L at hcl hpl hbest hwhole hcov
  clear hc
  refine awp_rseq (by decide) fun KK hKK => ?_
  refine m_load ?_
  refine m_call (fun hG => hcov) ?_
  refine m_assign ?_
  refine hKK _ _ ?_
  clear hKK KK
  refine awp_rseq (by decide) fun KK hKK => ?_
  refine m_assign ?_
  refine m_assign ?_
  refine m_assign ?_
  refine hKK _ _ ?_
  clear hKK KK
  refine awp_seq ?_
  refine awp_rseq (by decide) fun KK hKK => ?_
  refine m_move ?_
  refine m_len ?_
  refine m_move ?_
  refine hKK _ _ ?_
  clear hKK KK
  refine awp_block ?_
  refine m_for (ι := Nat) (fun i => [(5, .ptr 5 0), (7, .c (encInts L)), (8, .int (sumW c (L.take i))), (9, .int (endW c 0 (L.take i))), (10, .bool false), (26, .c (encInts L)), (27, .int L.length), (28, .int i)]) (fun i => [(5, .box 24 ((cellsC c).map .c))]) (fun i => L.length - i) (fun i => i ≤ L.length) (0) ?_ ?_
  · exact Nat.zero_le _
  intro i hi
  refine awp_rseq (by decide) fun KK hKK => ?_
  refine m_bin ?_
  refine hKK _ _ ?_
  clear hKK KK
  refine awp_seq ?_
  refine m_cond (fun hc => ?_) (fun hc => ?_)
  · simp only [decide_eq_true_eq] at hc
    have hi' : i < L.length := by omega
    have w3 : IntKind.i64.wrap ((i : Int) + 1) = ((i + 1 : Nat) : Int) := wrap_in (by omega)
    obtain ⟨k, hk0⟩ : ∃ k, k = L.getD i 0 := ⟨_, rfl⟩
    have htk : L.take (i + 1) = L.take i ++ [k] := by rw [take_snoc hi', hk0, getD_lt hi']
    have hsp : planR c 0 (L.take i ++ (k :: L.drop (i + 1))) := by
      rw [hk0, getD_lt hi', ← List.drop_eq_getElem_cons hi', List.take_append_drop]
      exact hpl
    obtain ⟨⟨k1, k2, k3⟩, -⟩ := planR_split _ _ _ hsp
    have hbd := sumW_bd hk _ 0 (planR_take _ _ _ hsp) (by omega) (by omega)
    have e1 := sumW_snoc c (L.take i) k
    have e2 := endW_snoc c (L.take i) 0 k
    rw [← htk] at e1 e2
    obtain ⟨e, he⟩ : ∃ e, e = c.edges.getD k.toNat default := ⟨_, rfl⟩
    have he' : edgeAt c k = e := he.symm
    rw [he'] at e1 e2 k3
    have hs := hk.span e (by rw [he, getD_lt (by omega)]; exact List.getElem_mem _)
    generalize sumW c (L.take i) = S at e1 hbd ⊢
    generalize endW c 0 (L.take i) = A at k3 hbd ⊢
    have f1 : decide (k < 0) = false := decide_eq_false (by omega)
    have f2 : decide ((c.edges.length : Int) ≤ k) = false := decide_eq_false (by omega)
    have f3 : decide (e.frm < A) = false := decide_eq_false (by omega)
    have w4 : IntKind.i64.wrap (e.to - e.frm) = e.to - e.frm := wrap_in (by omega)
    have w5 : IntKind.i64.wrap (S + (e.to - e.frm)) = S + (e.to - e.frm) := wrap_in (by omega)
    refine awp_skip ?_
    first | rw [thenQ_normal] | rw [blockQ_normal, thenQ_normal]
    refine awp_seq (awp_block ?_)
    clear hc
    have FF := And.intro hk0.symm FF
    refine awp_rseq (by decide) fun KK hKK => ?_
    refine m_index ?_
    refine m_load ?_
    refine m_assign ?_
    refine hKK _ _ ?_
    clear hKK KK
    refine awp_seq ?_
    have FF := And.intro f1 (And.intro f2 (And.intro f3 (And.intro he.symm FF)))
    refine awp_rseq (by decide) fun KK hKK => ?_
    refine m_move ?_
    refine m_bin ?_
    refine m_move ?_
    refine g_move ?_
    refine g_field ?_
    refine g_load ?_
    refine g_len ?_
    refine g_bin ?_
    refine m_pick ?_
    refine m_move ?_
    refine g_field ?_
    refine g_load ?_
    refine g_move ?_
    refine g_index ?_
    refine g_field ?_
    refine g_load ?_
    refine g_move ?_
    refine g_bin ?_
    refine m_pick ?_
    refine hKK _ _ ?_
    clear hKK KK
    refine m_cond (fun hc => ?_) (fun hc => ?_)
    · cases hc
    refine awp_skip ?_
    first | rw [thenQ_normal] | rw [blockQ_normal, thenQ_normal]
    clear hc
    have FF := And.intro he.symm (And.intro w4 (And.intro w5 FF))
    refine awp_rseq_draw Try.mixed (by decide) (by kernel_rfl) fun KK hKK => ?_
    refine m_move ?_
    refine m_field ?_
    refine m_load ?_
    refine m_move ?_
    refine m_index ?_
    refine m_field ?_
    refine m_load ?_
    refine m_field ?_
    refine m_load ?_
    refine m_move ?_
    refine m_index ?_
    refine m_field ?_
    refine m_load ?_
    refine m_bin ?_
    refine m_bin ?_
    refine m_assign ?_
    refine hKK _ _ ?_
    clear hKK KK
    have FF := And.intro he.symm FF
    refine awp_rlast (by decide) fun KK hKK => ?_
    refine m_field ?_
    refine m_load ?_
    refine m_move ?_
    refine m_index ?_
    refine m_field ?_
    refine m_load ?_
    refine m_assign ?_
    refine hKK _ _ ?_
    clear hKK KK
    first | rw [thenQ_normal] | rw [blockQ_normal, thenQ_normal]
    have FF := And.intro w3 FF
    refine awp_rlast (by decide) fun KK hKK => ?_
    refine m_bin ?_
    refine m_move ?_
    refine hKK _ _ ?_
    clear hKK KK
    have FF := And.intro e1 (And.intro e2 FF)
    try rw [thenQ_normal]
    refine m_next (i + 1) ?_ ?_
    · exact hi'
    · omega
  have hi' : i = L.length := by simp only [decide_eq_false_iff_not] at hc; omega
  rw [hi', List.take_length]
  clear hc
  refine awp_exit ?_
  simp only [thenQ_exit, blockQ_exit, reduceIte, Nat.reduceEqDiff]
  try rw [thenQ_normal]
  refine awp_seq ?_
  refine awp_rseq (by decide) fun KK hKK => ?_
  refine m_field ?_
  refine m_load ?_
  refine m_len ?_
  refine m_move ?_
  refine hKK _ _ ?_
  clear hKK KK
  refine awp_block ?_
  refine m_for (ι := Nat) (fun i => [(5, .ptr 5 0), (7, .c (encInts L)), (8, .int (sumW c L)), (10, .bool (anyTo (fun q => wholeE c (c.edges.getD q default)) i)), (74, .c (encEs c.edges)), (75, .int c.edges.length), (76, .int i)]) (fun i => [(5, .box 24 ((cellsC c).map .c))]) (fun i => c.edges.length - i) (fun i => i ≤ c.edges.length) (0) ?_ ?_
  · exact Nat.zero_le _
  intro i hi
  refine awp_rseq (by decide) fun KK hKK => ?_
  refine m_bin ?_
  refine hKK _ _ ?_
  clear hKK KK
  refine awp_seq ?_
  refine m_cond (fun hc => ?_) (fun hc => ?_)
  · simp only [decide_eq_true_eq] at hc
    have hi' : i < c.edges.length := by omega
    have w3 : IntKind.i64.wrap ((i : Int) + 1) = ((i + 1 : Nat) : Int) := wrap_in (by omega)
    refine awp_skip ?_
    first | rw [thenQ_normal] | rw [blockQ_normal, thenQ_normal]
    refine awp_seq (awp_block ?_)
    clear hc
    refine awp_rseq (by decide) fun KK hKK => ?_
    refine m_index ?_
    refine m_load ?_
    refine m_alloc ?_
    first | refine m_stPtr ?_ | refine m_stRp ?_
    refine hKK _ _ ?_
    clear hKK KK
    refine awp_rlast (by decide) fun KK hKK => ?_
    refine m_move ?_
    refine m_move ?_
    refine g_field ?_
    refine g_load ?_
    refine g_field ?_
    refine g_load ?_
    refine g_bin ?_
    refine g_field ?_
    refine g_load ?_
    refine g_bin ?_
    refine m_pick ?_
    refine m_assign ?_
    refine hKK _ _ ?_
    clear hKK KK
    first | rw [thenQ_normal] | rw [blockQ_normal, thenQ_normal]
    have FF := And.intro w3 FF
    refine awp_rlast (by decide) fun KK hKK => ?_
    refine m_bin ?_
    refine m_move ?_
    refine hKK _ _ ?_
    clear hKK KK
    try rw [thenQ_normal]
    refine ⟨i + 1, ?_, ?_, (by simp only [List.forall_mem_cons, List.forall_mem_nil, go_sem, reduceIte, Nat.reduceEqDiff, FF, anyTo, wholeE]; all_goals ((repeat' apply And.intro) <;> first | trivial | rfl | exact objLe_refl _ | (intro _ _; exact Subs.refl _))), (by simp only [List.forall_mem_cons, List.forall_mem_nil, go_sem, reduceIte, Nat.reduceEqDiff, FF, anyTo, wholeE]; all_goals ((repeat' apply And.intro) <;> first | trivial | rfl | exact objLe_refl _ | (intro _ _; exact Subs.refl _)))⟩
    · exact hi'
    · omega
  · have hi' : i = c.edges.length := by simp only [decide_eq_false_iff_not] at hc; omega
    rw [hi']
    have g1 : (sumW c L == bestN c 32 0) = true := by simpa using hbest
    have g2 : (!(anyTo (fun q => wholeE c (c.edges.getD q default)) c.edges.length) || ((L.length : Nat) : Int) == 1) = true := by
      cases e : anyTo (fun q => wholeE c (c.edges.getD q default)) c.edges.length with
      | false => rfl
      | true =>
        obtain ⟨q, q1, q2⟩ := (anyTo_iff _ _).1 e
        have hs := edge_span hk q1
        unfold wholeE at q2
        rw [wrap_in (by omega), beq_iff_eq] at q2
        have := hwhole q q1 q2
        rw [this]
        rfl
    clear hc
    refine awp_exit ?_
    simp only [thenQ_exit, blockQ_exit, reduceIte, Nat.reduceEqDiff]
    try rw [thenQ_normal]
    have FF := And.intro g1 (And.intro g2 FF)
    refine awp_rseq (by decide) fun KK hKK => ?_
    refine m_move ?_
    refine m_load ?_
    refine m_call (fun hG => best_ok c hk 32 0 (by omega) (by omega)) ?_
    refine m_bin ?_
    refine m_move ?_
    refine g_move ?_
    refine g_not ?_
    refine g_move ?_
    refine g_move ?_
    refine g_len ?_
    refine g_bin ?_
    refine g_pick ?_
    refine m_pick ?_
    refine m_move ?_
    refine g_call (fun hG => example_ok) ?_
    refine m_pick ?_
    refine m_assign ?_
    refine hKK _ _ ?_
    clear hKK KK
    refine awp_ret ⟨[_], ⟨⟨(by simp only [go_sem, reduceIte, Nat.reduceEqDiff, FF]), (by simp only [go_sem, reduceIte, Nat.reduceEqDiff, FF] <;> rfl)⟩, trivial⟩, ?_⟩
    simp only [go_sem, reduceIte, Nat.reduceEqDiff, FF, tupled]
    exact CV.Sub.refl _
end Go.Am
