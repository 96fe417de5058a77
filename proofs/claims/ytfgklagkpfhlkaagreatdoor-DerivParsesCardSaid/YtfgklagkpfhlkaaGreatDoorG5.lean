/- Merged texts: D27 P8 D28 P1 P2 P5 P6 D29 Lay. -/
import Derived.Test.YtfgklagkpfhlkaaGreatDoorG4
import Derived.Test.YtfgklagkpfhlkaaGreatDoorRows
import Derived.Lib.LaidTab
import Derived.Stop.LaidErr
import Derived.MakeChecks
import Derived.ProofKit
import Derived.OpenShut
set_option linter.unusedVariables false
set_option linter.unusedSimpArgs false
/- Contracts: the reference reads the head of a derivation. No condition. -/
namespace Go.Am
open Go.Proofs
attribute [local go_sem ↓] ofL_cons ofH_cons upd_apply
set_option maxHeartbeats 4000000
set_option linter.unusedSimpArgs false

theorem digEnd_le (s : ByteArray) : ∀ n k, k ≤ s.size → k ≤ digEnd s n k ∧ digEnd s n k ≤ s.size
  | 0, k, h => ⟨Nat.le_refl _, h⟩
  | n + 1, k, h => by
    rw [digEnd]
    split
    · rename_i hd
      have hk : k < s.size := by
        simp only [digAt, Bool.and_eq_true, decide_eq_true_eq] at hd
        exact hd.1.1
      have := digEnd_le s n (k + 1) (by omega)
      omega
    · exact ⟨Nat.le_refl _, h⟩
theorem digTo_le {s : ByteArray} {k : Nat} (h : k ≤ s.size) : numFst s k ≤ digTo s k ∧ digTo s k ≤ s.size := digEnd_le _ _ _ (numFst_le h).2
theorem nameR_le {s : ByteArray} {k : Nat} (h : k ≤ s.size) : (nameR s k).2.1 ≤ s.size := by
  have := nameTo_le h
  unfold nameR
  split
  · exact h
  · split
    · exact h
    · exact this.2
theorem numR_le {s : ByteArray} {k : Nat} (h : k ≤ s.size) : (numR s k).2.1 ≤ s.size := by
  have := digTo_le h
  unfold numR
  split
  · exact h
  · split
    · exact h
    · split
      · exact h
      · exact this.2
/-- Lexical or not, the name, from, to, as the reference reads them. -/
def headR (s : ByteArray) (k : Nat) : PR (Bool × ByteArray × Int × Int) :=
  if isAt s k 40 = false then .err (failAt s k) else
  if (nameR s (nameAt s k)).2.2 ≠ 0 then .err (nameR s (nameAt s k)).2.2 else
  if isAt s (nameR s (nameAt s k)).2.1 32 = false then .err (failAt s (nameR s (nameAt s k)).2.1) else
  if (numR s ((nameR s (nameAt s k)).2.1 + 1)).2.2 ≠ 0 then .err (numR s ((nameR s (nameAt s k)).2.1 + 1)).2.2 else
  if isAt s (numR s ((nameR s (nameAt s k)).2.1 + 1)).2.1 32 = false then .err (failAt s (numR s ((nameR s (nameAt s k)).2.1 + 1)).2.1) else
  if (numR s ((numR s ((nameR s (nameAt s k)).2.1 + 1)).2.1 + 1)).2.2 ≠ 0 then .err (numR s ((numR s ((nameR s (nameAt s k)).2.1 + 1)).2.1 + 1)).2.2 else
  .ok (isAt s (k + 1) 43, (nameR s (nameAt s k)).1, (numR s ((nameR s (nameAt s k)).2.1 + 1)).1, (numR s ((numR s ((nameR s (nameAt s k)).2.1 + 1)).2.1 + 1)).1) (numR s ((numR s ((nameR s (nameAt s k)).2.1 + 1)).2.1 + 1)).2.1
abbrev anyD : CV := .agg [.any, .any, .any, .any, .any]
def headC (s : ByteArray) : PR (Bool × ByteArray × Int × Int) → CV
  | .ok x k => .tup [.agg [.int (kindS x.1 []), .str x.2.1, .int x.2.2.1, .int x.2.2.2, .emp], .str (sfx s k), .int 0]
  | .err e => .tup [anyD, .any, .int e]
theorem sub_anyD (a b c d e : CV) : CV.Sub (.agg [a, b, c, d, e]) anyD := sub_agg ⟨CV.Sub.any _, CV.Sub.any _, CV.Sub.any _, CV.Sub.any _, CV.Sub.any _, trivial⟩
theorem taken_yes {s : ByteArray} {k : Nat} {c : UInt8} (h : isAt s k c = true) : (if isAt s k c then k + 1 else k) = k + 1 ∧ (if isAt s k c then (0 : Int) else failAt s k) = 0 := by rw [h]; exact ⟨rfl, rfl⟩
theorem taken_no {s : ByteArray} {k : Nat} {c : UInt8} (h : isAt s k c = false) : (if isAt s k c then k + 1 else k) = k ∧ (if isAt s k c then (0 : Int) else failAt s k) = failAt s k := by rw [h]; exact ⟨rfl, rfl⟩
theorem fail_ne (s : ByteArray) (k : Nat) : (failAt s k != 0) = true := by unfold failAt; split <;> rfl

variable [Glb]

theorem head_ok (s : ByteArray) (k : Nat) (hs : s.size ≤ 1000000000) (hk : k ≤ s.size) : APure Tryz.prog 26 [.str (sfx s k)] (headC s (headR s k)) := by
  have FF : True := trivial
  refine apure_of Tryz.func26 rfl (by kernel_rfl) (by simp [Tryz.ntmps26]) ?_
  rw [Tryz.ntmps26]
  refine awp_rseq (by decide) fun KK hKK => ?_
  refine m_alloc ?_
  refine m_assign ?_
  refine m_assign ?_
  refine hKK _ _ ?_
  clear hKK KK
  refine awp_rseq (by decide) fun KK hKK => ?_
  refine m_build ?_
  refine m_alloc ?_
  first | refine m_stPtr ?_ | refine m_stRp ?_
  refine hKK _ _ ?_
  clear hKK KK
  refine m_cut [(0, .str (sfx s k)), (2, .ptr 2 0), (5, .ptr 5 0)] [(2, zeroD), (5, zeroD)] ?_
  have tk := taken_ok s (k) 40 hs (hk)
  cases t1 : isAt s (k) 40 with
  | false =>
    rw [headR, if_pos t1]
    rw [(taken_no t1).1, (taken_no t1).2] at tk
    have fn := fail_ne s (k)
    generalize failAt s (k) = fe at *
    refine awp_rseq (by decide) fun KK hKK => ?_
    refine m_move ?_
    refine m_call (fun hG => tk) ?_
    refine m_move ?_
    refine m_extract ?_
    refine m_extract ?_
    refine m_assign ?_
    refine m_assign ?_
    refine hKK _ _ ?_
    clear hKK KK
    refine awp_seq ?_
    refine awp_rseq (by decide) fun KK hKK => ?_
    refine m_move ?_
    refine m_bin ?_
    refine hKK _ _ ?_
    clear hKK KK
    refine m_cond (fun hc => ?_) (fun hc => ?_)
    · refine awp_rseq (by decide) fun KK hKK => ?_
      refine m_load ?_
      refine m_move ?_
      refine m_move ?_
      first | refine m_stPtr ?_ | refine m_stRp ?_
      refine m_assign ?_
      refine m_assign ?_
      refine hKK _ _ ?_
      clear hKK KK
      refine awp_ret ⟨[_, _, _], ⟨k_load (by simp only [go_sem, reduceIte, Nat.reduceEqDiff, FF] <;> rfl) (by simp only [go_sem] <;> rfl) (by rfl) (by intro hG; simp only [go_sem]) (by exact lm_ptr (by simp only [go_sem, reduceIte, Nat.reduceEqDiff, FF] <;> rfl) (by simp only [go_sem, reduceIte, Nat.reduceEqDiff, FF, Nat.reduceAdd, Nat.reduceSub, Nat.reduceMul, Nat.reduceLeDiff] <;> rfl) (fun _ => Nat.le_of_ble_eq_true rfl)), ⟨(by simp only [go_sem, reduceIte, Nat.reduceEqDiff, FF]), (by simp only [go_sem, reduceIte, Nat.reduceEqDiff, FF] <;> rfl)⟩, ⟨(by simp only [go_sem, reduceIte, Nat.reduceEqDiff, FF]), (by simp only [go_sem, reduceIte, Nat.reduceEqDiff, FF] <;> rfl)⟩, trivial⟩, ?_⟩
      simp only [go_sem, reduceIte, Nat.reduceEqDiff, FF, tupled]
      exact sub_tup ⟨sub_anyD _ _ _ _ _, CV.Sub.any _, CV.Sub.refl _, trivial⟩
    · rw [fn] at hc
      cases hc
  | true =>
  rw [headR, if_neg (by rw [t1]; decide)]
  rw [(taken_yes t1).1, (taken_yes t1).2] at tk
  have lt1 := isAt_lt t1
  refine awp_rseq (by decide) fun KK hKK => ?_
  refine m_move ?_
  refine m_call (fun hG => tk) ?_
  refine m_move ?_
  refine m_extract ?_
  refine m_extract ?_
  refine m_assign ?_
  refine m_assign ?_
  refine hKK _ _ ?_
  clear hKK KK
  refine awp_seq ?_
  refine awp_rseq (by decide) fun KK hKK => ?_
  refine m_move ?_
  refine m_bin ?_
  refine hKK _ _ ?_
  clear hKK KK
  refine m_cond (fun hc => ?_) (fun hc => ?_)
  · cases hc
  clear hc tk
  refine awp_skip ?_
  first | rw [thenQ_normal] | rw [blockQ_normal, thenQ_normal]
  refine m_cut [(0, .str (sfx s (k + 1))), (2, .ptr 2 0), (5, .ptr 5 0)] [(2, zeroD), (5, zeroD)] ?_
  refine m_join (ι := Unit) (fun i => [(0, .str (sfx s (nameAt s k))), (2, .ptr 2 0), (5, .ptr 5 0)]) (fun i => [(2, zeroD), (5, .box 25 [.int (kindS (isAt s (k + 1) 43) []), .str ⟨#[]⟩, .int 0, .int 0, .emp])]) (fun i => True) ?_ ?_
  · have hz := sfx_size s (k := k + 1)
    have hcond : (decide ((0 : Int) < (sfx s (k + 1)).size) && byteAt (sfx s (k + 1)) 0 == 43) = isAt s (k + 1) 43 := by
      by_cases hlt : k + 1 < s.size
      · have hb : byteAt (sfx s (k + 1)) 0 = byteAt s (k + 1) := by
          have := sfx_byte s (k := k + 1) (i := 0) (by omega)
          simpa using this
        rw [hb, hz, isAt]
        have h1 : decide ((0 : Int) < ((s.size - (k + 1) : Nat) : Int)) = true := by simp; omega
        have h2 : decide (k + 1 < s.size) = true := by simp; omega
        rw [h1, h2]
        rfl
      · have h1 : decide ((0 : Int) < ((s.size - (k + 1) : Nat) : Int)) = false := by simp; omega
        have h2 : decide (k + 1 < s.size) = false := by simp; omega
        rw [hz, isAt, h1, h2]
        rfl
    refine awp_rseq (by decide) fun KK hKK => ?_
    refine m_move ?_
    refine m_len ?_
    refine m_bin ?_
    refine m_move ?_
    refine g_move ?_
    refine g_idx ?_
    refine g_bin ?_
    refine m_pick ?_
    refine hKK _ _ ?_
    clear hKK KK
    refine m_cond (fun hc => ?_) (fun hc => ?_)
    · have hc' : isAt s (k + 1) 43 = true := by rw [← hcond]; exact hc
      have hlt := isAt_lt hc'
      have e1 : nameAt s k = k + 1 + 1 := by rw [nameAt, if_pos hc']
      have e2 : kindS (isAt s (k + 1) 43) [] = 1 := by rw [hc']; rfl
      have x2 : (sfx s (k + 1)).extract 1 (sfx s (k + 1)).size = sfx s (k + 1 + 1) := sfx_sfx s (by omega)
      rw [e1, e2, ← x2]
      refine awp_rseq (by decide) fun KK hKK => ?_
      refine m_field ?_
      first | refine m_stPtr ?_ | refine m_stRp ?_
      refine hKK _ _ ?_
      clear hKK KK
      refine awp_rlast (by decide) fun KK hKK => ?_
      refine m_move ?_
      first | refine m_slOwn ?_ | refine m_slIm ?_ | refine m_slStr ?_
      refine m_assign ?_
      refine hKK _ _ ?_
      clear hKK KK
      try rw [thenQ_normal]
      refine ⟨(), ?_, (by simp only [List.forall_mem_cons, List.forall_mem_nil, go_sem, reduceIte, Nat.reduceEqDiff, FF]; all_goals ((repeat' apply And.intro) <;> first | trivial | rfl | exact objLe_refl _ | (intro _ _; exact Subs.refl _))), (by simp only [List.forall_mem_cons, List.forall_mem_nil, go_sem, reduceIte, Nat.reduceEqDiff, FF]; all_goals ((repeat' apply And.intro) <;> first | trivial | rfl | exact objLe_refl _ | (intro _ _; exact Subs.refl _)))⟩
      trivial
    · have hc' : isAt s (k + 1) 43 = false := by rw [← hcond]; exact hc
      have e1 : nameAt s k = k + 1 := by rw [nameAt, if_neg (by rw [hc']; decide)]
      have e2 : kindS (isAt s (k + 1) 43) [] = 0 := by rw [hc']; rfl
      rw [e1, e2]
      refine awp_skip ?_
      try rw [thenQ_normal]
      refine ⟨(), ?_, (by simp only [List.forall_mem_cons, List.forall_mem_nil, go_sem, reduceIte, Nat.reduceEqDiff, FF]; all_goals ((repeat' apply And.intro) <;> first | trivial | rfl | exact objLe_refl _ | (intro _ _; exact Subs.refl _))), (by simp only [List.forall_mem_cons, List.forall_mem_nil, go_sem, reduceIte, Nat.reduceEqDiff, FF]; all_goals ((repeat' apply And.intro) <;> first | trivial | rfl | exact objLe_refl _ | (intro _ _; exact Subs.refl _)))⟩
      trivial
  rintro - -
  have na := nameAt_le t1
  generalize isAt s (k + 1) 43 = lex
  generalize nameAt s k = a at *
  have nk := rname2_ok s a hs na.2
  have nle := nameR_le na.2
  generalize nameR s a = nr at *
  refine awp_rseq (by decide) fun KK hKK => ?_
  refine m_move ?_
  refine m_call (fun hG => nk) ?_
  refine m_move ?_
  refine m_extract ?_
  refine m_extract ?_
  refine m_extract ?_
  refine m_assign ?_
  refine m_assign ?_
  refine m_assign ?_
  refine hKK _ _ ?_
  clear hKK KK
  refine m_cut [(0, .str (sfx s nr.2.1)), (2, .ptr 2 0), (5, .ptr 5 0), (6, .int nr.2.2), (7, .str nr.1)] [(2, zeroD), (5, .box 25 [.int (kindS lex []), .str ⟨#[]⟩, .int 0, .int 0, .emp])] ?_
  refine awp_seq ?_
  refine awp_rseq (by decide) fun KK hKK => ?_
  refine m_move ?_
  refine m_bin ?_
  refine hKK _ _ ?_
  clear hKK KK
  refine m_cond (fun hc => ?_) (fun hc => ?_)
  · have hc' : nr.2.2 ≠ 0 := by simpa using hc
    rw [if_pos hc']
    refine awp_rseq (by decide) fun KK hKK => ?_
    refine m_load ?_
    refine m_move ?_
    refine m_move ?_
    first | refine m_stPtr ?_ | refine m_stRp ?_
    refine m_assign ?_
    refine m_assign ?_
    refine hKK _ _ ?_
    clear hKK KK
    refine awp_ret ⟨[_, _, _], ⟨k_load (by simp only [go_sem, reduceIte, Nat.reduceEqDiff, FF] <;> rfl) (by simp only [go_sem] <;> rfl) (by rfl) (by intro hG; simp only [go_sem]) (by exact lm_ptr (by simp only [go_sem, reduceIte, Nat.reduceEqDiff, FF] <;> rfl) (by simp only [go_sem, reduceIte, Nat.reduceEqDiff, FF, Nat.reduceAdd, Nat.reduceSub, Nat.reduceMul, Nat.reduceLeDiff] <;> rfl) (fun _ => Nat.le_of_ble_eq_true rfl)), ⟨(by simp only [go_sem, reduceIte, Nat.reduceEqDiff, FF]), (by simp only [go_sem, reduceIte, Nat.reduceEqDiff, FF] <;> rfl)⟩, ⟨(by simp only [go_sem, reduceIte, Nat.reduceEqDiff, FF]), (by simp only [go_sem, reduceIte, Nat.reduceEqDiff, FF] <;> rfl)⟩, trivial⟩, ?_⟩
    simp only [go_sem, reduceIte, Nat.reduceEqDiff, FF, tupled]
    exact sub_tup ⟨sub_anyD _ _ _ _ _, CV.Sub.any _, CV.Sub.refl _, trivial⟩
  have hc' : ¬ nr.2.2 ≠ 0 := by simpa using hc
  rw [if_neg hc']
  clear hc hc' nk
  refine awp_skip ?_
  first | rw [thenQ_normal] | rw [blockQ_normal, thenQ_normal]
  refine awp_rseq (by decide) fun KK hKK => ?_
  refine m_move ?_
  refine m_field ?_
  first | refine m_stPtr ?_ | refine m_stRp ?_
  refine hKK _ _ ?_
  clear hKK KK
  refine m_cut [(0, .str (sfx s nr.2.1)), (2, .ptr 2 0), (5, .ptr 5 0)] [(2, zeroD), (5, .box 25 [.int (kindS lex []), .str nr.1, .int 0, .int 0, .emp])] ?_
  have tk := taken_ok s (nr.2.1) 32 hs (nle)
  cases t2 : isAt s (nr.2.1) 32 with
  | false =>
    rw [if_pos rfl]
    rw [(taken_no t2).1, (taken_no t2).2] at tk
    have fn := fail_ne s (nr.2.1)
    generalize failAt s (nr.2.1) = fe at *
    refine awp_rseq (by decide) fun KK hKK => ?_
    refine m_move ?_
    refine m_call (fun hG => tk) ?_
    refine m_move ?_
    refine m_extract ?_
    refine m_extract ?_
    refine m_assign ?_
    refine m_assign ?_
    refine hKK _ _ ?_
    clear hKK KK
    refine awp_seq ?_
    refine awp_rseq (by decide) fun KK hKK => ?_
    refine m_move ?_
    refine m_bin ?_
    refine hKK _ _ ?_
    clear hKK KK
    refine m_cond (fun hc => ?_) (fun hc => ?_)
    · refine awp_rseq (by decide) fun KK hKK => ?_
      refine m_load ?_
      refine m_move ?_
      refine m_move ?_
      first | refine m_stPtr ?_ | refine m_stRp ?_
      refine m_assign ?_
      refine m_assign ?_
      refine hKK _ _ ?_
      clear hKK KK
      refine awp_ret ⟨[_, _, _], ⟨k_load (by simp only [go_sem, reduceIte, Nat.reduceEqDiff, FF] <;> rfl) (by simp only [go_sem] <;> rfl) (by rfl) (by intro hG; simp only [go_sem]) (by exact lm_ptr (by simp only [go_sem, reduceIte, Nat.reduceEqDiff, FF] <;> rfl) (by simp only [go_sem, reduceIte, Nat.reduceEqDiff, FF, Nat.reduceAdd, Nat.reduceSub, Nat.reduceMul, Nat.reduceLeDiff] <;> rfl) (fun _ => Nat.le_of_ble_eq_true rfl)), ⟨(by simp only [go_sem, reduceIte, Nat.reduceEqDiff, FF]), (by simp only [go_sem, reduceIte, Nat.reduceEqDiff, FF] <;> rfl)⟩, ⟨(by simp only [go_sem, reduceIte, Nat.reduceEqDiff, FF]), (by simp only [go_sem, reduceIte, Nat.reduceEqDiff, FF] <;> rfl)⟩, trivial⟩, ?_⟩
      simp only [go_sem, reduceIte, Nat.reduceEqDiff, FF, tupled]
      exact sub_tup ⟨sub_anyD _ _ _ _ _, CV.Sub.any _, CV.Sub.refl _, trivial⟩
    · rw [fn] at hc
      cases hc
  | true =>
  rw [if_neg (by decide)]
  rw [(taken_yes t2).1, (taken_yes t2).2] at tk
  have lt2 := isAt_lt t2
  refine awp_rseq (by decide) fun KK hKK => ?_
  refine m_move ?_
  refine m_call (fun hG => tk) ?_
  refine m_move ?_
  refine m_extract ?_
  refine m_extract ?_
  refine m_assign ?_
  refine m_assign ?_
  refine hKK _ _ ?_
  clear hKK KK
  refine awp_seq ?_
  refine awp_rseq (by decide) fun KK hKK => ?_
  refine m_move ?_
  refine m_bin ?_
  refine hKK _ _ ?_
  clear hKK KK
  refine m_cond (fun hc => ?_) (fun hc => ?_)
  · cases hc
  clear hc tk
  refine awp_skip ?_
  first | rw [thenQ_normal] | rw [blockQ_normal, thenQ_normal]
  refine m_cut [(0, .str (sfx s (nr.2.1 + 1))), (2, .ptr 2 0), (5, .ptr 5 0)] [(2, zeroD), (5, .box 25 [.int (kindS lex []), .str nr.1, .int 0, .int 0, .emp])] ?_
  have nk := rnumber2_ok s (nr.2.1 + 1) hs (by omega)
  have nlefr := numR_le (s := s) (k := nr.2.1 + 1) (by omega)
  generalize numR s (nr.2.1 + 1) = fr at *
  refine awp_rseq (by decide) fun KK hKK => ?_
  refine m_move ?_
  refine m_call (fun hG => nk) ?_
  refine m_move ?_
  refine m_extract ?_
  refine m_extract ?_
  refine m_extract ?_
  refine m_assign ?_
  refine m_assign ?_
  refine m_assign ?_
  refine hKK _ _ ?_
  clear hKK KK
  refine m_cut [(0, .str (sfx s fr.2.1)), (2, .ptr 2 0), (5, .ptr 5 0), (6, .int fr.2.2), (8, .int fr.1)] [(2, zeroD), (5, .box 25 [.int (kindS lex []), .str nr.1, .int 0, .int 0, .emp])] ?_
  refine awp_seq ?_
  refine awp_rseq (by decide) fun KK hKK => ?_
  refine m_move ?_
  refine m_bin ?_
  refine hKK _ _ ?_
  clear hKK KK
  refine m_cond (fun hc => ?_) (fun hc => ?_)
  · have hc' : fr.2.2 ≠ 0 := by simpa using hc
    rw [if_pos hc']
    refine awp_rseq (by decide) fun KK hKK => ?_
    refine m_load ?_
    refine m_move ?_
    refine m_move ?_
    first | refine m_stPtr ?_ | refine m_stRp ?_
    refine m_assign ?_
    refine m_assign ?_
    refine hKK _ _ ?_
    clear hKK KK
    refine awp_ret ⟨[_, _, _], ⟨k_load (by simp only [go_sem, reduceIte, Nat.reduceEqDiff, FF] <;> rfl) (by simp only [go_sem] <;> rfl) (by rfl) (by intro hG; simp only [go_sem]) (by exact lm_ptr (by simp only [go_sem, reduceIte, Nat.reduceEqDiff, FF] <;> rfl) (by simp only [go_sem, reduceIte, Nat.reduceEqDiff, FF, Nat.reduceAdd, Nat.reduceSub, Nat.reduceMul, Nat.reduceLeDiff] <;> rfl) (fun _ => Nat.le_of_ble_eq_true rfl)), ⟨(by simp only [go_sem, reduceIte, Nat.reduceEqDiff, FF]), (by simp only [go_sem, reduceIte, Nat.reduceEqDiff, FF] <;> rfl)⟩, ⟨(by simp only [go_sem, reduceIte, Nat.reduceEqDiff, FF]), (by simp only [go_sem, reduceIte, Nat.reduceEqDiff, FF] <;> rfl)⟩, trivial⟩, ?_⟩
    simp only [go_sem, reduceIte, Nat.reduceEqDiff, FF, tupled]
    exact sub_tup ⟨sub_anyD _ _ _ _ _, CV.Sub.any _, CV.Sub.refl _, trivial⟩
  have hc' : ¬ fr.2.2 ≠ 0 := by simpa using hc
  rw [if_neg hc']
  clear hc hc' nk
  refine awp_skip ?_
  first | rw [thenQ_normal] | rw [blockQ_normal, thenQ_normal]
  refine awp_rseq (by decide) fun KK hKK => ?_
  refine m_move ?_
  refine m_field ?_
  first | refine m_stPtr ?_ | refine m_stRp ?_
  refine hKK _ _ ?_
  clear hKK KK
  refine m_cut [(0, .str (sfx s fr.2.1)), (2, .ptr 2 0), (5, .ptr 5 0)] [(2, zeroD), (5, .box 25 [.int (kindS lex []), .str nr.1, .int fr.1, .int 0, .emp])] ?_
  have tk := taken_ok s (fr.2.1) 32 hs (nlefr)
  cases t3 : isAt s (fr.2.1) 32 with
  | false =>
    rw [if_pos rfl]
    rw [(taken_no t3).1, (taken_no t3).2] at tk
    have fn := fail_ne s (fr.2.1)
    generalize failAt s (fr.2.1) = fe at *
    refine awp_rseq (by decide) fun KK hKK => ?_
    refine m_move ?_
    refine m_call (fun hG => tk) ?_
    refine m_move ?_
    refine m_extract ?_
    refine m_extract ?_
    refine m_assign ?_
    refine m_assign ?_
    refine hKK _ _ ?_
    clear hKK KK
    refine awp_seq ?_
    refine awp_rseq (by decide) fun KK hKK => ?_
    refine m_move ?_
    refine m_bin ?_
    refine hKK _ _ ?_
    clear hKK KK
    refine m_cond (fun hc => ?_) (fun hc => ?_)
    · refine awp_rseq (by decide) fun KK hKK => ?_
      refine m_load ?_
      refine m_move ?_
      refine m_move ?_
      first | refine m_stPtr ?_ | refine m_stRp ?_
      refine m_assign ?_
      refine m_assign ?_
      refine hKK _ _ ?_
      clear hKK KK
      refine awp_ret ⟨[_, _, _], ⟨k_load (by simp only [go_sem, reduceIte, Nat.reduceEqDiff, FF] <;> rfl) (by simp only [go_sem] <;> rfl) (by rfl) (by intro hG; simp only [go_sem]) (by exact lm_ptr (by simp only [go_sem, reduceIte, Nat.reduceEqDiff, FF] <;> rfl) (by simp only [go_sem, reduceIte, Nat.reduceEqDiff, FF, Nat.reduceAdd, Nat.reduceSub, Nat.reduceMul, Nat.reduceLeDiff] <;> rfl) (fun _ => Nat.le_of_ble_eq_true rfl)), ⟨(by simp only [go_sem, reduceIte, Nat.reduceEqDiff, FF]), (by simp only [go_sem, reduceIte, Nat.reduceEqDiff, FF] <;> rfl)⟩, ⟨(by simp only [go_sem, reduceIte, Nat.reduceEqDiff, FF]), (by simp only [go_sem, reduceIte, Nat.reduceEqDiff, FF] <;> rfl)⟩, trivial⟩, ?_⟩
      simp only [go_sem, reduceIte, Nat.reduceEqDiff, FF, tupled]
      exact sub_tup ⟨sub_anyD _ _ _ _ _, CV.Sub.any _, CV.Sub.refl _, trivial⟩
    · rw [fn] at hc
      cases hc
  | true =>
  rw [if_neg (by decide)]
  rw [(taken_yes t3).1, (taken_yes t3).2] at tk
  have lt3 := isAt_lt t3
  refine awp_rseq (by decide) fun KK hKK => ?_
  refine m_move ?_
  refine m_call (fun hG => tk) ?_
  refine m_move ?_
  refine m_extract ?_
  refine m_extract ?_
  refine m_assign ?_
  refine m_assign ?_
  refine hKK _ _ ?_
  clear hKK KK
  refine awp_seq ?_
  refine awp_rseq (by decide) fun KK hKK => ?_
  refine m_move ?_
  refine m_bin ?_
  refine hKK _ _ ?_
  clear hKK KK
  refine m_cond (fun hc => ?_) (fun hc => ?_)
  · cases hc
  clear hc tk
  refine awp_skip ?_
  first | rw [thenQ_normal] | rw [blockQ_normal, thenQ_normal]
  refine m_cut [(0, .str (sfx s (fr.2.1 + 1))), (2, .ptr 2 0), (5, .ptr 5 0)] [(2, zeroD), (5, .box 25 [.int (kindS lex []), .str nr.1, .int fr.1, .int 0, .emp])] ?_
  have nk := rnumber2_ok s (fr.2.1 + 1) hs (by omega)
  have nletr := numR_le (s := s) (k := fr.2.1 + 1) (by omega)
  generalize numR s (fr.2.1 + 1) = tr at *
  refine awp_rseq (by decide) fun KK hKK => ?_
  refine m_move ?_
  refine m_call (fun hG => nk) ?_
  refine m_move ?_
  refine m_extract ?_
  refine m_extract ?_
  refine m_extract ?_
  refine m_assign ?_
  refine m_assign ?_
  refine m_assign ?_
  refine hKK _ _ ?_
  clear hKK KK
  refine m_cut [(0, .str (sfx s tr.2.1)), (2, .ptr 2 0), (5, .ptr 5 0), (6, .int tr.2.2), (9, .int tr.1)] [(2, zeroD), (5, .box 25 [.int (kindS lex []), .str nr.1, .int fr.1, .int 0, .emp])] ?_
  refine awp_seq ?_
  refine awp_rseq (by decide) fun KK hKK => ?_
  refine m_move ?_
  refine m_bin ?_
  refine hKK _ _ ?_
  clear hKK KK
  refine m_cond (fun hc => ?_) (fun hc => ?_)
  · have hc' : tr.2.2 ≠ 0 := by simpa using hc
    rw [if_pos hc']
    refine awp_rseq (by decide) fun KK hKK => ?_
    refine m_load ?_
    refine m_move ?_
    refine m_move ?_
    first | refine m_stPtr ?_ | refine m_stRp ?_
    refine m_assign ?_
    refine m_assign ?_
    refine hKK _ _ ?_
    clear hKK KK
    refine awp_ret ⟨[_, _, _], ⟨k_load (by simp only [go_sem, reduceIte, Nat.reduceEqDiff, FF] <;> rfl) (by simp only [go_sem] <;> rfl) (by rfl) (by intro hG; simp only [go_sem]) (by exact lm_ptr (by simp only [go_sem, reduceIte, Nat.reduceEqDiff, FF] <;> rfl) (by simp only [go_sem, reduceIte, Nat.reduceEqDiff, FF, Nat.reduceAdd, Nat.reduceSub, Nat.reduceMul, Nat.reduceLeDiff] <;> rfl) (fun _ => Nat.le_of_ble_eq_true rfl)), ⟨(by simp only [go_sem, reduceIte, Nat.reduceEqDiff, FF]), (by simp only [go_sem, reduceIte, Nat.reduceEqDiff, FF] <;> rfl)⟩, ⟨(by simp only [go_sem, reduceIte, Nat.reduceEqDiff, FF]), (by simp only [go_sem, reduceIte, Nat.reduceEqDiff, FF] <;> rfl)⟩, trivial⟩, ?_⟩
    simp only [go_sem, reduceIte, Nat.reduceEqDiff, FF, tupled]
    exact sub_tup ⟨sub_anyD _ _ _ _ _, CV.Sub.any _, CV.Sub.refl _, trivial⟩
  have hc' : ¬ tr.2.2 ≠ 0 := by simpa using hc
  rw [if_neg hc']
  clear hc hc' nk
  refine awp_skip ?_
  first | rw [thenQ_normal] | rw [blockQ_normal, thenQ_normal]
  refine awp_rseq (by decide) fun KK hKK => ?_
  refine m_move ?_
  refine m_field ?_
  first | refine m_stPtr ?_ | refine m_stRp ?_
  refine hKK _ _ ?_
  clear hKK KK
  refine m_cut [(0, .str (sfx s tr.2.1)), (2, .ptr 2 0), (5, .ptr 5 0)] [(2, zeroD), (5, .box 25 [.int (kindS lex []), .str nr.1, .int fr.1, .int tr.1, .emp])] ?_
  refine awp_rseq (by decide) fun KK hKK => ?_
  refine m_load ?_
  refine m_move ?_
  first | refine m_stPtr ?_ | refine m_stRp ?_
  refine m_assign ?_
  refine m_assign ?_
  refine hKK _ _ ?_
  clear hKK KK
  refine AWp.weak (weak_empC 2 4 (by simp only [go_sem, reduceIte, Nat.reduceEqDiff, FF] <;> rfl) (by rfl)) ?_
  refine awp_ret ⟨[_, _, _], ⟨k_load (by simp only [go_sem, reduceIte, Nat.reduceEqDiff, FF] <;> rfl) (by simp only [go_sem] <;> rfl) (by rfl) (by intro hG; simp only [go_sem]) (by exact lm_ptr (by simp only [go_sem, reduceIte, Nat.reduceEqDiff, FF] <;> rfl) (by simp only [go_sem, reduceIte, Nat.reduceEqDiff, FF, Nat.reduceAdd, Nat.reduceSub, Nat.reduceMul, Nat.reduceLeDiff] <;> rfl) (fun _ => Nat.le_of_ble_eq_true rfl)), ⟨(by simp only [go_sem, reduceIte, Nat.reduceEqDiff, FF]), (by simp only [go_sem, reduceIte, Nat.reduceEqDiff, FF] <;> rfl)⟩, ⟨(by simp only [go_sem, reduceIte, Nat.reduceEqDiff, FF]), (by simp only [go_sem, reduceIte, Nat.reduceEqDiff, FF] <;> rfl)⟩, trivial⟩, ?_⟩
  simp only [go_sem, reduceIte, Nat.reduceEqDiff, FF, tupled]
  exact CV.Sub.refl _
end Go.Am

/- The reference reads heads as the program does: plain. No condition. -/
namespace Go.Am
open Go.Proofs

theorem numEnd_fst (s : ByteArray) (a : Nat) : ∀ n k, (numEnd s a n k).2 = true → (numEnd s a n k).1 = digEnd s n k
  | 0, k, _ => rfl
  | n + 1, k, h => by
    rw [numEnd] at h ⊢
    rw [digEnd]
    split
    · rename_i hd
      rw [if_pos hd] at h
      split
      · rename_i hb
        rw [if_pos hb] at h
        cases h
      · rename_i hb
        rw [if_neg hb] at h
        exact numEnd_fst s a n (k + 1) h
    · rfl
theorem numEnd_bad (s : ByteArray) (a : Nat) : ∀ n k, k ≤ s.size → (numEnd s a n k).2 = false → ∃ e, k < e ∧ e ≤ digEnd s n k ∧ (numB (s.extract a e)).2 ≠ 0
  | 0, k, _, h => by cases h
  | n + 1, k, hk, h => by
    rw [numEnd] at h
    split at h
    · rename_i hd
      have hk' : k < s.size := by
        simp only [digAt, Bool.and_eq_true, decide_eq_true_eq] at hd
        exact hd.1.1
      rw [digEnd, if_pos hd]
      split at h
      · rename_i hb
        exact ⟨k + 1, Nat.lt_succ_self _, (digEnd_le s n (k + 1) (by omega)).1, hb⟩
      · obtain ⟨e, h1, h2, h3⟩ := numEnd_bad s a n (k + 1) (by omega) h
        exact ⟨e, by omega, h2, h3⟩
    · cases h
theorem fail_end {s : ByteArray} {k : Nat} (h : k = s.size) : failAt s k = 9 := by rw [failAt, if_pos (by omega)]
theorem fail_in {s : ByteArray} {k : Nat} (h : k < s.size) : failAt s k = 8 := by rw [failAt, if_neg (by omega)]
theorem numR_ok {s : ByteArray} {k k' : Nat} {v : Int} (h : numS s k = .ok v k') : numR s k = if k' = s.size then (0, k, 9) else (v, k', 0) := by
  unfold numS at h
  split at h
  · cases h
  · rename_i h1
    have h1 : (numTo s k).2 = true := by simpa using h1
    split at h
    · cases h
    · rename_i h2
      injection h with h3 h4
      have hd : (numTo s k).1 = digTo s k := numEnd_fst _ _ _ _ h1
      have hl := numEnd_last s k _ _ (numTo s k).1 (show numTo s k = ((numTo s k).1, true) by rw [← h1])
      have hb : (numB (s.extract k (digTo s k))).2 = 0 := by
        rcases hl with hl | hl
        · exact absurd hl h2
        · rwa [hd] at hl
      rw [hd] at h3 h4
      rw [← h3, ← h4, numR]
      by_cases he : digTo s k = s.size
      · rw [if_pos he]
        by_cases hx : k = s.size ∨ (sfx s k).toList = [45]
        · rw [if_pos ⟨he, hx⟩]
        · rw [if_neg (fun q => hx q.2), if_neg (by rw [hb]; decide)]
      · rw [if_neg (fun q => he q.1), if_neg (by rw [hb]; decide), if_neg he]
theorem sfx_minus {s : ByteArray} {k : Nat} (h : isAt s k 45 = true) (he : k + 1 = s.size) : (sfx s k).toList = [45] := by
  have h1 := isAt_iff.1 h
  rw [Lib.toList_data]
  unfold sfx
  rw [ext_list, ← he, show k + 1 - k = 1 by omega, List.take_one, List.head?_drop, h1]
  rfl
theorem numR_err {s : ByteArray} {k : Nat} {e : Int} (hk : k ≤ s.size) (h : numS s k = .err e) : (numR s k).2.2 = e ∧ e ≠ 0 := by
  have hf := numFst_le hk
  have hdt := digTo_le hk
  unfold numS at h
  split at h
  · rename_i h1
    injection h with h
    subst h
    obtain ⟨e', h2, h3, h4⟩ := numEnd_bad s k _ _ hf.2 h1
    have h3 : e' ≤ digTo s k := h3
    have hb : (numB (s.extract k (digTo s k))).2 ≠ 0 := fun hz => by
      obtain ⟨c1, c2⟩ := num_canon hz
      generalize (numB (s.extract k (digTo s k))).1 = n at c1 c2
      have hl : (s.extract k (digTo s k)).data.toList = Lib.itoa n := by rw [← c2]; rfl
      rw [ext_list] at hl
      refine h4 ?_
      have hx : s.extract k e' = ⟨((Lib.itoa n).take (e' - k)).toArray⟩ := by
        refine ba_eq ?_
        rw [ext_list, ← hl, List.take_take]
        congr 1
        omega
      have hlen : (Lib.itoa n).length = digTo s k - k := by
        rw [← hl, List.length_take, List.length_drop]
        have : s.data.toList.length = s.size := rfl
        omega
      rw [hx]
      refine num_take c1 ?_ (by omega)
      split
      · rename_i hn
        have h45 : isAt s k 45 = true := by
          rw [isAt_iff]
          have : (Lib.itoa n)[0]? = some 45 := by rw [itoa_neg hn]; rfl
          rw [← hl, List.getElem?_take_of_lt (by omega), List.getElem?_drop] at this
          exact this
        have : numFst s k = k + 1 := by rw [numFst, if_pos h45]
        omega
      · omega
    refine ⟨?_, by decide⟩
    have hno : ¬ (digTo s k = s.size ∧ (k = s.size ∨ (sfx s k).toList = [45])) := by
      rintro ⟨_, q | q⟩
      · omega
      · have hz := sfx_size s (k := k)
        have hl : (sfx s k).toList.length = s.size - k := by rw [Lib.toList_data]; exact hz
        rw [q] at hl
        have h45 : isAt s k 45 = true := by
          rw [isAt_iff]
          have : (sfx s k).toList[0]? = some 45 := by rw [q]; rfl
          rw [Lib.toList_data] at this
          unfold sfx at this
          rw [ext_list, List.getElem?_take_of_lt (by simp at hl; omega), List.getElem?_drop] at this
          exact this
        have : numFst s k = k + 1 := by rw [numFst, if_pos h45]
        simp at hl
        omega
    rw [numR, if_neg hno, if_pos hb]
  · rename_i h1
    have h1 : (numTo s k).2 = true := by simpa using h1
    split at h
    · rename_i h2
      injection h with h
      have hd : (numTo s k).1 = digTo s k := numEnd_fst _ _ _ _ h1
      rw [h2] at hd
      refine ⟨?_, fun q => by have := fail_ne s (numFst s k); rw [h, q] at this; cases this⟩
      by_cases he : numFst s k = s.size
      · rw [fail_end he] at h
        have hx : k = s.size ∨ (sfx s k).toList = [45] := by
          unfold numFst at he
          split at he
          · rename_i h45
            exact .inr (sfx_minus h45 he)
          · exact .inl he
        rw [numR, if_pos ⟨by omega, hx⟩]
        exact h
      · rw [fail_in (by omega)] at h
        have hb : (numB (s.extract k (digTo s k))).2 ≠ 0 := by
          rw [← hd]
          unfold numFst
          split
          · rename_i h45
            have : s.extract k (k + 1) = ⟨#[45]⟩ := by
              refine ba_eq ?_
              rw [ext_list, show k + 1 - k = 1 by omega, List.take_one, List.head?_drop, isAt_iff.1 h45]
              rfl
            rw [this]
            have : (numB ⟨#[45]⟩).2 = 8 := by kernel_rfl
            rw [this]
            decide
          · have : s.extract k k = ⟨#[]⟩ := by
              refine ba_eq ?_
              rw [ext_list]
              simp
            rw [this]
            have : (numB ⟨#[]⟩).2 = 8 := by kernel_rfl
            rw [this]
            decide
        rw [numR, if_neg (fun q => he (by omega)), if_pos hb]
        exact h
    · cases h

theorem headR_ok {s : ByteArray} {k k4 : Nat} {x : Bool × ByteArray × Int × Int} (h : headS s k = .ok x k4) : headR s k = if k4 = s.size then .err 9 else .ok x k4 := by
  unfold headS at h
  unfold headR
  split at h
  · cases h
  · rename_i h1
    rw [if_neg h1]
    have na := nameAt_le (by simpa using h1)
    generalize nameAt s k = a at *
    have nt := nameTo_le na.2
    split at h
    · cases h
    · rename_i h2
      split at h
      · cases h
      · rename_i h3
        have lt3 := isAt_lt (by simpa using h3 : isAt s (nameTo s a) 32 = true)
        have hn : nameR s a = (s.extract a (nameTo s a), nameTo s a, 0) := by rw [nameR, if_neg h2, if_neg (by omega)]
        rw [hn]
        simp only
        rw [if_neg (by decide), if_neg h3]
        generalize nameTo s a = b at *
        split at h
        · cases h
        · rename_i f k3 e3
          have l3 := numS_le (by omega) e3
          have r3 := numR_ok e3
          split at h
          · cases h
          · rename_i h4
            have lt4 := isAt_lt (by simpa using h4 : isAt s k3 32 = true)
            rw [if_neg (by omega)] at r3
            rw [r3]
            simp only
            rw [if_neg (by decide), if_neg h4]
            split at h
            · cases h
            · rename_i t k5 e5
              have r5 := numR_ok e5
              injection h with h6 h7
              subst h6 h7
              rw [r5]
              by_cases he : k5 = s.size
              · rw [if_pos he, if_pos he, if_pos (by simp)]
              · rw [if_neg he, if_neg he, if_neg (by simp)]
theorem headR_err {s : ByteArray} {k : Nat} {e : Int} (h : headS s k = .err e) : headR s k = .err e := by
  unfold headS at h
  unfold headR
  split at h
  · rename_i h1
    rw [if_pos h1]
    injection h with h
    rw [h]
  · rename_i h1
    rw [if_neg h1]
    have na := nameAt_le (by simpa using h1)
    generalize nameAt s k = a at *
    have nt := nameTo_le na.2
    split at h
    · rename_i h2
      have hn : nameR s a = (⟨#[]⟩, a, failAt s a) := by rw [nameR, if_pos h2]
      rw [hn]
      have hf := fail_ne s a
      rw [if_pos (by simpa using hf)]
      injection h with h
      rw [h]
    · rename_i h2
      by_cases hz : nameTo s a = s.size
      · have hn : nameR s a = (⟨#[]⟩, a, 9) := by rw [nameR, if_neg h2, if_pos hz]
        rw [hn, if_pos (by simp)]
        have h3 : isAt s (nameTo s a) 32 = false := by
          cases q : isAt s (nameTo s a) 32 with
          | false => rfl
          | true => have := isAt_lt q; omega
        rw [if_pos h3, fail_end hz] at h
        exact h
      · have hn : nameR s a = (s.extract a (nameTo s a), nameTo s a, 0) := by rw [nameR, if_neg h2, if_neg hz]
        rw [hn]
        simp only
        rw [if_neg (by decide)]
        generalize nameTo s a = b at *
        split at h
        · rename_i h3
          rw [if_pos h3]
          injection h with h
          rw [h]
        · rename_i h3
          have lt3 := isAt_lt (by simpa using h3 : isAt s b 32 = true)
          rw [if_neg h3]
          split at h
          · rename_i e3 q3
            have r3 := numR_err (by omega) q3
            rw [r3.1, if_pos r3.2]
            injection h with h
            rw [h]
          · rename_i f k3 q3
            have l3 := numS_le (by omega) q3
            have r3 := numR_ok q3
            by_cases hz3 : k3 = s.size
            · rw [if_pos hz3] at r3
              rw [r3, if_pos (by simp)]
              have h4 : isAt s k3 32 = false := by
                cases q : isAt s k3 32 with
                | false => rfl
                | true => have := isAt_lt q; omega
              rw [if_pos h4, fail_end hz3] at h
              exact h
            · rw [if_neg hz3] at r3
              rw [r3]
              simp only
              rw [if_neg (by decide)]
              split at h
              · rename_i h4
                rw [if_pos h4]
                injection h with h
                rw [h]
              · rename_i h4
                have lt4 := isAt_lt (by simpa using h4 : isAt s k3 32 = true)
                rw [if_neg h4]
                split at h
                · rename_i e5 q5
                  have r5 := numR_err (by omega) q5
                  rw [r5.1, if_pos r5.2]
                  injection h with h
                  rw [h]
                · cases h
theorem headS_ne0 {s : ByteArray} {k : Nat} {e : Int} (h : headS s k = .err e) : e ≠ 0 := by
  have hz : ∀ j, failAt s j ≠ 0 := fun j q => by have := fail_ne s j; rw [q] at this; cases this
  unfold headS at h
  split at h
  · injection h with h
    exact h ▸ hz _
  · rename_i h1
    have na := nameAt_le (by simpa using h1)
    generalize nameAt s k = a at *
    have nt := nameTo_le na.2
    split at h
    · injection h with h
      exact h ▸ hz _
    · split at h
      · injection h with h
        exact h ▸ hz _
      · rename_i h3
        have lt3 := isAt_lt (by simpa using h3 : isAt s (nameTo s a) 32 = true)
        split at h
        · rename_i e3 q3
          injection h with h
          exact h ▸ (numR_err (by omega) q3).2
        · rename_i f k3 q3
          split at h
          · injection h with h
            exact h ▸ hz _
          · rename_i h4
            have lt4 := isAt_lt (by simpa using h4 : isAt s k3 32 = true)
            split at h
            · rename_i e5 q5
              injection h with h
              exact h ▸ (numR_err (by omega) q5).2
            · cases h
theorem kidsS_ne0 {rd : Nat → PR Dv} {s : ByteArray} {lex : Bool} (hrd : ∀ k e, rd k = .err e → e ≠ 0) : ∀ (n : Nat) (acc : List Dv) (k : Nat) (e : Int), kidsS rd s lex n acc k = .err e → e ≠ 0
  | 0, acc, k, e, h => by cases h
  | n + 1, acc, k, e, h => by
    rw [kidsS] at h
    split at h
    · split at h
      · rename_i e1 q1
        injection h with h
        exact h ▸ hrd _ _ q1
      · exact kidsS_ne0 hrd n _ _ _ h
    · cases h
theorem nodeS_ne0 {s : ByteArray} : ∀ (deep k : Nat) (e : Int), nodeS s deep k = .err e → e ≠ 0
  | 0, k, e, h => by
    rw [nodeS] at h
    split at h <;> injection h with h
    · rw [← h]; decide
    · intro q
      have := fail_ne s k
      rw [h, q] at this
      cases this
  | deep + 1, k, e, h => by
    rw [nodeS] at h
    split at h
    · rename_i e1 q1
      injection h with h
      exact h ▸ headS_ne0 q1
    · split at h
      · rename_i e1 q1
        injection h with h
        exact h ▸ kidsS_ne0 (nodeS_ne0 deep) _ _ _ _ q1
      · have hz : ∀ j, failAt s j ≠ 0 := fun j q => by have := fail_ne s j; rw [q] at this; cases this
        unfold tailS at h
        split at h
        · injection h with h
          exact h ▸ hz _
        · split at h
          · injection h with h
            exact h ▸ hz _
          · cases h
end Go.Am

/- Contracts: the reference reads a derivation. No condition. -/
namespace Go.Am
open Go.Proofs
attribute [local go_sem ↓] ofL_cons ofH_cons upd_apply
attribute [local go_sem] cellsD
set_option maxHeartbeats 4000000
set_option linter.unusedSimpArgs false

def readC (s : ByteArray) : PR Dv → CV
  | .ok d k => .tup [.agg (cellsD d), .str (sfx s k), .int 0]
  | .err e => .tup [anyD, .any, .int e]
theorem sub_read {s : ByteArray} {r : PR Dv} {e : Int} {x : CV} {a b c d f : CV} (h : r = .err e) : CV.Sub (.tup [.agg [a, b, c, d, f], x, .int e]) (readC s r) := by
  subst h
  exact sub_tup ⟨sub_anyD _ _ _ _ _, CV.Sub.any _, CV.Sub.refl _, trivial⟩
/-- What the loop has: kids and a place, or an error. -/
inductive RS where
  | go (acc : List Dv) (k : Nat)
  | bad (n : Nat) (f : Nat → List CV) (kd e : Int)
def RS.st (s : ByteArray) : RS → CV
  | .go _ k => .str (sfx s k)
  | .bad _ _ _ _ => .any
def RS.er : RS → Int
  | .go _ _ => 0
  | .bad _ _ _ e => e
def RS.n : RS → Nat
  | .go acc _ => acc.length
  | .bad n _ _ _ => n
def RS.row : RS → Nat → List CV
  | .go acc _ => fun q => (encDs acc).getD q []
  | .bad _ f _ _ => f
def RS.kd (lex : Bool) : RS → Int
  | .go acc _ => kindS lex acc
  | .bad _ _ kd _ => kd
def RS.ok (s : ByteArray) (lex : Bool) (rd : Nat → PR Dv) (KR : PR (List Dv)) : RS → Prop
  | .go acc k => k ≤ s.size ∧ acc.length ≤ k ∧ kidsS rd s lex (s.size - k) acc k = KR ∧ (lex = true → acc.length ≤ 1)
  | .bad _ _ _ e => KR = .err e ∧ e ≠ 0
def RS.me (s : ByteArray) : RS → Nat
  | .go _ k => s.size - k + 1
  | .bad _ _ _ _ => 0
def RS.fin (s : ByteArray) (lex : Bool) (KR : PR (List Dv)) : RS → Prop
  | .go acc k => k ≤ s.size ∧ KR = .ok acc k ∧ (lex = true → acc.length ≤ 1)
  | .bad _ _ _ e => KR = .err e ∧ e ≠ 0
theorem isAt_sfx (s : ByteArray) (k : Nat) (c : UInt8) : (decide ((0 : Int) < (sfx s k).size) && byteAt (sfx s k) 0 == (c.toNat : Int)) = isAt s k c := by
  have hz := sfx_size s (k := k)
  by_cases hlt : k < s.size
  · have hb : byteAt (sfx s k) 0 = byteAt s k := by
      have := sfx_byte s (k := k) (i := 0) (by omega)
      simpa using this
    rw [hb, hz, isAt]
    have h1 : decide ((0 : Int) < ((s.size - k : Nat) : Int)) = true := by simp; omega
    have h2 : decide (k < s.size) = true := by simp; omega
    rw [h1, h2]
  · have h1 : decide ((0 : Int) < ((s.size - k : Nat) : Int)) = false := by simp; omega
    have h2 : decide (k < s.size) = false := by simp; omega
    rw [hz, isAt, h1, h2]
    rfl
theorem cond_read (s : ByteArray) (k : Nat) (lex : Bool) (acc : List Dv) : ((decide ((0 : Int) < (sfx s k).size) && byteAt (sfx s k) 0 == 32) && (kindS lex acc != 1 || ((acc.length : Nat) : Int) == 0)) = (isAt s k 32 && (!lex || acc.isEmpty)) := by
  rw [← cond_kids, ← isAt_sfx s k 32]
  rfl

variable [Glb]

theorem read_step (s : ByteArray) (hs : s.size ≤ 100000) (deep k : Nat) (hdp : deep ≤ 64) (hk : k ≤ s.size)
    (ih : ∀ m, deep = m + 1 → ∀ k, k ≤ s.size → APure Tryz.prog 14 [.str (sfx s k), .int m] (readC s (nodeS s m k))) :
    APure Tryz.prog 14 [.str (sfx s k), .int deep] (readC s (nodeS s deep k)) := by
  have FF : True := trivial
  refine apure_of Tryz.func14 rfl (by kernel_rfl) (by simp [Tryz.ntmps14]) ?_
  rw [Tryz.ntmps14]
  have hz := sfx_size s (k := k)
  have hN0 : isAt s k 40 = false → nodeS s deep k = .err (failAt s k) := fun hi => by
    cases deep with
    | zero => rw [nodeS, if_neg (by rw [hi]; decide)]
    | succ m => rw [nodeS, headS, if_pos hi]
  refine awp_rseq (by decide) fun KK hKK => ?_
  refine m_alloc ?_
  refine m_assign ?_
  refine m_assign ?_
  refine hKK _ _ ?_
  clear hKK KK
  refine awp_seq ?_
  refine awp_rseq (by decide) fun KK hKK => ?_
  refine m_move ?_
  refine m_bin ?_
  refine hKK _ _ ?_
  clear hKK KK
  refine m_cond (fun hc => ?_) (fun hc => ?_)
  · have he : k = s.size := by
      have : ((sfx s k).toList == (⟨#[]⟩ : ByteArray).toList) = true := hc
      rw [sfx_nil hk] at this
      simpa using this
    have hi : isAt s k 40 = false := by
      cases h : isAt s k 40 with
      | false => rfl
      | true => have := isAt_lt h; omega
    refine awp_rseq (by decide) fun KK hKK => ?_
    refine m_build ?_
    refine m_move ?_
    first | refine m_stPtr ?_ | refine m_stRp ?_
    refine m_assign ?_
    refine m_assign ?_
    refine hKK _ _ ?_
    clear hKK KK
    refine awp_ret ⟨[_, _, _], ⟨k_load (by simp only [go_sem, reduceIte, Nat.reduceEqDiff, FF] <;> rfl) (by simp only [go_sem] <;> rfl) (by rfl) (by intro hG; simp only [go_sem]) (by exact lm_ptr (by simp only [go_sem, reduceIte, Nat.reduceEqDiff, FF] <;> rfl) (by simp only [go_sem, reduceIte, Nat.reduceEqDiff, FF, Nat.reduceAdd, Nat.reduceSub, Nat.reduceMul, Nat.reduceLeDiff] <;> rfl) (fun _ => Nat.le_of_ble_eq_true rfl)), ⟨(by simp only [go_sem, reduceIte, Nat.reduceEqDiff, FF]), (by simp only [go_sem, reduceIte, Nat.reduceEqDiff, FF] <;> rfl)⟩, ⟨(by simp only [go_sem, reduceIte, Nat.reduceEqDiff, FF]), (by simp only [go_sem, reduceIte, Nat.reduceEqDiff, FF] <;> rfl)⟩, trivial⟩, ?_⟩
    simp only [go_sem, reduceIte, Nat.reduceEqDiff, FF, tupled]
    refine sub_read ?_
    rw [hN0 hi, fail_end he]
  have hlt : k < s.size := by
    have : ((sfx s k).toList == (⟨#[]⟩ : ByteArray).toList) = false := hc
    rw [sfx_nil hk] at this
    have : ¬ k = s.size := by simpa using this
    omega
  have hb : byteAt (sfx s k) 0 = byteAt s k := by
    have := sfx_byte s (k := k) (i := 0) (by omega)
    simpa using this
  clear hc
  refine awp_skip ?_
  first | rw [thenQ_normal] | rw [blockQ_normal, thenQ_normal]
  refine awp_seq ?_
  refine awp_rseq (by decide) fun KK hKK => ?_
  refine m_move ?_
  refine m_idx ?_
  refine m_bin ?_
  refine hKK _ _ ?_
  clear hKK KK
  refine m_cond (fun hc => ?_) (fun hc => ?_)
  · have hi : isAt s k 40 = false := by
      rw [isAt, Bool.and_eq_false_iff]
      right
      have hc' : (byteAt (sfx s k) 0 != 40) = true := hc
      rw [hb] at hc'
      simpa using hc'
    refine awp_rseq (by decide) fun KK hKK => ?_
    refine m_build ?_
    refine m_move ?_
    first | refine m_stPtr ?_ | refine m_stRp ?_
    refine m_assign ?_
    refine m_assign ?_
    refine hKK _ _ ?_
    clear hKK KK
    refine awp_ret ⟨[_, _, _], ⟨k_load (by simp only [go_sem, reduceIte, Nat.reduceEqDiff, FF] <;> rfl) (by simp only [go_sem] <;> rfl) (by rfl) (by intro hG; simp only [go_sem]) (by exact lm_ptr (by simp only [go_sem, reduceIte, Nat.reduceEqDiff, FF] <;> rfl) (by simp only [go_sem, reduceIte, Nat.reduceEqDiff, FF, Nat.reduceAdd, Nat.reduceSub, Nat.reduceMul, Nat.reduceLeDiff] <;> rfl) (fun _ => Nat.le_of_ble_eq_true rfl)), ⟨(by simp only [go_sem, reduceIte, Nat.reduceEqDiff, FF]), (by simp only [go_sem, reduceIte, Nat.reduceEqDiff, FF] <;> rfl)⟩, ⟨(by simp only [go_sem, reduceIte, Nat.reduceEqDiff, FF]), (by simp only [go_sem, reduceIte, Nat.reduceEqDiff, FF] <;> rfl)⟩, trivial⟩, ?_⟩
    simp only [go_sem, reduceIte, Nat.reduceEqDiff, FF, tupled]
    refine sub_read ?_
    rw [hN0 hi, fail_in hlt]
  have hi : isAt s k 40 = true := by
    have hc' : (byteAt (sfx s k) 0 != 40) = false := hc
    rw [hb] at hc'
    rw [isAt, Bool.and_eq_true, decide_eq_true_eq, beq_iff_eq]
    exact ⟨hlt, by simpa using hc'⟩
  clear hc hN0
  refine awp_skip ?_
  first | rw [thenQ_normal] | rw [blockQ_normal, thenQ_normal]
  refine awp_seq ?_
  refine awp_rseq (by decide) fun KK hKK => ?_
  refine m_move ?_
  refine m_bin ?_
  refine hKK _ _ ?_
  clear hKK KK
  refine m_cond (fun hc => ?_) (fun hc => ?_)
  · have hd0 : deep = 0 := by
      have : ((deep : Nat) : Int) = 0 := by simpa using hc
      omega
    refine awp_rseq (by decide) fun KK hKK => ?_
    refine m_build ?_
    refine m_move ?_
    first | refine m_stPtr ?_ | refine m_stRp ?_
    refine m_assign ?_
    refine m_assign ?_
    refine hKK _ _ ?_
    clear hKK KK
    refine awp_ret ⟨[_, _, _], ⟨k_load (by simp only [go_sem, reduceIte, Nat.reduceEqDiff, FF] <;> rfl) (by simp only [go_sem] <;> rfl) (by rfl) (by intro hG; simp only [go_sem]) (by exact lm_ptr (by simp only [go_sem, reduceIte, Nat.reduceEqDiff, FF] <;> rfl) (by simp only [go_sem, reduceIte, Nat.reduceEqDiff, FF, Nat.reduceAdd, Nat.reduceSub, Nat.reduceMul, Nat.reduceLeDiff] <;> rfl) (fun _ => Nat.le_of_ble_eq_true rfl)), ⟨(by simp only [go_sem, reduceIte, Nat.reduceEqDiff, FF]), (by simp only [go_sem, reduceIte, Nat.reduceEqDiff, FF] <;> rfl)⟩, ⟨(by simp only [go_sem, reduceIte, Nat.reduceEqDiff, FF]), (by simp only [go_sem, reduceIte, Nat.reduceEqDiff, FF] <;> rfl)⟩, trivial⟩, ?_⟩
    simp only [go_sem, reduceIte, Nat.reduceEqDiff, FF, tupled]
    refine sub_read ?_
    rw [hd0, nodeS, if_pos hi]
  have hd1 : ¬ ((deep : Nat) : Int) = 0 := by simpa using hc
  obtain ⟨m, rfl⟩ : ∃ m, deep = m + 1 := ⟨deep - 1, by omega⟩
  clear hc
  refine awp_skip ?_
  first | rw [thenQ_normal] | rw [blockQ_normal, thenQ_normal]
  refine m_cut [(0, .str (sfx s k)), (1, .int (m + 1 : Nat)), (4, .ptr 4 0)] [(4, zeroD)] ?_
  have hN : nodeS s (m + 1) k = match headS s k with
    | .err e => .err e
    | .ok h k4 => match kidsS (nodeS s m) s h.1 (s.size - k4) [] k4 with
      | .err e => .err e
      | .ok ks k5 => tailS s h ks k5 := by rw [nodeS] <;> rfl
  have hd := head_ok s k (by omega) hk
  have hbad : (∃ e, headR s k = .err e ∧ nodeS s (m + 1) k = .err e ∧ e ≠ 0) ∨ ∃ x k4, headS s k = .ok x k4 ∧ headR s k = .ok x k4 ∧ k4 < s.size := by
    cases hS : headS s k with
    | err e =>
      left
      refine ⟨e, headR_err hS, ?_, headS_ne0 hS⟩
      rw [hN, hS]
    | ok x k4 =>
      have hl := headS_le hS
      have hr := headR_ok hS
      by_cases he : k4 = s.size
      · left
        refine ⟨9, by rw [hr, if_pos he], ?_, by decide⟩
        rw [hN, hS]
        simp only
        rw [he, Nat.sub_self, kidsS]
        simp only
        have hi5 : isAt s s.size 41 = false := by
          cases h : isAt s s.size 41 with
          | false => rfl
          | true => have := isAt_lt h; omega
        rw [tailS]
        split
        · rw [fail_end rfl]
        · rw [fail_end rfl]
      · right
        exact ⟨x, k4, rfl, by rw [hr, if_neg he], by omega⟩
  rcases hbad with ⟨e, hR, hE, hne⟩ | ⟨x, k4, hS, hR, hk4⟩
  · rw [hR] at hd
    simp only [headC] at hd
    have hE0 : (e == 0) = false := by simpa using hne
    refine awp_rseq (by decide) fun KK hKK => ?_
    refine m_move ?_
    refine m_call (fun hG => hd) ?_
    refine m_move ?_
    refine m_extract ?_
    refine m_extract ?_
    refine m_extract ?_
    refine m_alloc ?_
    first | refine m_stPtr ?_ | refine m_stRp ?_
    refine m_assign ?_
    refine m_assign ?_
    refine hKK _ _ ?_
    clear hKK KK
    refine m_cut [(0, .c .any), (4, .ptr 4 0), (7, .ptr 7 0), (8, .int e)] [(4, zeroD), (7, .box 25 [.c .any, .c .any, .c .any, .c .any, .c .any])] ?_
    refine m_join (ι := Unit) (fun i => [(0, .c .any), (4, .ptr 4 0), (7, .ptr 7 0), (8, .int e)]) (fun i => [(4, zeroD), (7, .box 25 [.c .any, .c .any, .c .any, .c .any, .c .any])]) (fun i => True) ?_ ?_
    · refine awp_block ?_
      refine m_for (ι := Unit) (fun i => [(0, .c .any), (4, .ptr 4 0), (7, .ptr 7 0), (8, .int e)]) (fun i => [(4, zeroD), (7, .box 25 [.c .any, .c .any, .c .any, .c .any, .c .any])]) (fun i => 0) (fun i => True) (()) ?_ ?_
      · trivial
      rintro - -
      refine awp_seq ?_
      refine awp_rseq (by decide) fun KK hKK => ?_
      refine st0 rfl (k_move (by simp only [go_sem, reduceIte, Nat.reduceEqDiff, FF, hE0] <;> rfl)) ?_
      refine st0 rfl (k_bin (by simp only [go_sem, reduceIte, Nat.reduceEqDiff, FF, hE0] <;> rfl) (by simp only [go_sem, reduceIte, Nat.reduceEqDiff, FF, hE0] <;> rfl) (by rfl) (by rfl) (by simp only [go_sem, reduceIte, Nat.reduceEqDiff, FF, hE0] <;> rfl) (by intro hG; simp only [go_sem])) ?_
      refine st0 rfl (k_move (by simp only [go_sem, reduceIte, Nat.reduceEqDiff, FF, hE0] <;> rfl)) ?_
      refine sgF rfl (by simp only [go_sem, reduceIte, Nat.reduceEqDiff, FF, hE0] <;> rfl) (by rfl) (by simp only [go_sem, reduceIte, Nat.reduceEqDiff, FF, hE0, hE0] <;> rfl) ?_
      refine sgF rfl (by simp only [go_sem, reduceIte, Nat.reduceEqDiff, FF, hE0] <;> rfl) (by rfl) (by simp only [go_sem, reduceIte, Nat.reduceEqDiff, FF, hE0, hE0] <;> rfl) ?_
      refine sgF rfl (by simp only [go_sem, reduceIte, Nat.reduceEqDiff, FF, hE0] <;> rfl) (by rfl) (by simp only [go_sem, reduceIte, Nat.reduceEqDiff, FF, hE0, hE0] <;> rfl) ?_
      refine st0 rfl (k_pick (by simp only [go_sem, reduceIte, Nat.reduceEqDiff, FF, hE0] <;> rfl) (by simp only [go_sem, reduceIte, Nat.reduceEqDiff, FF, hE0] <;> rfl) (by simp only [go_sem, reduceIte, Nat.reduceEqDiff, FF, hE0] <;> rfl) (by rfl) (by rfl) (by rfl) (by intro hG; first | (simp only [go_sem, reduceIte, Nat.reduceEqDiff, FF, hE0, hE0]; done) | (simp [go_sem]; done) | (simp [go_sem] at hG ⊢ <;> simp [hG] <;> (intros; simp_all))) (by first | (simp only [go_sem, reduceIte, Nat.reduceEqDiff, FF, hE0] <;> rfl) | rfl)) ?_
      refine st0 rfl (k_move (by simp only [go_sem, reduceIte, Nat.reduceEqDiff, FF, hE0] <;> rfl)) ?_
      refine sgF rfl (by simp only [go_sem, reduceIte, Nat.reduceEqDiff, FF, hE0] <;> rfl) (by rfl) (by simp only [go_sem, reduceIte, Nat.reduceEqDiff, FF, hE0, hE0] <;> rfl) ?_
      refine sgF rfl (by simp only [go_sem, reduceIte, Nat.reduceEqDiff, FF, hE0] <;> rfl) (by rfl) (by simp only [go_sem, reduceIte, Nat.reduceEqDiff, FF, hE0, hE0] <;> rfl) ?_
      refine sgF rfl (by simp only [go_sem, reduceIte, Nat.reduceEqDiff, FF, hE0] <;> rfl) (by rfl) (by simp only [go_sem, reduceIte, Nat.reduceEqDiff, FF, hE0, hE0] <;> rfl) ?_
      refine st0 rfl (k_pick (by simp only [go_sem, reduceIte, Nat.reduceEqDiff, FF, hE0] <;> rfl) (by simp only [go_sem, reduceIte, Nat.reduceEqDiff, FF, hE0] <;> rfl) (by simp only [go_sem, reduceIte, Nat.reduceEqDiff, FF, hE0] <;> rfl) (by rfl) (by rfl) (by rfl) (by intro hG; first | (simp only [go_sem, reduceIte, Nat.reduceEqDiff, FF, hE0, hE0]; done) | (simp [go_sem]; done) | (simp [go_sem] at hG ⊢ <;> simp [hG] <;> (intros; simp_all))) (by first | (simp only [go_sem, reduceIte, Nat.reduceEqDiff, FF, hE0] <;> rfl) | rfl)) ?_
      refine st0 rfl (k_move (by simp only [go_sem, reduceIte, Nat.reduceEqDiff, FF, hE0] <;> rfl)) ?_
      refine sgF rfl (by simp only [go_sem, reduceIte, Nat.reduceEqDiff, FF, hE0] <;> rfl) (by rfl) (by simp only [go_sem, reduceIte, Nat.reduceEqDiff, FF, hE0, hE0] <;> rfl) ?_
      refine sgF rfl (by simp only [go_sem, reduceIte, Nat.reduceEqDiff, FF, hE0] <;> rfl) (by rfl) (by simp only [go_sem, reduceIte, Nat.reduceEqDiff, FF, hE0, hE0] <;> rfl) ?_
      refine sgF rfl (by simp only [go_sem, reduceIte, Nat.reduceEqDiff, FF, hE0] <;> rfl) (by rfl) (by simp only [go_sem, reduceIte, Nat.reduceEqDiff, FF, hE0, hE0] <;> rfl) ?_
      refine sgF rfl (by simp only [go_sem, reduceIte, Nat.reduceEqDiff, FF, hE0] <;> rfl) (by rfl) (by simp only [go_sem, reduceIte, Nat.reduceEqDiff, FF, hE0, hE0] <;> rfl) ?_
      refine sgF rfl (by simp only [go_sem, reduceIte, Nat.reduceEqDiff, FF, hE0] <;> rfl) (by rfl) (by simp only [go_sem, reduceIte, Nat.reduceEqDiff, FF, hE0, hE0] <;> rfl) ?_
      refine sgF rfl (by simp only [go_sem, reduceIte, Nat.reduceEqDiff, FF, hE0] <;> rfl) (by rfl) (by simp only [go_sem, reduceIte, Nat.reduceEqDiff, FF, hE0, hE0] <;> rfl) ?_
      refine sgF rfl (by simp only [go_sem, reduceIte, Nat.reduceEqDiff, FF, hE0] <;> rfl) (by rfl) (by simp only [go_sem, reduceIte, Nat.reduceEqDiff, FF, hE0, hE0] <;> rfl) ?_
      refine sgF rfl (by simp only [go_sem, reduceIte, Nat.reduceEqDiff, FF, hE0] <;> rfl) (by rfl) (by simp only [go_sem, reduceIte, Nat.reduceEqDiff, FF, hE0, hE0] <;> rfl) ?_
      refine sgF rfl (by simp only [go_sem, reduceIte, Nat.reduceEqDiff, FF, hE0] <;> rfl) (by rfl) (by simp only [go_sem, reduceIte, Nat.reduceEqDiff, FF, hE0, hE0] <;> rfl) ?_
      refine st0 rfl (k_pick (by simp only [go_sem, reduceIte, Nat.reduceEqDiff, FF, hE0] <;> rfl) (by simp only [go_sem, reduceIte, Nat.reduceEqDiff, FF, hE0] <;> rfl) (by simp only [go_sem, reduceIte, Nat.reduceEqDiff, FF, hE0] <;> rfl) (by rfl) (by rfl) (by rfl) (by intro hG; first | (simp only [go_sem, reduceIte, Nat.reduceEqDiff, FF, hE0, hE0]; done) | (simp [go_sem]; done) | (simp [go_sem] at hG ⊢ <;> simp [hG] <;> (intros; simp_all))) (by first | (simp only [go_sem, reduceIte, Nat.reduceEqDiff, FF, hE0] <;> rfl) | rfl)) ?_
      refine hKK _ _ ?_
      clear hKK KK
      refine awp_cond (by simp only [go_sem, reduceIte, Nat.reduceEqDiff, FF, hE0] <;> rfl) (fun hc => ?_) (fun hc => ?_)
      · cases hc
      · refine awp_exit ?_
        simp only [thenQ_exit, blockQ_exit, reduceIte, Nat.reduceEqDiff]
        try rw [thenQ_normal]
        try rw [thenQ_normal]
        refine ⟨(), ?_, (by simp only [List.forall_mem_cons, List.forall_mem_nil, go_sem, reduceIte, Nat.reduceEqDiff, FF]; all_goals ((repeat' apply And.intro) <;> first | trivial | rfl | exact objLe_refl _ | (intro _ _; exact Subs.refl _))), (by simp only [List.forall_mem_cons, List.forall_mem_nil, go_sem, reduceIte, Nat.reduceEqDiff, FF]; all_goals ((repeat' apply And.intro) <;> first | trivial | rfl | exact objLe_refl _ | (intro _ _; exact Subs.refl _)))⟩
        trivial
    rintro - -
    refine awp_seq ?_
    refine awp_rseq (by decide) fun KK hKK => ?_
    refine st0 rfl (k_move (by simp only [go_sem, reduceIte, Nat.reduceEqDiff, FF, hE0] <;> rfl)) ?_
    refine st0 rfl (k_bin (by simp only [go_sem, reduceIte, Nat.reduceEqDiff, FF, hE0] <;> rfl) (by simp only [go_sem, reduceIte, Nat.reduceEqDiff, FF, hE0] <;> rfl) (by rfl) (by rfl) (by simp only [go_sem, reduceIte, Nat.reduceEqDiff, FF, hE0] <;> rfl) (by intro hG; simp only [go_sem])) ?_
    refine st0 rfl (k_move (by simp only [go_sem, reduceIte, Nat.reduceEqDiff, FF, hE0] <;> rfl)) ?_
    refine sgF rfl (by simp only [go_sem, reduceIte, Nat.reduceEqDiff, FF, hE0] <;> rfl) (by rfl) (by simp only [go_sem, reduceIte, Nat.reduceEqDiff, FF, hE0, hE0] <;> rfl) ?_
    refine sgF rfl (by simp only [go_sem, reduceIte, Nat.reduceEqDiff, FF, hE0] <;> rfl) (by rfl) (by simp only [go_sem, reduceIte, Nat.reduceEqDiff, FF, hE0, hE0] <;> rfl) ?_
    refine st0 rfl (k_pick (by simp only [go_sem, reduceIte, Nat.reduceEqDiff, FF, hE0] <;> rfl) (by simp only [go_sem, reduceIte, Nat.reduceEqDiff, FF, hE0] <;> rfl) (by simp only [go_sem, reduceIte, Nat.reduceEqDiff, FF, hE0] <;> rfl) (by rfl) (by rfl) (by rfl) (by intro hG; first | (simp only [go_sem, reduceIte, Nat.reduceEqDiff, FF, hE0, hE0]; done) | (simp [go_sem]; done) | (simp [go_sem] at hG ⊢ <;> simp [hG] <;> (intros; simp_all))) (by first | (simp only [go_sem, reduceIte, Nat.reduceEqDiff, FF, hE0] <;> rfl) | rfl)) ?_
    refine hKK _ _ ?_
    clear hKK KK
    refine awp_cond (by simp only [go_sem, reduceIte, Nat.reduceEqDiff, FF, hE0] <;> rfl) (fun hc => ?_) (fun hc => ?_)
    · cases hc
    refine awp_skip ?_
    first | rw [thenQ_normal] | rw [blockQ_normal, thenQ_normal]
    refine awp_seq ?_
    refine awp_rseq (by decide) fun KK hKK => ?_
    refine m_move ?_
    refine m_bin ?_
    refine hKK _ _ ?_
    clear hKK KK
    refine m_cond (fun hc => ?_) (fun hc => ?_)
    · refine awp_rseq (by decide) fun KK hKK => ?_
      refine m_build ?_
      refine m_move ?_
      refine m_move ?_
      first | refine m_stPtr ?_ | refine m_stRp ?_
      refine m_assign ?_
      refine m_assign ?_
      refine hKK _ _ ?_
      clear hKK KK
      refine awp_ret ⟨[_, _, _], ⟨k_load (by simp only [go_sem, reduceIte, Nat.reduceEqDiff, FF] <;> rfl) (by simp only [go_sem] <;> rfl) (by rfl) (by intro hG; simp only [go_sem]) (by exact lm_ptr (by simp only [go_sem, reduceIte, Nat.reduceEqDiff, FF] <;> rfl) (by simp only [go_sem, reduceIte, Nat.reduceEqDiff, FF, Nat.reduceAdd, Nat.reduceSub, Nat.reduceMul, Nat.reduceLeDiff] <;> rfl) (fun _ => Nat.le_of_ble_eq_true rfl)), ⟨(by simp only [go_sem, reduceIte, Nat.reduceEqDiff, FF]), (by simp only [go_sem, reduceIte, Nat.reduceEqDiff, FF] <;> rfl)⟩, ⟨(by simp only [go_sem, reduceIte, Nat.reduceEqDiff, FF]), (by simp only [go_sem, reduceIte, Nat.reduceEqDiff, FF] <;> rfl)⟩, trivial⟩, ?_⟩
      simp only [go_sem, reduceIte, Nat.reduceEqDiff, FF, tupled]
      exact sub_read hE
    · have : (e != 0) = false := hc
      simp at this
      exact absurd this hne
  rw [hR] at hd
  obtain ⟨lex, name, f, t⟩ := x
  simp only [headC] at hd
  rw [hS] at hN
  simp only at hN
  generalize hKR : kidsS (nodeS s m) s lex (s.size - k4) [] k4 = KR at hN
  refine awp_rseq (by decide) fun KK hKK => ?_
  refine m_move ?_
  refine m_call (fun hG => hd) ?_
  refine m_move ?_
  refine m_extract ?_
  refine m_extract ?_
  refine m_extract ?_
  refine m_alloc ?_
  first | refine m_stPtr ?_ | refine m_stRp ?_
  refine m_assign ?_
  refine m_assign ?_
  refine hKK _ _ ?_
  clear hKK KK
  refine AWp.weak (weak_Cemp 7 4 (by simp only [go_sem, reduceIte, Nat.reduceEqDiff, FF] <;> rfl) (by rfl)) ?_
  refine m_cut [(0, .str (sfx s k4)), (1, .int (m + 1 : Nat)), (4, .ptr 4 0), (7, .ptr 7 0), (8, .int 0)] [(4, zeroD), (7, .box 25 [.int (kindS lex []), .str name, .int f, .int t, .emp])] ?_
  clear hd hb hi hz hlt hS hR hk
  refine AWp.weak (weak_adoptB 7 4 100 _ _ 25 5 (fun q => (encDs []).getD q []) (by simp only [go_sem, reduceIte, Nat.reduceEqDiff, FF] <;> rfl) (by rfl) (by simp only [go_sem, reduceIte, Nat.reduceEqDiff, FF])) ?_
  refine m_join (ι := RS) (fun p => [(0, .c (p.st s)), (4, .ptr 4 0), (7, .ptr 7 0), (8, .int p.er)]) (fun p => [(4, zeroD), (7, .box 25 [.int (p.kd lex), .str name, .int f, .int t, .own 100 p.n]), (100, .row 25 5 p.n p.row)]) (fun p => p.fin s lex KR) ?_ ?_
  · refine awp_block ?_
    refine m_for (ι := RS) (fun p => [(0, .c (p.st s)), (1, .int (m + 1 : Nat)), (4, .ptr 4 0), (7, .ptr 7 0), (8, .int p.er)]) (fun p => [(4, zeroD), (7, .box 25 [.int (p.kd lex), .str name, .int f, .int t, .own 100 p.n]), (100, .row 25 5 p.n p.row)]) (fun p => p.me s) (fun p => p.ok s lex (nodeS s m) KR) (.go [] k4) ?_ ?_
    · exact ⟨by omega, Nat.zero_le _, hKR, fun _ => Nat.zero_le _⟩
    rintro (⟨acc, e⟩ | ⟨n, g, kd, er⟩) hp
    · obtain ⟨he1, he2, hres, hone⟩ := hp
      dsimp only [RS.st, RS.er, RS.n, RS.row, RS.kd, RS.me]
      have hz := sfx_size s (k := e)
      refine awp_seq ?_
      refine awp_rseq (by decide) fun KK hKK => ?_
      refine m_move ?_
      refine m_bin ?_
      refine m_move ?_
      refine g_move ?_
      refine g_len ?_
      refine g_bin ?_
      refine m_pick ?_
      refine m_move ?_
      refine g_move ?_
      refine g_idx ?_
      refine g_bin ?_
      refine m_pick ?_
      refine m_move ?_
      refine g_field ?_
      refine g_load ?_
      refine g_bin ?_
      refine g_move ?_
      refine g_field ?_
      refine g_load ?_
      refine g_len ?_
      refine g_bin ?_
      refine g_pick ?_
      refine m_pick ?_
      refine hKK _ _ ?_
      clear hKK KK
      refine m_cond (fun hc => ?_) (fun hc => ?_)
      · have hc' : (isAt s e 32 && (!lex || acc.isEmpty)) = true := by
          rw [← cond_read]
          exact hc
        rw [Bool.and_eq_true] at hc'
        have hlt := isAt_lt hc'.1
        have w1 : IntKind.i64.wrap (((m + 1 : Nat) : Int) - 1) = (m : Int) := by rw [wrap_in (by omega)]; omega
        rw [kidsS_step hlt, if_pos (by rw [Bool.and_eq_true]; exact hc')] at hres
        have x2 : (sfx s e).extract 1 (sfx s e).size = sfx s (e + 1) := sfx_sfx s (by omega)
        have hrd := ih m rfl (e + 1) (by omega)
        have hone' : ∀ d : Dv, lex = true → (acc ++ [d]).length ≤ 1 := fun d hl => by
          have := hc'.2
          rw [hl] at this
          have : acc = [] := by simpa using this
          rw [this]
          exact Nat.le_refl _
        refine awp_skip ?_
        first | rw [thenQ_normal] | rw [blockQ_normal, thenQ_normal]
        refine awp_block ?_
        cases hr : nodeS s m (e + 1) with
        | err er =>
          rw [hr] at hrd hres
          simp only [readC] at hrd
          simp only at hres
          have hne := nodeS_ne0 _ _ _ hr
          have FF := And.intro x2 (And.intro w1 FF)
          refine awp_rseq (by decide) fun KK hKK => ?_
          refine m_move ?_
          first | refine m_slOwn ?_ | refine m_slIm ?_ | refine m_slStr ?_
          refine m_move ?_
          refine m_bin ?_
          refine m_call (fun hG => hrd) ?_
          refine m_move ?_
          refine m_extract ?_
          refine m_extract ?_
          refine m_extract ?_
          refine m_alloc ?_
          first | refine m_stPtr ?_ | refine m_stRp ?_
          refine m_assign ?_
          refine m_assign ?_
          refine hKK _ _ ?_
          clear hKK KK
          refine m_cut [(1, .int (m + 1 : Nat)), (4, .ptr 4 0), (7, .ptr 7 0), (9, .ptr 9 0), (10, .c .any), (11, .int er)] [(4, zeroD), (7, .box 25 [.int (kindS lex acc), .str name, .int f, .int t, .own 100 acc.length]), (9, .box 25 [.c .any, .c .any, .c .any, .c .any, .c .any]), (100, .row 25 5 acc.length (fun q => (encDs acc).getD q []))] ?_
          refine m_join (ι := Int) (fun kd => [(1, .int (m + 1 : Nat)), (4, .ptr 4 0), (7, .ptr 7 0), (9, .ptr 9 0), (10, .c .any), (11, .int er)]) (fun kd => [(4, zeroD), (7, .box 25 [.int kd, .str name, .int f, .int t, .own 100 acc.length]), (9, .box 25 [.c .any, .c .any, .c .any, .c .any, .c .any]), (100, .row 25 5 acc.length (fun q => (encDs acc).getD q []))]) (fun kd => True) ?_ ?_
          · refine awp_rseq (by decide) fun KK hKK => ?_
            refine m_field ?_
            refine m_load ?_
            refine m_bin ?_
            refine hKK _ _ ?_
            clear hKK KK
            refine m_cond (fun hc => ?_) (fun hc => ?_)
            · refine awp_rlast (by decide) fun KK hKK => ?_
              refine m_field ?_
              first | refine m_stPtr ?_ | refine m_stRp ?_
              refine hKK _ _ ?_
              clear hKK KK
              try rw [thenQ_normal]
              refine ⟨2, ?_, (by simp only [List.forall_mem_cons, List.forall_mem_nil, go_sem, reduceIte, Nat.reduceEqDiff, FF]; all_goals ((repeat' apply And.intro) <;> first | trivial | rfl | exact objLe_refl _ | (intro _ _; exact Subs.refl _))), (by simp only [List.forall_mem_cons, List.forall_mem_nil, go_sem, reduceIte, Nat.reduceEqDiff, FF]; all_goals ((repeat' apply And.intro) <;> first | trivial | rfl | exact objLe_refl _ | (intro _ _; exact Subs.refl _)))⟩
              trivial
            · refine awp_skip ?_
              try rw [thenQ_normal]
              refine ⟨kindS lex acc, ?_, (by simp only [List.forall_mem_cons, List.forall_mem_nil, go_sem, reduceIte, Nat.reduceEqDiff, FF]; all_goals ((repeat' apply And.intro) <;> first | trivial | rfl | exact objLe_refl _ | (intro _ _; exact Subs.refl _))), (by simp only [List.forall_mem_cons, List.forall_mem_nil, go_sem, reduceIte, Nat.reduceEqDiff, FF]; all_goals ((repeat' apply And.intro) <;> first | trivial | rfl | exact objLe_refl _ | (intro _ _; exact Subs.refl _)))⟩
              trivial
          rintro kd -
          refine awp_rseq (by decide) fun KK hKK => ?_
          refine m_field ?_
          refine m_load ?_
          refine m_load ?_
          refine m_sliceN ?_
          first | refine m_appOwn ?_ | refine m_appEmp ?_
          refine m_field ?_
          first | refine m_stPtr ?_ | refine m_stRp ?_
          refine hKK _ _ ?_
          clear hKK KK
          refine awp_rseq (by decide) fun KK hKK => ?_
          refine m_move ?_
          refine m_assign ?_
          refine hKK _ _ ?_
          clear hKK KK
          refine awp_rlast (by decide) fun KK hKK => ?_
          refine m_move ?_
          refine m_assign ?_
          refine hKK _ _ ?_
          clear hKK KK
          rw [blockQ_normal]
          try rw [thenQ_normal]
          refine m_nextH (.bad (acc.length + 1) (fun q => if q < acc.length then (encDs acc).getD q [] else [[CV.any, .any, .any, .any, .any]].getD (q - acc.length) []) kd er) ?_ ?_ ?_
          · exact ⟨hres.symm, hne⟩
          · dsimp only [RS.me]; omega
          · exact List.forall_mem_cons.2 ⟨objLe_refl _, List.forall_mem_cons.2 ⟨objLe_refl _, List.forall_mem_cons.2 ⟨objLe_refl _, List.forall_mem_nil _⟩⟩⟩
        | ok d k' =>
          rw [hr] at hrd hres
          simp only [readC] at hrd
          simp only at hres
          have lk := nodeS_le m (e + 1) d k' hr
          have FF := And.intro x2 (And.intro w1 FF)
          refine awp_rseq (by decide) fun KK hKK => ?_
          refine m_move ?_
          first | refine m_slOwn ?_ | refine m_slIm ?_ | refine m_slStr ?_
          refine m_move ?_
          refine m_bin ?_
          refine m_call (fun hG => hrd) ?_
          refine m_move ?_
          refine m_extract ?_
          refine m_extract ?_
          refine m_extract ?_
          refine m_alloc ?_
          first | refine m_stPtr ?_ | refine m_stRp ?_
          refine m_assign ?_
          refine m_assign ?_
          refine hKK _ _ ?_
          clear hKK KK
          refine m_cut [(1, .int (m + 1 : Nat)), (4, .ptr 4 0), (7, .ptr 7 0), (9, .ptr 9 0), (10, .str (sfx s k')), (11, .int 0)] [(4, zeroD), (7, .box 25 [.int (kindS lex acc), .str name, .int f, .int t, .own 100 acc.length]), (9, .box 25 [.int d.kind, .str d.name, .int d.frm, .int d.to, .c (encKids d.kids)]), (100, .row 25 5 acc.length (fun q => (encDs acc).getD q []))] ?_
          refine m_join (ι := Int) (fun kd => [(1, .int (m + 1 : Nat)), (4, .ptr 4 0), (7, .ptr 7 0), (9, .ptr 9 0), (10, .str (sfx s k')), (11, .int 0)]) (fun kd => [(4, zeroD), (7, .box 25 [.int kd, .str name, .int f, .int t, .own 100 acc.length]), (9, .box 25 [.int d.kind, .str d.name, .int d.frm, .int d.to, .c (encKids d.kids)]), (100, .row 25 5 acc.length (fun q => (encDs acc).getD q []))]) (fun kd => kd = kindS lex (acc ++ [d])) ?_ ?_
          · refine awp_rseq (by decide) fun KK hKK => ?_
            refine m_field ?_
            refine m_load ?_
            refine m_bin ?_
            refine hKK _ _ ?_
            clear hKK KK
            refine m_cond (fun hc => ?_) (fun hc => ?_)
            · refine awp_rlast (by decide) fun KK hKK => ?_
              refine m_field ?_
              first | refine m_stPtr ?_ | refine m_stRp ?_
              refine hKK _ _ ?_
              clear hKK KK
              try rw [thenQ_normal]
              refine ⟨2, ?_, (by simp only [List.forall_mem_cons, List.forall_mem_nil, go_sem, reduceIte, Nat.reduceEqDiff, FF]; all_goals ((repeat' apply And.intro) <;> first | trivial | rfl | exact objLe_refl _ | (intro _ _; exact Subs.refl _))), (by simp only [List.forall_mem_cons, List.forall_mem_nil, go_sem, reduceIte, Nat.reduceEqDiff, FF]; all_goals ((repeat' apply And.intro) <;> first | trivial | rfl | exact objLe_refl _ | (intro _ _; exact Subs.refl _)))⟩
              exact (kind_zero (by simpa using hc)).symm
            · refine awp_skip ?_
              try rw [thenQ_normal]
              refine ⟨kindS lex acc, ?_, (by simp only [List.forall_mem_cons, List.forall_mem_nil, go_sem, reduceIte, Nat.reduceEqDiff, FF]; all_goals ((repeat' apply And.intro) <;> first | trivial | rfl | exact objLe_refl _ | (intro _ _; exact Subs.refl _))), (by simp only [List.forall_mem_cons, List.forall_mem_nil, go_sem, reduceIte, Nat.reduceEqDiff, FF]; all_goals ((repeat' apply And.intro) <;> first | trivial | rfl | exact objLe_refl _ | (intro _ _; exact Subs.refl _)))⟩
              exact (kind_same (by simpa using hc)).symm
          rintro kd hkd
          have hlen : (acc ++ [d]).length = acc.length + 1 := by simp
          have hnext : kidsS (nodeS s m) s lex (s.size - k') (acc ++ [d]) k' = KR := by
            rw [← hres]
            exact kidsS_fuel (nodeS_le m) _ _ _ _ (Nat.le_refl _) (by omega)
          refine awp_rseq (by decide) fun KK hKK => ?_
          refine m_field ?_
          refine m_load ?_
          refine m_load ?_
          refine m_sliceN ?_
          first | refine m_appOwn ?_ | refine m_appEmp ?_
          refine m_field ?_
          first | refine m_stPtr ?_ | refine m_stRp ?_
          refine hKK _ _ ?_
          clear hKK KK
          refine awp_rseq (by decide) fun KK hKK => ?_
          refine m_move ?_
          refine m_assign ?_
          refine hKK _ _ ?_
          clear hKK KK
          refine awp_rlast (by decide) fun KK hKK => ?_
          refine m_move ?_
          refine m_assign ?_
          refine hKK _ _ ?_
          clear hKK KK
          rw [blockQ_normal]
          try rw [thenQ_normal]
          refine m_nextH (.go (acc ++ [d]) k') ?_ ?_ ?_
          · exact ⟨lk.2, by rw [hlen]; omega, hnext, hone' d⟩
          · dsimp only [RS.me]; omega
          · dsimp only [RS.n, RS.row, RS.kd]
            rw [← hkd, hlen]
            exact List.forall_mem_cons.2 ⟨objLe_refl _, List.forall_mem_cons.2 ⟨objLe_refl _, List.forall_mem_cons.2 ⟨hlen ▸ snocD_row acc d, List.forall_mem_nil _⟩⟩⟩
      · have hc' : (isAt s e 32 && (!lex || acc.isEmpty)) = false := by
          rw [← cond_read]
          exact hc
        have hend : KR = .ok acc e := by
          rw [← hres]
          cases hz : s.size - e with
          | zero => rfl
          | succ n => rw [kidsS, if_neg (by rw [hc']; decide)]
        refine awp_exit ?_
        simp only [thenQ_exit, blockQ_exit, reduceIte, Nat.reduceEqDiff]
        try rw [thenQ_normal]
        try rw [thenQ_normal]
        refine ⟨(.go acc e), ?_, (by simp only [List.forall_mem_cons, List.forall_mem_nil, go_sem, reduceIte, Nat.reduceEqDiff, FF]; all_goals ((repeat' apply And.intro) <;> first | trivial | rfl | exact objLe_refl _ | (intro _ _; exact Subs.refl _))), (by simp only [List.forall_mem_cons, List.forall_mem_nil, go_sem, reduceIte, Nat.reduceEqDiff, FF]; all_goals ((repeat' apply And.intro) <;> first | trivial | rfl | exact objLe_refl _ | (intro _ _; exact Subs.refl _)))⟩
        exact ⟨he1, hend, hone⟩
    · obtain ⟨hK, hne⟩ := hp
      dsimp only [RS.st, RS.er, RS.n, RS.row, RS.kd, RS.me]
      have hE0 : (er == 0) = false := by simpa using hne
      refine awp_seq ?_
      refine awp_rseq (by decide) fun KK hKK => ?_
      refine st0 rfl (k_move (by simp only [go_sem, reduceIte, Nat.reduceEqDiff, FF, hE0] <;> rfl)) ?_
      refine st0 rfl (k_bin (by simp only [go_sem, reduceIte, Nat.reduceEqDiff, FF, hE0] <;> rfl) (by simp only [go_sem, reduceIte, Nat.reduceEqDiff, FF, hE0] <;> rfl) (by rfl) (by rfl) (by simp only [go_sem, reduceIte, Nat.reduceEqDiff, FF, hE0] <;> rfl) (by intro hG; simp only [go_sem])) ?_
      refine st0 rfl (k_move (by simp only [go_sem, reduceIte, Nat.reduceEqDiff, FF, hE0] <;> rfl)) ?_
      refine sgF rfl (by simp only [go_sem, reduceIte, Nat.reduceEqDiff, FF, hE0] <;> rfl) (by rfl) (by simp only [go_sem, reduceIte, Nat.reduceEqDiff, FF, hE0, hE0] <;> rfl) ?_
      refine sgF rfl (by simp only [go_sem, reduceIte, Nat.reduceEqDiff, FF, hE0] <;> rfl) (by rfl) (by simp only [go_sem, reduceIte, Nat.reduceEqDiff, FF, hE0, hE0] <;> rfl) ?_
      refine sgF rfl (by simp only [go_sem, reduceIte, Nat.reduceEqDiff, FF, hE0] <;> rfl) (by rfl) (by simp only [go_sem, reduceIte, Nat.reduceEqDiff, FF, hE0, hE0] <;> rfl) ?_
      refine st0 rfl (k_pick (by simp only [go_sem, reduceIte, Nat.reduceEqDiff, FF, hE0] <;> rfl) (by simp only [go_sem, reduceIte, Nat.reduceEqDiff, FF, hE0] <;> rfl) (by simp only [go_sem, reduceIte, Nat.reduceEqDiff, FF, hE0] <;> rfl) (by rfl) (by rfl) (by rfl) (by intro hG; first | (simp only [go_sem, reduceIte, Nat.reduceEqDiff, FF, hE0, hE0]; done) | (simp [go_sem]; done) | (simp [go_sem] at hG ⊢ <;> simp [hG] <;> (intros; simp_all))) (by first | (simp only [go_sem, reduceIte, Nat.reduceEqDiff, FF, hE0] <;> rfl) | rfl)) ?_
      refine st0 rfl (k_move (by simp only [go_sem, reduceIte, Nat.reduceEqDiff, FF, hE0] <;> rfl)) ?_
      refine sgF rfl (by simp only [go_sem, reduceIte, Nat.reduceEqDiff, FF, hE0] <;> rfl) (by rfl) (by simp only [go_sem, reduceIte, Nat.reduceEqDiff, FF, hE0, hE0] <;> rfl) ?_
      refine sgF rfl (by simp only [go_sem, reduceIte, Nat.reduceEqDiff, FF, hE0] <;> rfl) (by rfl) (by simp only [go_sem, reduceIte, Nat.reduceEqDiff, FF, hE0, hE0] <;> rfl) ?_
      refine sgF rfl (by simp only [go_sem, reduceIte, Nat.reduceEqDiff, FF, hE0] <;> rfl) (by rfl) (by simp only [go_sem, reduceIte, Nat.reduceEqDiff, FF, hE0, hE0] <;> rfl) ?_
      refine st0 rfl (k_pick (by simp only [go_sem, reduceIte, Nat.reduceEqDiff, FF, hE0] <;> rfl) (by simp only [go_sem, reduceIte, Nat.reduceEqDiff, FF, hE0] <;> rfl) (by simp only [go_sem, reduceIte, Nat.reduceEqDiff, FF, hE0] <;> rfl) (by rfl) (by rfl) (by rfl) (by intro hG; first | (simp only [go_sem, reduceIte, Nat.reduceEqDiff, FF, hE0, hE0]; done) | (simp [go_sem]; done) | (simp [go_sem] at hG ⊢ <;> simp [hG] <;> (intros; simp_all))) (by first | (simp only [go_sem, reduceIte, Nat.reduceEqDiff, FF, hE0] <;> rfl) | rfl)) ?_
      refine st0 rfl (k_move (by simp only [go_sem, reduceIte, Nat.reduceEqDiff, FF, hE0] <;> rfl)) ?_
      refine sgF rfl (by simp only [go_sem, reduceIte, Nat.reduceEqDiff, FF, hE0] <;> rfl) (by rfl) (by simp only [go_sem, reduceIte, Nat.reduceEqDiff, FF, hE0, hE0] <;> rfl) ?_
      refine sgF rfl (by simp only [go_sem, reduceIte, Nat.reduceEqDiff, FF, hE0] <;> rfl) (by rfl) (by simp only [go_sem, reduceIte, Nat.reduceEqDiff, FF, hE0, hE0] <;> rfl) ?_
      refine sgF rfl (by simp only [go_sem, reduceIte, Nat.reduceEqDiff, FF, hE0] <;> rfl) (by rfl) (by simp only [go_sem, reduceIte, Nat.reduceEqDiff, FF, hE0, hE0] <;> rfl) ?_
      refine sgF rfl (by simp only [go_sem, reduceIte, Nat.reduceEqDiff, FF, hE0] <;> rfl) (by rfl) (by simp only [go_sem, reduceIte, Nat.reduceEqDiff, FF, hE0, hE0] <;> rfl) ?_
      refine sgF rfl (by simp only [go_sem, reduceIte, Nat.reduceEqDiff, FF, hE0] <;> rfl) (by rfl) (by simp only [go_sem, reduceIte, Nat.reduceEqDiff, FF, hE0, hE0] <;> rfl) ?_
      refine sgF rfl (by simp only [go_sem, reduceIte, Nat.reduceEqDiff, FF, hE0] <;> rfl) (by rfl) (by simp only [go_sem, reduceIte, Nat.reduceEqDiff, FF, hE0, hE0] <;> rfl) ?_
      refine sgF rfl (by simp only [go_sem, reduceIte, Nat.reduceEqDiff, FF, hE0] <;> rfl) (by rfl) (by simp only [go_sem, reduceIte, Nat.reduceEqDiff, FF, hE0, hE0] <;> rfl) ?_
      refine sgF rfl (by simp only [go_sem, reduceIte, Nat.reduceEqDiff, FF, hE0] <;> rfl) (by rfl) (by simp only [go_sem, reduceIte, Nat.reduceEqDiff, FF, hE0, hE0] <;> rfl) ?_
      refine sgF rfl (by simp only [go_sem, reduceIte, Nat.reduceEqDiff, FF, hE0] <;> rfl) (by rfl) (by simp only [go_sem, reduceIte, Nat.reduceEqDiff, FF, hE0, hE0] <;> rfl) ?_
      refine st0 rfl (k_pick (by simp only [go_sem, reduceIte, Nat.reduceEqDiff, FF, hE0] <;> rfl) (by simp only [go_sem, reduceIte, Nat.reduceEqDiff, FF, hE0] <;> rfl) (by simp only [go_sem, reduceIte, Nat.reduceEqDiff, FF, hE0] <;> rfl) (by rfl) (by rfl) (by rfl) (by intro hG; first | (simp only [go_sem, reduceIte, Nat.reduceEqDiff, FF, hE0, hE0]; done) | (simp [go_sem]; done) | (simp [go_sem] at hG ⊢ <;> simp [hG] <;> (intros; simp_all))) (by first | (simp only [go_sem, reduceIte, Nat.reduceEqDiff, FF, hE0] <;> rfl) | rfl)) ?_
      refine hKK _ _ ?_
      clear hKK KK
      refine awp_cond (by simp only [go_sem, reduceIte, Nat.reduceEqDiff, FF, hE0] <;> rfl) (fun hc => ?_) (fun hc => ?_)
      · cases hc
      · refine awp_exit ?_
        simp only [thenQ_exit, blockQ_exit, reduceIte, Nat.reduceEqDiff]
        try rw [thenQ_normal]
        try rw [thenQ_normal]
        refine ⟨(.bad n g kd er), ?_, (by simp only [List.forall_mem_cons, List.forall_mem_nil, go_sem, reduceIte, Nat.reduceEqDiff, FF]; all_goals ((repeat' apply And.intro) <;> first | trivial | rfl | exact objLe_refl _ | (intro _ _; exact Subs.refl _))), (by simp only [List.forall_mem_cons, List.forall_mem_nil, go_sem, reduceIte, Nat.reduceEqDiff, FF]; all_goals ((repeat' apply And.intro) <;> first | trivial | rfl | exact objLe_refl _ | (intro _ _; exact Subs.refl _)))⟩
        exact ⟨hK, hne⟩
  clear hKR ih
  rintro (⟨ks, k5⟩ | ⟨n, g, kd, er⟩) hp
  · obtain ⟨hk5, hK, hone⟩ := hp
    dsimp only [RS.st, RS.er, RS.n, RS.row, RS.kd]
    rw [hK] at hN
    simp only at hN
    have hz := sfx_size s (k := k5)
    refine awp_seq ?_
    refine awp_rseq (by decide) fun KK hKK => ?_
    refine m_move ?_
    refine m_bin ?_
    refine m_move ?_
    refine g_move ?_
    refine g_bin ?_
    refine m_pick ?_
    refine hKK _ _ ?_
    clear hKK KK
    refine m_cond (fun hc => ?_) (fun hc => ?_)
    · have he : k5 = s.size := by
        have : ((sfx s k5).toList == (⟨#[]⟩ : ByteArray).toList) = true := hc
        rw [sfx_nil hk5] at this
        simpa using this
      have hi5 : isAt s k5 41 = false := by
        cases h : isAt s k5 41 with
        | false => rfl
        | true => have := isAt_lt h; omega
      have hE : nodeS s (m + 1) k = .err 9 := by
        rw [hN, tailS]
        split
        · rw [fail_end he]
        · rw [fail_end he]
      refine awp_rlast (by decide) fun KK hKK => ?_
      refine m_assign ?_
      refine hKK _ _ ?_
      clear hKK KK
      first | rw [thenQ_normal] | rw [blockQ_normal, thenQ_normal]
      refine awp_seq ?_
      refine awp_rseq (by decide) fun KK hKK => ?_
      refine m_move ?_
      refine m_bin ?_
      refine hKK _ _ ?_
      clear hKK KK
      refine m_cond (fun hc => ?_) (fun hc => ?_)
      · refine awp_rseq (by decide) fun KK hKK => ?_
        refine m_build ?_
        refine m_move ?_
        refine m_move ?_
        first | refine m_stPtr ?_ | refine m_stRp ?_
        refine m_assign ?_
        refine m_assign ?_
        refine hKK _ _ ?_
        clear hKK KK
        refine awp_ret ⟨[_, _, _], ⟨k_load (by simp only [go_sem, reduceIte, Nat.reduceEqDiff, FF] <;> rfl) (by simp only [go_sem] <;> rfl) (by rfl) (by intro hG; simp only [go_sem]) (by exact lm_ptr (by simp only [go_sem, reduceIte, Nat.reduceEqDiff, FF] <;> rfl) (by simp only [go_sem, reduceIte, Nat.reduceEqDiff, FF, Nat.reduceAdd, Nat.reduceSub, Nat.reduceMul, Nat.reduceLeDiff] <;> rfl) (fun _ => Nat.le_of_ble_eq_true rfl)), ⟨(by simp only [go_sem, reduceIte, Nat.reduceEqDiff, FF]), (by simp only [go_sem, reduceIte, Nat.reduceEqDiff, FF] <;> rfl)⟩, ⟨(by simp only [go_sem, reduceIte, Nat.reduceEqDiff, FF]), (by simp only [go_sem, reduceIte, Nat.reduceEqDiff, FF] <;> rfl)⟩, trivial⟩, ?_⟩
        simp only [go_sem, reduceIte, Nat.reduceEqDiff, FF, tupled]
        exact sub_read hE
      · cases hc
    have hlt : k5 < s.size := by
      have : ((sfx s k5).toList == (⟨#[]⟩ : ByteArray).toList) = false := hc
      rw [sfx_nil hk5] at this
      have : ¬ k5 = s.size := by simpa using this
      omega
    have hb : byteAt (sfx s k5) 0 = byteAt s k5 := by
      have := sfx_byte s (k := k5) (i := 0) (by omega)
      simpa using this
    clear hc
    refine awp_skip ?_
    first | rw [thenQ_normal] | rw [blockQ_normal, thenQ_normal]
    refine awp_seq ?_
    refine awp_rseq (by decide) fun KK hKK => ?_
    refine m_move ?_
    refine m_bin ?_
    refine hKK _ _ ?_
    clear hKK KK
    refine m_cond (fun hc => ?_) (fun hc => ?_)
    · cases hc
    clear hc
    refine awp_skip ?_
    first | rw [thenQ_normal] | rw [blockQ_normal, thenQ_normal]
    refine awp_seq ?_
    have hcond : (byteAt (sfx s k5) 0 != 41 || (kindS lex ks == 1 && ((ks.length : Nat) : Int) != 1)) = ((lex && ks.isEmpty) || !isAt s k5 41) := by
      have h1 : (byteAt (sfx s k5) 0 != 41) = !isAt s k5 41 := by
        rw [hb, isAt]
        have : decide (k5 < s.size) = true := by simpa using hlt
        rw [this, Bool.true_and]
        rfl
      have h2 : (kindS lex ks == 1 && ((ks.length : Nat) : Int) != 1) = (lex && ks.isEmpty) := by
        have h3 : (kindS lex ks == 1) = lex := by unfold kindS; cases lex <;> cases ks <;> simp
        rw [h3]
        cases lex with
        | false => rfl
        | true =>
          have := hone rfl
          match ks, this with
          | [], _ => rfl
          | [_], _ => rfl
      rw [h1, h2, Bool.or_comm]
    refine awp_rseq (by decide) fun KK hKK => ?_
    refine m_move ?_
    refine m_idx ?_
    refine m_bin ?_
    refine m_move ?_
    refine g_field ?_
    refine g_load ?_
    refine g_bin ?_
    refine g_move ?_
    refine g_field ?_
    refine g_load ?_
    refine g_len ?_
    refine g_bin ?_
    refine g_pick ?_
    refine m_pick ?_
    refine hKK _ _ ?_
    clear hKK KK
    refine m_cond (fun hc => ?_) (fun hc => ?_)
    · have hc' : ((lex && ks.isEmpty) || !isAt s k5 41) = true := by
        rw [← hcond]
        exact hc
      have hE : nodeS s (m + 1) k = .err 8 := by
        rw [hN, tailS]
        split
        · rw [fail_in hlt]
        · rename_i hn
          rw [if_pos, fail_in hlt]
          have hn : (lex && ks.isEmpty) = false := by simpa using hn
          rw [hn] at hc'
          simpa using hc'
      refine awp_rseq (by decide) fun KK hKK => ?_
      refine m_build ?_
      refine m_move ?_
      first | refine m_stPtr ?_ | refine m_stRp ?_
      refine m_assign ?_
      refine m_assign ?_
      refine hKK _ _ ?_
      clear hKK KK
      refine awp_ret ⟨[_, _, _], ⟨k_load (by simp only [go_sem, reduceIte, Nat.reduceEqDiff, FF] <;> rfl) (by simp only [go_sem] <;> rfl) (by rfl) (by intro hG; simp only [go_sem]) (by exact lm_ptr (by simp only [go_sem, reduceIte, Nat.reduceEqDiff, FF] <;> rfl) (by simp only [go_sem, reduceIte, Nat.reduceEqDiff, FF, Nat.reduceAdd, Nat.reduceSub, Nat.reduceMul, Nat.reduceLeDiff] <;> rfl) (fun _ => Nat.le_of_ble_eq_true rfl)), ⟨(by simp only [go_sem, reduceIte, Nat.reduceEqDiff, FF]), (by simp only [go_sem, reduceIte, Nat.reduceEqDiff, FF] <;> rfl)⟩, ⟨(by simp only [go_sem, reduceIte, Nat.reduceEqDiff, FF]), (by simp only [go_sem, reduceIte, Nat.reduceEqDiff, FF] <;> rfl)⟩, trivial⟩, ?_⟩
      simp only [go_sem, reduceIte, Nat.reduceEqDiff, FF, tupled]
      exact sub_read hE
    have hc' : ((lex && ks.isEmpty) || !isAt s k5 41) = false := by
      rw [← hcond]
      exact hc
    rw [Bool.or_eq_false_iff, Bool.not_eq_false'] at hc'
    have hE : nodeS s (m + 1) k = .ok (.mk (kindS lex ks) name f t ks) (k5 + 1) := by
      rw [hN, tailS, if_neg (by rw [hc'.1]; decide), if_neg (by rw [hc'.2]; decide)]
    clear hc hcond
    refine awp_skip ?_
    first | rw [thenQ_normal] | rw [blockQ_normal, thenQ_normal]
    have x2 : (sfx s k5).extract 1 (sfx s k5).size = sfx s (k5 + 1) := sfx_sfx s (by omega)
    refine m_frz 100 [(0, .str (sfx s k5)), (4, .ptr 4 0), (7, .ptr 7 0)] [(4, zeroD), (7, .box 25 [.int (kindS lex ks), .str name, .int f, .int t, .c (encKids ks)])] ?_
    refine awp_rseq_drawF Tryz.mixed [(3, 2)] (by decide) (by kernel_rfl) fun KK hKK => ?_
    refine m_load ?_
    refine m_move ?_
    first | refine m_slOwn ?_ | refine m_slIm ?_ | refine m_slStr ?_
    first | refine m_stPtr ?_ | refine m_stRp ?_
    refine m_assign ?_
    refine m_assign ?_
    refine hKK _ _ (by rfl) ?_
    clear hKK KK
    refine awp_ret ⟨[_, _, _], ⟨k_load (by simp only [go_sem, reduceIte, Nat.reduceEqDiff, FF] <;> rfl) (by simp only [go_sem] <;> rfl) (by rfl) (by intro hG; simp only [go_sem]) (by exact lm_ptr (by simp only [go_sem, reduceIte, Nat.reduceEqDiff, FF] <;> rfl) (by simp only [go_sem, reduceIte, Nat.reduceEqDiff, FF, Nat.reduceAdd, Nat.reduceSub, Nat.reduceMul, Nat.reduceLeDiff] <;> rfl) (fun _ => Nat.le_of_ble_eq_true rfl)), ⟨(by simp only [go_sem, reduceIte, Nat.reduceEqDiff, FF]), (by simp only [go_sem, reduceIte, Nat.reduceEqDiff, FF] <;> rfl)⟩, ⟨(by simp only [go_sem, reduceIte, Nat.reduceEqDiff, FF]), (by simp only [go_sem, reduceIte, Nat.reduceEqDiff, FF] <;> rfl)⟩, trivial⟩, ?_⟩
    simp only [go_sem, reduceIte, Nat.reduceEqDiff, FF, tupled]
    rw [hE, x2]
    exact CV.Sub.refl _
  · obtain ⟨hK, hne⟩ := hp
    dsimp only [RS.st, RS.er, RS.n, RS.row, RS.kd]
    rw [hK] at hN
    simp only at hN
    have hE0 : (er == 0) = false := by simpa using hne
    refine awp_seq ?_
    refine awp_rseq (by decide) fun KK hKK => ?_
    refine st0 rfl (k_move (by simp only [go_sem, reduceIte, Nat.reduceEqDiff, FF, hE0] <;> rfl)) ?_
    refine st0 rfl (k_bin (by simp only [go_sem, reduceIte, Nat.reduceEqDiff, FF, hE0] <;> rfl) (by simp only [go_sem, reduceIte, Nat.reduceEqDiff, FF, hE0] <;> rfl) (by rfl) (by rfl) (by simp only [go_sem, reduceIte, Nat.reduceEqDiff, FF, hE0] <;> rfl) (by intro hG; simp only [go_sem])) ?_
    refine st0 rfl (k_move (by simp only [go_sem, reduceIte, Nat.reduceEqDiff, FF, hE0] <;> rfl)) ?_
    refine sgF rfl (by simp only [go_sem, reduceIte, Nat.reduceEqDiff, FF, hE0] <;> rfl) (by rfl) (by simp only [go_sem, reduceIte, Nat.reduceEqDiff, FF, hE0, hE0] <;> rfl) ?_
    refine sgF rfl (by simp only [go_sem, reduceIte, Nat.reduceEqDiff, FF, hE0] <;> rfl) (by rfl) (by simp only [go_sem, reduceIte, Nat.reduceEqDiff, FF, hE0, hE0] <;> rfl) ?_
    refine st0 rfl (k_pick (by simp only [go_sem, reduceIte, Nat.reduceEqDiff, FF, hE0] <;> rfl) (by simp only [go_sem, reduceIte, Nat.reduceEqDiff, FF, hE0] <;> rfl) (by simp only [go_sem, reduceIte, Nat.reduceEqDiff, FF, hE0] <;> rfl) (by rfl) (by rfl) (by rfl) (by intro hG; first | (simp only [go_sem, reduceIte, Nat.reduceEqDiff, FF, hE0, hE0]; done) | (simp [go_sem]; done) | (simp [go_sem] at hG ⊢ <;> simp [hG] <;> (intros; simp_all))) (by first | (simp only [go_sem, reduceIte, Nat.reduceEqDiff, FF, hE0] <;> rfl) | rfl)) ?_
    refine hKK _ _ ?_
    clear hKK KK
    refine awp_cond (by simp only [go_sem, reduceIte, Nat.reduceEqDiff, FF, hE0] <;> rfl) (fun hc => ?_) (fun hc => ?_)
    · cases hc
    refine awp_skip ?_
    first | rw [thenQ_normal] | rw [blockQ_normal, thenQ_normal]
    refine awp_seq ?_
    refine awp_rseq (by decide) fun KK hKK => ?_
    refine m_move ?_
    refine m_bin ?_
    refine hKK _ _ ?_
    clear hKK KK
    refine m_cond (fun hc => ?_) (fun hc => ?_)
    · refine awp_rseq (by decide) fun KK hKK => ?_
      refine m_build ?_
      refine m_move ?_
      refine m_move ?_
      first | refine m_stPtr ?_ | refine m_stRp ?_
      refine m_assign ?_
      refine m_assign ?_
      refine hKK _ _ ?_
      clear hKK KK
      refine awp_ret ⟨[_, _, _], ⟨k_load (by simp only [go_sem, reduceIte, Nat.reduceEqDiff, FF] <;> rfl) (by simp only [go_sem] <;> rfl) (by rfl) (by intro hG; simp only [go_sem]) (by exact lm_ptr (by simp only [go_sem, reduceIte, Nat.reduceEqDiff, FF] <;> rfl) (by simp only [go_sem, reduceIte, Nat.reduceEqDiff, FF, Nat.reduceAdd, Nat.reduceSub, Nat.reduceMul, Nat.reduceLeDiff] <;> rfl) (fun _ => Nat.le_of_ble_eq_true rfl)), ⟨(by simp only [go_sem, reduceIte, Nat.reduceEqDiff, FF]), (by simp only [go_sem, reduceIte, Nat.reduceEqDiff, FF] <;> rfl)⟩, ⟨(by simp only [go_sem, reduceIte, Nat.reduceEqDiff, FF]), (by simp only [go_sem, reduceIte, Nat.reduceEqDiff, FF] <;> rfl)⟩, trivial⟩, ?_⟩
      simp only [go_sem, reduceIte, Nat.reduceEqDiff, FF, tupled]
      exact sub_read hN
    · have : (er != 0) = false := hc
      simp at this
      exact absurd this hne
theorem read_ok (s : ByteArray) (hs : s.size ≤ 100000) : ∀ (deep k : Nat), deep ≤ 64 → k ≤ s.size → APure Tryz.prog 14 [.str (sfx s k), .int deep] (readC s (nodeS s deep k))
  | 0, k, hd, hk => read_step s hs 0 k hd hk fun m e => by omega
  | deep + 1, k, hd, hk => read_step s hs (deep + 1) k hd hk fun m e k' hk' => by
    have : m = deep := by omega
    subst this
    exact read_ok s hs m k' (by omega) hk'
end Go.Am

/- The order of derivations is total: plain. No condition. -/
namespace Go.Am
open Go.Proofs

/-- The first that is not 0. -/
def lexi (p q : Int) : Int := if p ≠ 0 then p else q
/-- What three comparisons of three things say of each other. -/
structure Tri (x y z : Int) : Prop where
  le : x ≤ 0 → y ≤ 0 → z ≤ 0
  eq : x ≤ 0 → y ≤ 0 → z = 0 → x = 0 ∧ y = 0
  zero : x = 0 → y = 0 → z = 0

theorem tri_lexi {x y z p q r : Int} (h : Tri x y z) (k : Tri p q r) : Tri (lexi x p) (lexi y q) (lexi z r) := by
  obtain ⟨h1, h2, h3⟩ := h
  obtain ⟨k1, k2, k3⟩ := k
  unfold lexi
  refine ⟨fun a b => ?_, fun a b c => ?_, fun a b => ?_⟩ <;> (repeat' split at *) <;> omega

theorem intsF_cases (a b : Int) : (a < b ∧ intsF a b = -1) ∨ (a = b ∧ intsF a b = 0) ∨ (b < a ∧ intsF a b = 1) := by
  unfold intsF
  split
  · exact .inl ⟨by assumption, rfl⟩
  · split
    · exact .inr (.inr ⟨by assumption, rfl⟩)
    · exact .inr (.inl ⟨by omega, rfl⟩)
theorem tri_ints (a b c : Int) : Tri (intsF a b) (intsF b c) (intsF a c) := by
  rcases intsF_cases a b with ⟨h1, e1⟩ | ⟨h1, e1⟩ | ⟨h1, e1⟩ <;> rcases intsF_cases b c with ⟨h2, e2⟩ | ⟨h2, e2⟩ | ⟨h2, e2⟩ <;> rcases intsF_cases a c with ⟨h3, e3⟩ | ⟨h3, e3⟩ | ⟨h3, e3⟩ <;> rw [e1, e2, e3] <;> refine ⟨?_, ?_, ?_⟩ <;> intros <;> omega
theorem anti_ints (a b : Int) : intsF b a = - intsF a b := by
  rcases intsF_cases a b with ⟨h1, e1⟩ | ⟨h1, e1⟩ | ⟨h1, e1⟩ <;> rcases intsF_cases b a with ⟨h2, e2⟩ | ⟨h2, e2⟩ | ⟨h2, e2⟩ <;> rw [e1, e2] <;> omega
theorem bd_ints (a b : Int) : -1 ≤ intsF a b ∧ intsF a b ≤ 1 := by
  rcases intsF_cases a b with ⟨h1, e1⟩ | ⟨h1, e1⟩ | ⟨h1, e1⟩ <;> rw [e1] <;> omega

/-- The order of strings, byte by byte. -/
def cmpB : List UInt8 → List UInt8 → Int
  | [], [] => 0
  | [], _ :: _ => -1
  | _ :: _, [] => 1
  | a :: x, b :: y => lexi (intsF a.toNat b.toNat) (cmpB x y)
theorem cmpB_eq : ∀ x y : List UInt8, cmpB x y = if Op.bytesLess x y then -1 else if !(Op.bytesLess x y || x == y) then 1 else 0
  | [], [] => rfl
  | [], _ :: _ => rfl
  | _ :: _, [] => rfl
  | a :: x, b :: y => by
    have ih := cmpB_eq x y
    simp only [cmpB, Op.bytesLess, lexi]
    rcases intsF_cases a.toNat b.toNat with ⟨h1, e1⟩ | ⟨h1, e1⟩ | ⟨h1, e1⟩
    · have : a < b := by rw [UInt8.lt_iff_toNat_lt]; omega
      rw [e1]
      simp [this]
    · have e : a = b := UInt8.toNat_inj.1 (by omega)
      subst e
      rw [e1, ih]
      simp
    · have h2 : ¬ a < b := by rw [UInt8.lt_iff_toNat_lt]; omega
      have h3 : a ≠ b := fun e => by subst e; omega
      rw [e1]
      simp [h2, h3]
theorem cmpS_eq (a b : ByteArray) : cmpS a b = cmpB a.toList b.toList := by rw [cmpB_eq]; rfl
theorem tri_B : ∀ x y z : List UInt8, Tri (cmpB x y) (cmpB y z) (cmpB x z)
  | [], [], [] => ⟨by intros; decide, by intros; decide, by intros; decide⟩
  | [], [], _ :: _ => ⟨by intros; simp [cmpB], by intros; simp [cmpB] at *, by intros; simp [cmpB] at *⟩
  | [], _ :: _, [] => ⟨by intros; simp [cmpB] at *, by intros; simp [cmpB] at *, by intros; simp [cmpB] at *⟩
  | [], _ :: _, _ :: _ => ⟨by intros; simp [cmpB], by intros; simp [cmpB] at *, by intros; simp [cmpB] at *⟩
  | _ :: _, [], [] => ⟨by intros; simp [cmpB] at *, by intros; simp [cmpB] at *, by intros; simp [cmpB] at *⟩
  | _ :: _, [], _ :: _ => ⟨by intros; simp [cmpB] at *, by intros; simp [cmpB] at *, by intros; simp [cmpB] at *⟩
  | _ :: _, _ :: _, [] => ⟨by intros; simp [cmpB] at *, by intros; simp [cmpB] at *, by intros; simp [cmpB] at *⟩
  | a :: x, b :: y, c :: z => by
    simp only [cmpB]
    exact tri_lexi (tri_ints _ _ _) (tri_B x y z)
theorem neg_lexi {x y p q : Int} (h : y = -x) (k : q = -p) : lexi y q = - lexi x p := by
  unfold lexi
  subst h k
  by_cases hx : x = 0 <;> simp [hx]
theorem bd_lexi {x p : Int} (h : -1 ≤ x ∧ x ≤ 1) (k : -1 ≤ p ∧ p ≤ 1) : -1 ≤ lexi x p ∧ lexi x p ≤ 1 := by
  unfold lexi
  split <;> assumption
theorem anti_B : ∀ x y : List UInt8, cmpB y x = - cmpB x y
  | [], [] => rfl
  | [], _ :: _ => rfl
  | _ :: _, [] => rfl
  | a :: x, b :: y => by
    simp only [cmpB]
    exact neg_lexi (anti_ints _ _) (anti_B x y)
theorem bd_B : ∀ x y : List UInt8, -1 ≤ cmpB x y ∧ cmpB x y ≤ 1
  | [], [] => by decide
  | [], _ :: _ => by simp [cmpB]
  | _ :: _, [] => by simp [cmpB]
  | a :: x, b :: y => by
    simp only [cmpB]
    exact bd_lexi (bd_ints _ _) (bd_B x y)

theorem cmpD_lexi (a b : Dv) : cmpD a b = lexi (intsF a.frm b.frm) (lexi (intsF a.to b.to) (lexi (intsF a.kind b.kind) (lexi (cmpB a.name.toList b.name.toList) (cmpL a.kids b.kids)))) := by
  rw [cmp_or, ← cmpS_eq]
  simp only [orL, lexi]
  by_cases h1 : intsF a.frm b.frm = 0 <;> by_cases h2 : intsF a.to b.to = 0 <;> by_cases h3 : intsF a.kind b.kind = 0 <;> by_cases h4 : cmpS a.name b.name = 0 <;> simp [h1, h2, h3, h4]

mutual
theorem tri_D : ∀ a b c : Dv, Tri (cmpD a b) (cmpD b c) (cmpD a c)
  | .mk k1 n1 f1 t1 ks1, .mk k2 n2 f2 t2 ks2, .mk k3 n3 f3 t3 ks3 => by
    rw [cmpD_lexi, cmpD_lexi, cmpD_lexi]
    exact tri_lexi (tri_ints _ _ _) (tri_lexi (tri_ints _ _ _) (tri_lexi (tri_ints _ _ _) (tri_lexi (tri_B _ _ _) (tri_L ks1 ks2 ks3))))
theorem tri_L : ∀ x y z : List Dv, Tri (cmpL x y) (cmpL y z) (cmpL x z)
  | [], [], [] => ⟨by intros; simp [cmpL], by intros; simp [cmpL], by intros; simp [cmpL]⟩
  | [], [], _ :: _ => ⟨by intros; simp [cmpL], by intros; simp [cmpL] at *, by intros; simp [cmpL] at *⟩
  | [], _ :: _, [] => ⟨by intros; simp [cmpL] at *, by intros; simp [cmpL] at *, by intros; simp [cmpL] at *⟩
  | [], _ :: _, _ :: _ => ⟨by intros; simp [cmpL], by intros; simp [cmpL] at *, by intros; simp [cmpL] at *⟩
  | _ :: _, [], [] => ⟨by intros; simp [cmpL] at *, by intros; simp [cmpL] at *, by intros; simp [cmpL] at *⟩
  | _ :: _, [], _ :: _ => ⟨by intros; simp [cmpL] at *, by intros; simp [cmpL] at *, by intros; simp [cmpL] at *⟩
  | _ :: _, _ :: _, [] => ⟨by intros; simp [cmpL] at *, by intros; simp [cmpL] at *, by intros; simp [cmpL] at *⟩
  | a :: x, b :: y, c :: z => by
    have e : ∀ (a b : Dv) (x y : List Dv), cmpL (a :: x) (b :: y) = lexi (cmpD a b) (cmpL x y) := fun a b x y => by rw [cmpL]; rfl
    rw [e, e, e]
    exact tri_lexi (tri_D a b c) (tri_L x y z)
end
mutual
theorem anti_D : ∀ a b : Dv, cmpD b a = - cmpD a b
  | .mk k1 n1 f1 t1 ks1, .mk k2 n2 f2 t2 ks2 => by
    rw [cmpD_lexi, cmpD_lexi]
    exact neg_lexi (anti_ints _ _) (neg_lexi (anti_ints _ _) (neg_lexi (anti_ints _ _) (neg_lexi (anti_B _ _) (anti_L ks1 ks2))))
theorem anti_L : ∀ x y : List Dv, cmpL y x = - cmpL x y
  | [], [] => by simp [cmpL]
  | [], _ :: _ => by simp [cmpL]
  | _ :: _, [] => by simp [cmpL]
  | a :: x, b :: y => by
    have e : ∀ (a b : Dv) (x y : List Dv), cmpL (a :: x) (b :: y) = lexi (cmpD a b) (cmpL x y) := fun a b x y => by rw [cmpL]; rfl
    rw [e, e]
    exact neg_lexi (anti_D a b) (anti_L x y)
end
mutual
theorem bd_D : ∀ a b : Dv, -1 ≤ cmpD a b ∧ cmpD a b ≤ 1
  | .mk k1 n1 f1 t1 ks1, .mk k2 n2 f2 t2 ks2 => by
    rw [cmpD_lexi]
    exact bd_lexi (bd_ints _ _) (bd_lexi (bd_ints _ _) (bd_lexi (bd_ints _ _) (bd_lexi (bd_B _ _) (bd_L ks1 ks2))))
theorem bd_L : ∀ x y : List Dv, -1 ≤ cmpL x y ∧ cmpL x y ≤ 1
  | [], [] => by simp [cmpL]
  | [], _ :: _ => by simp [cmpL]
  | _ :: _, [] => by simp [cmpL]
  | a :: x, b :: y => by
    have e : ∀ (a b : Dv) (x y : List Dv), cmpL (a :: x) (b :: y) = lexi (cmpD a b) (cmpL x y) := fun a b x y => by rw [cmpL]; rfl
    rw [e]
    exact bd_lexi (bd_D a b) (bd_L x y)
end
theorem cmpD_self (a : Dv) : cmpD a a = 0 := by
  have := anti_D a a
  omega
end Go.Am

/- What it means that a derivation is light: plain. No condition. -/
namespace Go.Am
open Go.Proofs

mutual
/-- Few nodes, short names. -/
def shortD : Dv → Prop
  | .mk _ n _ _ ks => n.size ≤ 100 ∧ shortDs ks
def shortDs : List Dv → Prop
  | [] => True
  | d :: r => shortD d ∧ shortDs r
end
mutual
theorem size_le : ∀ (d : Dv) (most : Int), 0 ≤ most → most ≤ 1000 → sizeD d most ≤ most → (d.size : Int) ≤ sizeD d most ∧ okD d ∧ shortD d
  | .mk _ n _ _ ks, most, h0, h1, h2 => by
    rw [sizeD] at h2 ⊢
    split at h2
    · omega
    · rename_i hc
      rw [if_neg hc]
      simp only [Bool.or_eq_true, decide_eq_true_eq, not_or] at hc
      have := sizes_le ks most 1 (by omega) (by omega) h1 h2
      simp only [Dv.size, okD, shortD]
      refine ⟨by omega, ⟨by omega, this.2.1⟩, by omega, this.2.2⟩
theorem sizes_le : ∀ (ks : List Dv) (most n : Int), 0 ≤ most → 1 ≤ n → most ≤ 1000 → sizeLs ks most n ≤ most → (sizes ks : Int) + n ≤ sizeLs ks most n ∧ okDs ks ∧ shortDs ks
  | [], most, n, h0, h1, h2, h3 => by
    rw [sizeLs] at h3 ⊢
    exact ⟨by simp [sizes], trivial, trivial⟩
  | d :: r, most, n, h0, h1, h2, h3 => by
    rw [sizeLs] at h3 ⊢
    split at h3
    · rename_i hn
      rw [if_pos hn]
      have hb := sizeD_bd d (most - n) (by omega)
      by_cases hle : sizeD d (most - n) ≤ most - n
      · have i1 := size_le d (most - n) (by omega) (by omega) hle
        have i2 := sizes_le r most (n + sizeD d (most - n)) h0 (by omega) h2 h3
        simp only [sizes, okDs, shortDs]
        exact ⟨by omega, ⟨i1.2.1, i2.2.1⟩, i1.2.2, i2.2.2⟩
      · have he : sizeD d (most - n) = most - n + 1 := by omega
        have : sizeLs r most (n + sizeD d (most - n)) = n + sizeD d (most - n) := by
          cases r with
          | nil => rw [sizeLs]
          | cons d' r' => rw [sizeLs, if_neg (by omega)]
        omega
    · omega
end
theorem light_facts {d : Dv} (h : lightD d 60 = true) : d.size ≤ 60 ∧ okD d ∧ shortD d := by
  simp only [lightD, decide_eq_true_eq] at h
  have := size_le d 60 (by decide) (by decide) h
  exact ⟨by omega, this.2⟩
mutual
theorem print_short : ∀ (d : Dv), inD d → shortD d → (printD d).size + 1 ≤ 200 * d.size
  | .mk k n f t ks, hi, hs => by
    obtain ⟨h1, h2, h3⟩ := hi
    obtain ⟨h4, h5⟩ := hs
    have ih := prints_short ks h3 h5
    have b1 := decB_size h1
    have b2 := decB_size h2
    have e1 : (if k == 1 then (⟨#[40, 43]⟩ : ByteArray) else ⟨#[40]⟩).size ≤ 2 := by split <;> decide
    have e2 : sp.size = 1 := rfl
    have e3 : (⟨#[41]⟩ : ByteArray).size = 1 := rfl
    rw [printD]
    simp only [ByteArray.size_append, headD, Dv.name, Dv.frm, Dv.to, Dv.size]
    omega
theorem prints_short : ∀ (ks : List Dv), inDs ks → shortDs ks → (printKs ks).size ≤ 200 * sizes ks
  | [], _, _ => by rw [printKs]; decide
  | d :: r, hi, hs => by
    have i1 := print_short d hi.1 hs.1
    have i2 := prints_short r hi.2 hs.2
    have e2 : sp.size = 1 := rfl
    rw [printKs]
    simp only [ByteArray.size_append, sizes]
    omega
end
end Go.Am

/- Derivations read as they were printed, and printed as they were read: plain. No condition. -/
namespace Go.Am
open Go.Proofs
set_option linter.unusedSimpArgs false

theorem ba_list (a b : ByteArray) : (a ++ b).data.toList = a.data.toList ++ b.data.toList := by simp
theorem ext_app (s : ByteArray) {a b c : Nat} (h1 : a ≤ b) (h2 : b ≤ c) : s.extract a b ++ s.extract b c = s.extract a c := by
  refine ba_eq ?_
  rw [ba_list, ext_list, ext_list, ext_list, show c - a = (b - a) + (c - b) by omega, List.take_add, List.drop_drop, show a + (b - a) = b by omega]
theorem ext_one {s : ByteArray} {k : Nat} {c : UInt8} (h : isAt s k c = true) : s.extract k (k + 1) = ⟨#[c]⟩ := by
  refine ba_eq ?_
  rw [isAt_iff] at h
  rw [ext_list, show k + 1 - k = 1 by omega]
  have : s.data.toList.drop k = c :: s.data.toList.drop (k + 1) := by
    obtain ⟨h1, h2⟩ := List.getElem?_eq_some_iff.1 h
    rw [← h2]
    exact List.drop_eq_getElem_cons h1
  rw [this]
  rfl
def headB (x : Bool × ByteArray × Int × Int) : ByteArray := (if x.1 then (⟨#[40, 43]⟩ : ByteArray) else ⟨#[40]⟩) ++ (x.2.1 ++ sp ++ decB x.2.2.1 ++ sp ++ decB x.2.2.2)

theorem head_ext {s : ByteArray} {k k' : Nat} {x : Bool × ByteArray × Int × Int} (h : headS s k = .ok x k') : s.extract k k' = headB x ∧ namedB x.2.1 false = true ∧ inI x.2.2.1 ∧ inI x.2.2.2 := by
  have hle := headS_le h
  unfold headS at h
  split at h
  · cases h
  · rename_i h1
    have h1 : isAt s k 40 = true := by simpa using h1
    have n1 := nameAt_le h1
    have n2 := nameTo_le n1.2
    split at h
    · cases h
    · rename_i hnm
      split at h
      · cases h
      · rename_i h3
        have h3 : isAt s (nameTo s (nameAt s k)) 32 = true := by simpa using h3
        have l3 := isAt_lt h3
        split at h
        · cases h
        · rename_i f k3 e3
          have n3 := numS_le (by omega) e3
          split at h
          · cases h
          · rename_i h4
            have h4 : isAt s k3 32 = true := by simpa using h4
            have l4 := isAt_lt h4
            split at h
            · cases h
            · rename_i t k4 e4
              have n4 := numS_le (by omega) e4
              injection h with h5 h6
              subst h5 h6
              have x3 := numS_ext e3
              have x4 := numS_ext e4
              refine ⟨?_, nameTo_named hnm, x3.1, x4.1⟩
              have hd : s.extract k (nameAt s k) = if isAt s (k + 1) 43 then (⟨#[40, 43]⟩ : ByteArray) else ⟨#[40]⟩ := by
                unfold nameAt
                split
                · rename_i hp
                  rw [← ext_app s (a := k) (b := k + 1) (c := k + 2) (by omega) (by omega), ext_one h1, ext_one hp]
                  rfl
                · exact ext_one h1
              have e1 : sp = s.extract (nameTo s (nameAt s k)) (nameTo s (nameAt s k) + 1) := (ext_one h3).symm
              have e2 : s.extract k3 (k3 + 1) = sp := ext_one h4
              unfold headB
              dsimp only
              rw [← hd, ← x3.2, ← x4.2, ← e2, ext_one h4, ← ext_one h3, ext_app s n2.1 (by omega), ext_app s (by omega) (by omega), ext_one h3, ← ext_one h4, ext_app s (by omega) (by omega), ext_app s (by omega) (by omega), ext_app s (by omega) (by omega)]

theorem kids_ext {rd : Nat → PR Dv} {s : ByteArray} {lex : Bool} {Q : Dv → Prop} (hrd : ∀ k d k', rd k = .ok d k' → k < k' ∧ k' ≤ s.size ∧ s.extract k k' = printD d ∧ Q d) :
    ∀ (n : Nat) (acc : List Dv) (k : Nat) (ks : List Dv) (k' : Nat), k ≤ s.size → kidsS rd s lex n acc k = .ok ks k' →
      ∃ new, ks = acc ++ new ∧ s.extract k k' = printKs new ∧ (∀ d ∈ new, Q d) ∧ k ≤ k' ∧ k' ≤ s.size ∧ (lex = true → acc.length ≤ 1 → ks.length ≤ 1)
  | 0, acc, k, ks, k', hk, h => by
    simp only [kidsS, PR.ok.injEq] at h
    obtain ⟨rfl, rfl⟩ := h
    refine ⟨[], by simp, ?_, (fun d hd => by cases hd), Nat.le_refl _, hk, fun _ h => h⟩
    refine ba_eq ?_
    rw [ext_list, Nat.sub_self, printKs]
    rfl
  | n + 1, acc, k, ks, k', hk, h => by
    rw [kidsS] at h
    split at h
    · rename_i hc
      rw [Bool.and_eq_true] at hc
      split at h
      · cases h
      · rename_i d k1 e1
        obtain ⟨r1, r2, r3, r4⟩ := hrd _ _ _ e1
        obtain ⟨new, q1, q2, q3, q4, q5, q6⟩ := kids_ext hrd n _ _ _ _ r2 h
        refine ⟨d :: new, by rw [q1]; simp, ?_, ?_, by omega, q5, fun hl ha => ?_⟩
        · rw [printKs, ← q2, ← r3, show sp = s.extract k (k + 1) from (ext_one hc.1).symm, ext_app s (by omega) (by omega), ext_app s (by omega) (by omega)]
        · intro d' hd'
          rcases List.mem_cons.1 hd' with rfl | hd'
          · exact r4
          · exact q3 d' hd'
        · refine q6 hl ?_
          have : acc.isEmpty = true := by simpa [hl] using hc.2
          have : acc = [] := by simpa using this
          subst this
          simp
    · simp only [PR.ok.injEq] at h
      obtain ⟨rfl, rfl⟩ := h
      refine ⟨[], by simp, ?_, (fun d hd => by cases hd), Nat.le_refl _, hk, fun _ h => h⟩
      refine ba_eq ?_
      rw [ext_list, Nat.sub_self, printKs]
      rfl
theorem wholeLs_of : ∀ {ks : List Dv} {deep : Int}, (∀ d ∈ ks, wholeD d deep = true) → wholeLs ks deep = true
  | [], _, _ => by rw [wholeLs]
  | d :: r, deep, h => by
    rw [wholeLs, Bool.and_eq_true]
    exact ⟨h d (List.mem_cons_self ..), wholeLs_of fun x hx => h x (List.mem_cons_of_mem _ hx)⟩
theorem wholeLs_mem : ∀ {ks : List Dv} {deep : Int}, wholeLs ks deep = true → ∀ d ∈ ks, wholeD d deep = true
  | [], _, _, d, hd => by cases hd
  | x :: r, deep, h, d, hd => by
    rw [wholeLs, Bool.and_eq_true] at h
    rcases List.mem_cons.1 hd with rfl | hd
    · exact h.1
    · exact wholeLs_mem h.2 d hd
theorem inDs_of : ∀ {ks : List Dv}, (∀ d ∈ ks, inD d) → inDs ks
  | [], _ => trivial
  | d :: r, h => ⟨h d (List.mem_cons_self ..), inDs_of fun x hx => h x (List.mem_cons_of_mem _ hx)⟩
theorem inDs_mem : ∀ {ks : List Dv}, inDs ks → ∀ d ∈ ks, inD d
  | [], _, d, hd => by cases hd
  | x :: r, h, d, hd => by
    rcases List.mem_cons.1 hd with rfl | hd
    · exact h.1
    · exact inDs_mem h.2 d hd
theorem kind_facts (lex : Bool) (ks : List Dv) : (kindS lex ks == 1) = lex ∧ 0 ≤ kindS lex ks ∧ kindS lex ks ≤ 2 ∧ ((kindS lex ks == 0) = (!lex && ks.isEmpty)) := by
  unfold kindS
  cases lex <;> cases ks <;> simp

theorem wholeC_false {kd : Int} {name : ByteArray} {f t : Int} {ks : List Dv} {deep : Int} (h1 : deep ≠ 0) (h2 : namedB name false = true) (h3 : 0 ≤ kd) (h4 : kd ≤ 2) (h5 : (kd == 0) = (((ks.length : Nat) : Int) == 0)) (h6 : kd ≠ 1 ∨ ks.length = 1) : wholeC (.mk kd name f t ks) deep = false := by
  show (deep == 0 || !namedB name false || decide (kd < 0) || decide (2 < kd) || !((kd == 0) == (((ks.length : Nat) : Int) == 0)) || (kd == 1 && ((ks.length : Nat) : Int) != 1)) = false
  have b1 : (deep == 0) = false := by simpa using h1
  have b3 : decide (kd < 0) = false := by simp; omega
  have b4 : decide (2 < kd) = false := by simp; omega
  have b6 : (kd == 1 && ((ks.length : Nat) : Int) != 1) = false := by
    rcases h6 with h6 | h6
    · simp [h6]
    · simp [h6]
  rw [b1, h2, b3, b4, b6, h5]
  simp
/-- Printed as it was read. -/
theorem node_ext {s : ByteArray} : ∀ (deep k : Nat) (d : Dv) (k' : Nat), nodeS s deep k = .ok d k' → s.extract k k' = printD d ∧ wholeD d deep = true ∧ inD d
  | 0, k, d, k', h => by
    rw [nodeS] at h
    split at h <;> cases h
  | deep + 1, k, d, k', h => by
    rw [nodeS] at h
    split at h
    · cases h
    · rename_i x k4 e1
      have h1 := headS_le e1
      obtain ⟨a1, a2, a3, a4⟩ := head_ext e1
      split at h
      · cases h
      · rename_i ks k5 e2
        obtain ⟨new, q1, q2, q3, q4, q5, q6⟩ := kids_ext (Q := fun d => wholeD d deep = true ∧ inD d) (fun k d k' hr => ⟨(nodeS_le deep k d k' hr).1, (nodeS_le deep k d k' hr).2, node_ext deep k d k' hr⟩) _ _ _ _ _ h1.2 e2
        rw [List.nil_append] at q1
        subst q1
        have h3 := tailS_le h
        unfold tailS at h
        split at h
        · cases h
        · rename_i t1
          split at h
          · cases h
          · rename_i t2
            have t2 : isAt s k5 41 = true := by simpa using t2
            injection h with h5 h6
            subst h5 h6
            obtain ⟨m1, m2, m3, m4⟩ := kind_facts x.1 ks
            refine ⟨?_, ?_, ⟨a3, a4, inDs_of fun d hd => (q3 d hd).2⟩⟩
            · rw [printD, m1, ← q2, ← ext_one t2]
              have : (if x.1 then (⟨#[40, 43]⟩ : ByteArray) else ⟨#[40]⟩) ++ headD (.mk (kindS x.1 ks) x.2.1 x.2.2.1 x.2.2.2 ks) = s.extract k k4 := by rw [a1]; rfl
              rw [this, ext_app s (by omega) q4, ext_app s (by omega) (by omega)]
            · rw [wholeD_eq, if_neg]
              · exact wholeLs_of fun d hd => by
                  have := (q3 d hd).1
                  rw [show (((deep + 1 : Nat) : Int) - 1) = (deep : Int) by omega]
                  exact this
              · have hlen : x.1 = true → ks.length = 1 := fun hl => by
                  have b1 := q6 hl (by simp)
                  have b2 : ks ≠ [] := fun e => t1 (by rw [hl, e]; rfl)
                  have := List.length_pos_iff.2 b2
                  omega
                rw [wholeC_false (by omega) a2 m2 m3 ?_ ?_]
                · decide
                · rw [m4]
                  cases hx : x.1 with
                  | true =>
                    have := hlen hx
                    simp [this]
                  | false =>
                    cases ks with
                    | nil => simp
                    | cons y r => simp; omega
                · cases hx : x.1 with
                  | true => right; have := hlen hx; omega
                  | false => left; rw [hx] at m1; simpa using m1
end Go.Am

/- Derivations read as they were printed: plain. No condition. -/
namespace Go.Am
open Go.Proofs
set_option linter.unusedSimpArgs false

theorem mk_list (name : ByteArray) : (⟨name.data.toList.toArray⟩ : ByteArray) = name := by simp
theorem headS_go {s : ByteArray} {k : Nat} {name : ByteArray} {f t : Int} {x : UInt8} {R : List UInt8} (h40 : isAt s k 40 = true) (hR : Pre s (nameAt s k) (name.data.toList ++ (32 :: (Lib.itoa f ++ (32 :: (Lib.itoa t ++ x :: R))))))
    (hn : namedB name false = true) (hf : inI f) (ht : inI t) (hx : isD x = false) :
    headS s k = .ok (isAt s (k + 1) 43, name, f, t) (nameAt s k + name.size + 1 + (Lib.itoa f).length + 1 + (Lib.itoa t).length) := by
  generalize ha : nameAt s k = a at *
  obtain ⟨p1, p2⟩ := pre_app hR
  obtain ⟨q1, q2⟩ := pre_cons p2
  have hnl : name.data.toList.length = name.size := rfl
  rw [hnl] at q1 q2
  have hb := isAt_lt q1
  have e1 : s.extract a (a + name.size) = name := by
    have := pre_ext p1
    rw [hnl, mk_list] at this
    exact this
  have hN : NamedAt s a (a + name.size) := (named_at (by omega)).1 (by rw [e1]; exact hn)
  have hto : nameTo s a = a + name.size := nameTo_go (by omega) hN (by rw [byte_at q1]; decide)
  have hlt := hN.lt
  have r0 : Pre s (a + name.size + 1) ((Lib.itoa f ++ [32]) ++ (Lib.itoa t ++ x :: R)) := by
    have : (Lib.itoa f ++ [32]) ++ (Lib.itoa t ++ x :: R) = Lib.itoa f ++ (32 :: (Lib.itoa t ++ x :: R)) := by simp
    rw [this]
    exact q2
  obtain ⟨r1, r2⟩ := pre_app r0
  have hn1 := numS_dec hf r1 (by decide)
  have i2 := (pre_cons (pre_app r1).2).1
  have r3 : Pre s (a + name.size + 1 + (Lib.itoa f).length + 1) ((Lib.itoa t ++ [x]) ++ R) := by
    have e : (Lib.itoa t ++ [x]) ++ R = Lib.itoa t ++ x :: R := by simp
    rw [e]
    have e2 : a + name.size + 1 + (Lib.itoa f ++ [32]).length = a + name.size + 1 + (Lib.itoa f).length + 1 := by simp; omega
    rw [← e2]
    exact r2
  have hn2 := numS_dec ht (pre_app r3).1 hx
  rw [headS, if_neg (by rw [h40]; decide), ha, hto, if_neg (by omega), if_neg (by rw [q1]; decide), hn1]
  simp only
  rw [if_neg (by rw [i2]; decide), hn2]
  simp only
  rw [e1]

theorem kids_dec {rd : Nat → PR Dv} {s : ByteArray} {lex : Bool} : ∀ (ks acc : List Dv) (n k : Nat), (∀ d ∈ ks, ∀ k, Pre s k (printD d).data.toList → rd k = .ok d (k + (printD d).size)) → (lex = true → (acc ++ ks).length ≤ 1) →
    Pre s k ((printKs ks).data.toList ++ [41]) → s.size - k ≤ n → kidsS rd s lex n acc k = .ok (acc ++ ks) (k + (printKs ks).size)
  | [], acc, n, k, hrd, hl, hp, hn => by
    have h41 : isAt s k 41 = true := by
      rw [printKs] at hp
      exact (pre_cons (l := []) (by simpa using hp)).1
    have h32 : isAt s k 32 = false := not_at h41 (by decide)
    have hs : (printKs []).size = 0 := by rw [printKs]; rfl
    rw [hs, List.append_nil, Nat.add_zero]
    cases n with
    | zero => rw [kidsS]
    | succ n => rw [kidsS, h32]; rfl
  | d :: r, acc, n, k, hrd, hl, hp, hn => by
    have e : (printKs (d :: r)).data.toList ++ [41] = 32 :: ((printD d).data.toList ++ ((printKs r).data.toList ++ [41])) := by
      rw [printKs, ba_list, ba_list]
      simp [sp]
    rw [e] at hp
    obtain ⟨p1, p2⟩ := pre_cons hp
    obtain ⟨p3, p4⟩ := pre_app p2
    have hk := isAt_lt p1
    have hle : k + 1 + (printD d).size ≤ s.size := by
      have : (printD d).data.toList ≠ [] := fun e => by
        have h1 : (printD d).data.toList.length = 0 := by rw [e]; rfl
        have h2 : (printD d).data.toList.length = (printD d).size := rfl
        have := print_kids d
        omega
      exact pre_le p3 this
    obtain ⟨m, rfl⟩ : ∃ m, n = m + 1 := ⟨n - 1, by omega⟩
    have hc : (isAt s k 32 && (!lex || acc.isEmpty)) = true := by
      rw [p1]
      cases hx : lex with
      | false => rfl
      | true =>
        have := hl hx
        simp only [List.length_append, List.length_cons] at this
        have : acc = [] := List.length_eq_zero_iff.1 (by omega)
        subst this
        rfl
    rw [kidsS, if_pos hc, hrd d (List.mem_cons_self ..) _ p3]
    simp only
    rw [kids_dec r (acc ++ [d]) m (k + 1 + (printD d).size) (fun x hx => hrd x (List.mem_cons_of_mem _ hx)) (fun hx => by simpa using hl hx) p4 (by omega)]
    have e2 : (printKs (d :: r)).size = 1 + (printD d).size + (printKs r).size := by
      rw [printKs, ByteArray.size_append, ByteArray.size_append]
      rfl
    rw [e2]
    simp only [List.append_assoc, List.singleton_append, PR.ok.injEq, true_and]
    omega

theorem whole_facts {d : Dv} {deep : Int} (h : wholeD d deep = true) : deep ≠ 0 ∧ namedB d.name false = true ∧ 0 ≤ d.kind ∧ d.kind ≤ 2 ∧ ((d.kind == 0) = d.kids.isEmpty) ∧ (d.kind = 1 → d.kids.length = 1) ∧ wholeLs d.kids (deep - 1) = true := by
  rw [wholeD_eq] at h
  split at h
  · cases h
  · rename_i hc
    unfold wholeC at hc
    simp only [Bool.or_eq_true, not_or, Bool.not_eq_true, beq_eq_false_iff_ne, decide_eq_false_iff_not, Bool.not_eq_false', Bool.and_eq_false_iff, beq_iff_eq, bne_eq_false_iff_eq] at hc
    obtain ⟨⟨⟨⟨⟨c1, c2⟩, c3⟩, c4⟩, c5⟩, c6⟩ := hc
    refine ⟨c1, c2, by omega, by omega, ?_, fun hk => ?_, h⟩
    · rw [c5]
      cases d.kids with
      | nil => rfl
      | cons y r => simp; omega
    · rcases c6 with c6 | c6
      · exact absurd hk c6
      · omega
theorem kind_of {d : Dv} {deep : Int} (h : wholeD d deep = true) : d.kind = kindS (d.kind == 1) d.kids := by
  obtain ⟨_, _, h1, h2, h3, h4, _⟩ := whole_facts h
  unfold kindS
  cases hk : d.kind == 1 with
  | true => simpa using hk
  | false =>
    have hk : d.kind ≠ 1 := by simpa using hk
    cases he : d.kids.isEmpty with
    | true =>
      rw [he] at h3
      simpa using h3
    | false =>
      rw [he] at h3
      have : d.kind ≠ 0 := by simpa using h3
      simp
      omega

/-- Read as it was printed. -/
theorem node_dec {s : ByteArray} : ∀ (deep : Nat) (d : Dv) (k : Nat), wholeD d deep = true → inD d → Pre s k (printD d).data.toList → nodeS s deep k = .ok d (k + (printD d).size)
  | 0, d, k, hw, _, _ => absurd rfl (whole_facts hw).1
  | deep + 1, d, k, hw, hin, hp => by
    obtain ⟨w1, w2, w3, w4, w5, w6, w7⟩ := whole_facts hw
    have hkd := kind_of hw
    obtain ⟨kd, name, f, t, ks⟩ := d
    simp only [Dv.name, Dv.kind, Dv.kids] at w2 w3 w4 w5 w6 w7 hkd
    obtain ⟨i1, i2, i3⟩ := hin
    rw [show (((deep + 1 : Nat) : Int) - 1) = (deep : Int) by omega] at w7
    generalize hlx : (kd == 1) = lex at *
    -- the bytes
    have hb : (printD (.mk kd name f t ks)).data.toList = (if lex then [40, 43] else [40]) ++ (name.data.toList ++ (32 :: (Lib.itoa f ++ (32 :: (Lib.itoa t ++ ((printKs ks).data.toList ++ [41])))))) := by
      rw [printD, hlx, ba_list, ba_list, ba_list]
      have : (headD (.mk kd name f t ks)).data.toList = name.data.toList ++ (32 :: (Lib.itoa f ++ (32 :: Lib.itoa t))) := by
        simp [headD, Dv.name, Dv.frm, Dv.to, sp, decB]
      rw [this]
      cases lex <;> simp
    obtain ⟨x, X, hX, hxd⟩ : ∃ x X, (printKs ks).data.toList ++ [41] = x :: X ∧ isD x = false := by
      cases ks with
      | nil => exact ⟨41, [], by rw [printKs]; rfl, by decide⟩
      | cons y r => exact ⟨32, (printD y).data.toList ++ ((printKs r).data.toList ++ [41]), by rw [printKs, ba_list, ba_list]; simp [sp], by decide⟩
    rw [hb] at hp
    have hnl : name.data.toList.length = name.size := rfl
    have hne : name.size ≠ 0 := fun e => by
      unfold namedB at w2
      rw [e] at w2
      simp at w2
    have key : isAt s k 40 = true ∧ isAt s (k + 1) 43 = lex ∧ nameAt s k = k + (if lex then 2 else 1) ∧ Pre s (k + (if lex then 2 else 1)) (name.data.toList ++ (32 :: (Lib.itoa f ++ (32 :: (Lib.itoa t ++ ((printKs ks).data.toList ++ [41])))))) := by
      cases lex with
      | true =>
        have hp : Pre s k (40 :: 43 :: _) := hp
        obtain ⟨a1, a2⟩ := pre_cons hp
        obtain ⟨a3, a4⟩ := pre_cons a2
        exact ⟨a1, a3, by rw [nameAt, if_pos a3]; rfl, a4⟩
      | false =>
        have hp : Pre s k (40 :: _) := hp
        obtain ⟨a1, a2⟩ := pre_cons hp
        obtain ⟨b1, _⟩ := pre_app (l := name.data.toList) a2
        obtain ⟨c, hc⟩ : ∃ c, name.data.toList[0]? = some c := ⟨_, List.getElem?_eq_getElem (by rw [hnl]; omega)⟩
        have hc1 := pre_get b1 hc
        have hc2 : c ≠ 43 := fun e => by
          have hle := pre_le b1 (fun e => hne (by rw [← hnl, e]; rfl))
          rw [hnl] at hle
          have e1 : s.extract (k + 1) (k + 1 + name.size) = name := by
            have := pre_ext b1
            rw [hnl, mk_list] at this
            exact this
          have hN := (named_at hle).1 (by rw [e1]; exact w2)
          have := hN.all (k + 1) (Nat.le_refl _) (by omega)
          rw [byte_at (c := c) (by simpa using hc1), e] at this
          exact absurd this (by decide)
        have a3 : isAt s (k + 1) 43 = false := not_at (c := c) (by simpa using hc1) hc2
        exact ⟨a1, a3, by rw [nameAt, if_neg (by rw [a3]; decide)]; rfl, a2⟩
    obtain ⟨g1, g2, g3, g4⟩ := key
    generalize hoff : (if lex then 2 else 1) = off at g3 g4
    rw [hX] at g4
    have hh := headS_go (R := X) g1 (by rw [g3]; exact g4) w2 i1 i2 hxd
    rw [g2, g3] at hh
    rw [nodeS, hh]
    simp only
    rw [← hX] at g4
    have g5 : Pre s (k + off + name.size + 1 + (Lib.itoa f).length + 1 + (Lib.itoa t).length) ((printKs ks).data.toList ++ [41]) := by
      have z1 := (pre_cons (pre_app g4).2).2
      have z2 := (pre_cons (pre_app z1).2).2
      have z3 := (pre_app z2).2
      rw [hnl] at z3
      exact z3
    have hks := kids_dec (rd := nodeS s deep) (lex := lex) ks [] (s.size - (k + off + name.size + 1 + (Lib.itoa f).length + 1 + (Lib.itoa t).length)) _ (fun d hd k hp => node_dec deep d k (wholeLs_mem w7 d hd) (inDs_mem i3 d hd) hp)
      (fun hl => by
        rw [hl] at hlx
        have := w6 (by simpa using hlx)
        simp [this]) g5 (Nat.le_refl _)
    rw [hks]
    simp only [List.nil_append]
    have h41 := (pre_cons (pre_app g5).2).1
    have hksz : (printKs ks).data.toList.length = (printKs ks).size := rfl
    rw [hksz] at h41
    have hsz : (printD (.mk kd name f t ks)).size = off + name.size + 1 + (Lib.itoa f).length + 1 + (Lib.itoa t).length + (printKs ks).size + 1 := by
      have := congrArg List.length hb
      have e : (printD (.mk kd name f t ks)).data.toList.length = (printD (.mk kd name f t ks)).size := rfl
      rw [e] at this
      rw [this, ← hoff]
      cases lex <;> simp [hnl, hksz] <;> omega
    unfold tailS
    rw [if_neg, if_neg (by rw [h41]; decide), hsz]
    · dsimp only
      rw [← hkd]
      congr 1
      omega
    · dsimp only
      cases hl : lex with
      | false => simp
      | true =>
        rw [hl] at hlx
        have := w6 (by simpa using hlx)
        cases ks with
        | nil => simp at this
        | cons y r => simp

theorem failAt_ne (s : ByteArray) (k : Nat) : failAt s k ≠ 0 := by unfold failAt; split <;> decide
theorem numS_ne {s : ByteArray} {k : Nat} : numS s k ≠ .err 0 := by
  unfold numS
  split
  · intro h; injection h with h; cases h
  · split
    · intro h; injection h with h; exact failAt_ne _ _ h
    · intro h; cases h
theorem headS_ne {s : ByteArray} {k : Nat} : headS s k ≠ .err 0 := by
  unfold headS
  split
  · intro h; injection h with h; exact failAt_ne _ _ h
  · split
    · intro h; injection h with h; exact failAt_ne _ _ h
    · split
      · intro h; injection h with h; exact failAt_ne _ _ h
      · split
        · rename_i e he
          intro h; injection h with h; subst h; exact numS_ne he
        · split
          · intro h; injection h with h; exact failAt_ne _ _ h
          · split
            · rename_i e he
              intro h; injection h with h; subst h; exact numS_ne he
            · intro h; cases h
theorem kidsS_ne {rd : Nat → PR Dv} {s : ByteArray} {lex : Bool} (hrd : ∀ k, rd k ≠ .err 0) : ∀ (n : Nat) (acc : List Dv) (k : Nat), kidsS rd s lex n acc k ≠ .err 0
  | 0, acc, k => by rw [kidsS]; intro h; cases h
  | n + 1, acc, k => by
    rw [kidsS]
    split
    · split
      · rename_i e he
        intro h; injection h with h; subst h; exact hrd _ he
      · exact kidsS_ne hrd n _ _
    · intro h; cases h
theorem nodeS_err {s : ByteArray} : ∀ (deep k : Nat), nodeS s deep k ≠ .err 0
  | 0, k => by
    rw [nodeS]
    split
    · intro h; injection h with h; cases h
    · intro h; injection h with h; exact failAt_ne _ _ h
  | deep + 1, k => by
    rw [nodeS]
    split
    · rename_i e he
      intro h; injection h with h; subst h; exact headS_ne he
    · split
      · rename_i e he
        intro h; injection h with h; subst h; exact kidsS_ne (nodeS_err deep) _ _ _ he
      · unfold tailS
        split
        · intro h; injection h with h; exact failAt_ne _ _ h
        · split
          · intro h; injection h with h; exact failAt_ne _ _ h
          · intro h; cases h

theorem decB_pos (n : Int) : 1 ≤ (decB n).size := by
  have : (decB n).size = (Lib.itoa n).length := by simp [decB, ByteArray.size]
  rw [this]
  obtain ⟨_, c, r, h, _⟩ := dec_facts (if n < 0 then n.natAbs else n.toNat)
  by_cases h0 : n < 0
  · rw [itoa_neg h0]; simp
  · rw [if_neg h0] at h
    rw [itoa_pos (by omega), h]
    simp
theorem print_min (d : Dv) : 6 ≤ (printD d).size := by
  have h1 := print_kids d
  have h2 : (headD d).size = d.name.size + 1 + (decB d.frm).size + 1 + (decB d.to).size := by
    simp only [headD, ByteArray.size_append]
    rfl
  have h3 := decB_pos d.frm
  have h4 := decB_pos d.to
  omega
theorem prints_min : ∀ ks : List Dv, 7 * ks.length ≤ (printKs ks).size
  | [] => Nat.zero_le _
  | d :: r => by
    have h1 := print_min d
    have h2 := prints_min r
    have e2 : (printKs (d :: r)).size = 1 + (printD d).size + (printKs r).size := by
      rw [printKs, ByteArray.size_append, ByteArray.size_append]
      rfl
    rw [e2, List.length_cons]
    omega
mutual
theorem okD_print : ∀ d : Dv, (printD d).size ≤ 7000 → okD d
  | .mk k n f t ks, h => by
    have h1 := print_kids (.mk k n f t ks)
    have h1' : (printKs ks).size ≤ 7000 := by
      have e : (Dv.mk k n f t ks).kids = ks := rfl
      rw [e] at h1
      omega
    have h2 := prints_min ks
    exact ⟨by omega, okDs_print ks h1'⟩
theorem okDs_print : ∀ ks : List Dv, (printKs ks).size ≤ 7000 → okDs ks
  | [], _ => trivial
  | d :: r, h => by
    have e2 : (printKs (d :: r)).size = 1 + (printD d).size + (printKs r).size := by
      rw [printKs, ByteArray.size_append, ByteArray.size_append]
      rfl
    rw [e2] at h
    exact ⟨okD_print d (by omega), okDs_print r (by omega)⟩
end

/-- The law's two halves. -/
theorem parse_print {d : Dv} (hw : wholeD d 64 = true) (hin : inD d) (hsz : (printD d).size ≤ 65536) : parseF (printD d) = (d, 0) := by
  have := node_dec (s := printD d) 64 d 0 hw hin ⟨[], by simp⟩
  rw [parseF, if_neg (by omega), parseS, this]
  simp
theorem print_parse {s : ByteArray} {d : Dv} (h : parseF s = (d, 0)) (hs : s.size ≤ 65536) : wholeD d 64 = true ∧ printD d = s ∧ inD d := by
  rw [parseF, if_neg (by omega), parseS] at h
  split at h
  · rename_i e he
    injection h with h1 h2
    subst h2
    exact absurd he (nodeS_err _ _)
  · rename_i x k he
    split at h
    · injection h with h1 h2
      cases h2
    · rename_i hk
      injection h with h1 h2
      subst h1
      have hle := nodeS_le 64 0 x k he
      obtain ⟨q1, q2, q3⟩ := node_ext 64 0 x k he
      have : k = s.size := by omega
      subst this
      refine ⟨q2, ?_, q3⟩
      rw [← q1]
      refine ba_eq ?_
      rw [ext_list, List.drop_zero, Nat.sub_zero]
      exact List.take_of_length_le (Nat.le_refl _)
theorem parse_cases {s : ByteArray} (hs : s.size ≤ 3000) : ((parseF s).2 = 0 → wholeD (parseF s).1 64 = true ∧ printD (parseF s).1 = s) ∧ okD (parseF s).1 ∧ inD (parseF s).1 ∧ (printD (parseF s).1).size ≤ 3000 := by
  have hdef : okD default ∧ inD default ∧ (printD default).size ≤ 3000 := ⟨by simp [default, okD, okDs], by simp [default, inD, inDs, inI], by rw [show (printD default).size = 6 by kernel_rfl]; decide⟩
  cases hp : parseF s with
  | mk d e =>
    by_cases he : e = 0
    · subst he
      obtain ⟨q1, q2, q3⟩ := print_parse hp (by omega)
      exact ⟨fun _ => ⟨q1, q2⟩, okD_print d (by rw [q2]; omega), q3, by rw [q2]; exact hs⟩
    · have hd : d = default := by
        rw [parseF, if_neg (by omega), parseS] at hp
        split at hp
        · injection hp with h1 _
          exact h1.symm
        · split at hp
          · injection hp with h1 _
            exact h1.symm
          · injection hp with _ h2
            exact absurd h2.symm he
      subst hd
      exact ⟨fun h => absurd h he, hdef⟩
end Go.Am

/- Contracts: the reference's Parse; the law DerivParses answers true. No condition. -/
namespace Go.Am
open Go.Proofs
attribute [local go_sem ↓] ofL_cons ofH_cons upd_apply
set_option maxHeartbeats 4000000
set_option linter.unusedSimpArgs false

theorem sub_zero {e : Int} : CV.Sub (.tup [.agg [.int 0, .str ⟨#[]⟩, .int 0, .int 0, .im 0 0 fun _ => []], .int e]) (.tup [.agg (cellsD default), .int e]) :=
  sub_tup ⟨sub_agg ⟨CV.Sub.refl _, CV.Sub.refl _, CV.Sub.refl _, CV.Sub.refl _, CV.Sub.im0 rfl rfl, trivial⟩, CV.Sub.refl _, trivial⟩

variable [Glb]

theorem rparse_ok (s : ByteArray) : APure Tryz.prog 6 [.str s] (.tup [.agg (cellsD (parseF s).1), .int (parseF s).2]) := by
  have FF : True := trivial
  refine apure_of Tryz.func6 rfl (by kernel_rfl) (by simp [Tryz.ntmps6]) ?_
  rw [Tryz.ntmps6]
  refine awp_rseq (by decide) fun KK hKK => ?_
  refine m_alloc ?_
  refine m_assign ?_
  refine hKK _ _ ?_
  clear hKK KK
  refine awp_seq ?_
  refine awp_rseq (by decide) fun KK hKK => ?_
  refine m_move ?_
  refine m_len ?_
  refine m_bin ?_
  refine hKK _ _ ?_
  clear hKK KK
  refine m_cond (fun hc => ?_) (fun hc => ?_)
  · have hp : parseF s = (default, 7) := by
      simp only [decide_eq_true_eq] at hc
      rw [parseF, if_pos (by omega)]
    rw [hp]
    refine awp_rseq (by decide) fun KK hKK => ?_
    refine m_build ?_
    first | refine m_stPtr ?_ | refine m_stRp ?_
    refine m_assign ?_
    refine hKK _ _ ?_
    clear hKK KK
    refine awp_ret ⟨[_, _], ⟨k_load (by simp only [go_sem, reduceIte, Nat.reduceEqDiff, FF] <;> rfl) (by simp only [go_sem] <;> rfl) (by rfl) (by intro hG; simp only [go_sem]) (by exact lm_ptr (by simp only [go_sem, reduceIte, Nat.reduceEqDiff, FF] <;> rfl) (by simp only [go_sem, reduceIte, Nat.reduceEqDiff, FF, Nat.reduceAdd, Nat.reduceSub, Nat.reduceMul, Nat.reduceLeDiff] <;> rfl) (fun _ => Nat.le_of_ble_eq_true rfl)), ⟨(by simp only [go_sem, reduceIte, Nat.reduceEqDiff, FF]), (by simp only [go_sem, reduceIte, Nat.reduceEqDiff, FF] <;> rfl)⟩, trivial⟩, ?_⟩
    simp only [go_sem, reduceIte, Nat.reduceEqDiff, FF, tupled]
    exact sub_zero
  have hsz : s.size ≤ 65536 := by
    simp only [decide_eq_false_iff_not] at hc
    omega
  have hp : parseF s = parseS s := by rw [parseF, if_neg (by omega)]
  rw [hp]
  clear hp hc
  refine awp_skip ?_
  first | rw [thenQ_normal] | rw [blockQ_normal, thenQ_normal]
  have hrd := read_ok s (by omega) 64 0 (by decide) (Nat.zero_le _)
  rw [sfx_all] at hrd
  cases hn : nodeS s 64 0 with
  | err e =>
    rw [hn] at hrd
    have hrd : APure Tryz.prog _ [.str s, .int 64] (.tup [anyD, .any, .int e]) := hrd
    have hne := nodeS_ne0 _ _ _ hn
    have hE0 : (e == 0) = false := by simpa using hne
    have hp : parseS s = (default, e) := by rw [parseS, hn]
    rw [hp]
    refine awp_rseq (by decide) fun KK hKK => ?_
    refine m_move ?_
    refine m_call (fun hG => hrd) ?_
    refine m_move ?_
    refine m_extract ?_
    refine m_extract ?_
    refine m_extract ?_
    refine m_alloc ?_
    first | refine m_stPtr ?_ | refine m_stRp ?_
    refine m_assign ?_
    refine m_assign ?_
    refine hKK _ _ ?_
    clear hKK KK
    refine m_cut [(2, .ptr 2 0), (4, .ptr 4 0), (5, .c .any), (6, .int e)] [(2, zeroD), (4, .box 25 [.c .any, .c .any, .c .any, .c .any, .c .any])] ?_
    refine awp_seq ?_
    refine awp_rseq (by decide) fun KK hKK => ?_
    refine st0 rfl (k_move (by simp only [go_sem, reduceIte, Nat.reduceEqDiff, FF, hE0] <;> rfl)) ?_
    refine st0 rfl (k_bin (by simp only [go_sem, reduceIte, Nat.reduceEqDiff, FF, hE0] <;> rfl) (by simp only [go_sem, reduceIte, Nat.reduceEqDiff, FF, hE0] <;> rfl) (by rfl) (by rfl) (by simp only [go_sem, reduceIte, Nat.reduceEqDiff, FF, hE0] <;> rfl) (by intro hG; simp only [go_sem])) ?_
    refine st0 rfl (k_move (by simp only [go_sem, reduceIte, Nat.reduceEqDiff, FF, hE0] <;> rfl)) ?_
    refine sgF rfl (by simp only [go_sem, reduceIte, Nat.reduceEqDiff, FF, hE0] <;> rfl) (by rfl) (by simp only [go_sem, reduceIte, Nat.reduceEqDiff, FF, hE0, hE0] <;> rfl) ?_
    refine sgF rfl (by simp only [go_sem, reduceIte, Nat.reduceEqDiff, FF, hE0] <;> rfl) (by rfl) (by simp only [go_sem, reduceIte, Nat.reduceEqDiff, FF, hE0, hE0] <;> rfl) ?_
    refine st0 rfl (k_pick (by simp only [go_sem, reduceIte, Nat.reduceEqDiff, FF, hE0] <;> rfl) (by simp only [go_sem, reduceIte, Nat.reduceEqDiff, FF, hE0] <;> rfl) (by simp only [go_sem, reduceIte, Nat.reduceEqDiff, FF, hE0] <;> rfl) (by rfl) (by rfl) (by rfl) (by intro hG; first | (simp only [go_sem, reduceIte, Nat.reduceEqDiff, FF, hE0, hE0]; done) | (simp [go_sem]; done) | (simp [go_sem] at hG ⊢ <;> simp [hG] <;> (intros; simp_all))) (by first | (simp only [go_sem, reduceIte, Nat.reduceEqDiff, FF, hE0] <;> rfl) | rfl)) ?_
    refine hKK _ _ ?_
    clear hKK KK
    refine awp_cond (by simp only [go_sem, reduceIte, Nat.reduceEqDiff, FF, hE0] <;> rfl) (fun hc => ?_) (fun hc => ?_)
    · cases hc
    refine awp_skip ?_
    first | rw [thenQ_normal] | rw [blockQ_normal, thenQ_normal]
    refine awp_seq ?_
    refine awp_rseq (by decide) fun KK hKK => ?_
    refine m_move ?_
    refine m_bin ?_
    refine hKK _ _ ?_
    clear hKK KK
    refine m_cond (fun hc => ?_) (fun hc => ?_)
    · refine awp_rseq (by decide) fun KK hKK => ?_
      refine m_build ?_
      refine m_move ?_
      first | refine m_stPtr ?_ | refine m_stRp ?_
      refine m_assign ?_
      refine hKK _ _ ?_
      clear hKK KK
      refine awp_ret ⟨[_, _], ⟨k_load (by simp only [go_sem, reduceIte, Nat.reduceEqDiff, FF] <;> rfl) (by simp only [go_sem] <;> rfl) (by rfl) (by intro hG; simp only [go_sem]) (by exact lm_ptr (by simp only [go_sem, reduceIte, Nat.reduceEqDiff, FF] <;> rfl) (by simp only [go_sem, reduceIte, Nat.reduceEqDiff, FF, Nat.reduceAdd, Nat.reduceSub, Nat.reduceMul, Nat.reduceLeDiff] <;> rfl) (fun _ => Nat.le_of_ble_eq_true rfl)), ⟨(by simp only [go_sem, reduceIte, Nat.reduceEqDiff, FF]), (by simp only [go_sem, reduceIte, Nat.reduceEqDiff, FF] <;> rfl)⟩, trivial⟩, ?_⟩
      simp only [go_sem, reduceIte, Nat.reduceEqDiff, FF, tupled]
      exact sub_zero
    · have : (e != 0) = false := hc
      simp at this
      exact absurd this hne
  | ok d k =>
    rw [hn] at hrd
    have hrd : APure Tryz.prog _ [.str s, .int 64] (.tup [.agg (cellsD d), .str (sfx s k), .int 0]) := hrd
    have hk := nodeS_le 64 0 d k hn
    refine awp_rseq (by decide) fun KK hKK => ?_
    refine m_move ?_
    refine m_call (fun hG => hrd) ?_
    refine m_move ?_
    refine m_extract ?_
    refine m_extract ?_
    refine m_extract ?_
    refine m_alloc ?_
    first | refine m_stPtr ?_ | refine m_stRp ?_
    refine m_assign ?_
    refine m_assign ?_
    refine hKK _ _ ?_
    clear hKK KK
    refine m_cut [(2, .ptr 2 0), (4, .ptr 4 0), (5, .str (sfx s k)), (6, .int 0)] [(2, zeroD), (4, .box 25 ((cellsD d).map .c))] ?_
    refine awp_seq ?_
    refine awp_rseq (by decide) fun KK hKK => ?_
    refine m_move ?_
    refine m_bin ?_
    refine m_move ?_
    refine g_move ?_
    refine g_bin ?_
    refine m_pick ?_
    refine hKK _ _ ?_
    clear hKK KK
    refine m_cond (fun hc => ?_) (fun hc => ?_)
    · have hlt : k < s.size := by
        have : (!((sfx s k).toList == (⟨#[]⟩ : ByteArray).toList)) = true := hc
        rw [sfx_nil hk.2] at this
        have : ¬ k = s.size := by simpa using this
        omega
      have hp : parseS s = (default, 8) := by rw [parseS, hn]; simp only; rw [if_pos hlt]
      rw [hp]
      refine awp_rlast (by decide) fun KK hKK => ?_
      refine m_assign ?_
      refine hKK _ _ ?_
      clear hKK KK
      first | rw [thenQ_normal] | rw [blockQ_normal, thenQ_normal]
      refine awp_seq ?_
      refine awp_rseq (by decide) fun KK hKK => ?_
      refine m_move ?_
      refine m_bin ?_
      refine hKK _ _ ?_
      clear hKK KK
      refine m_cond (fun hc => ?_) (fun hc => ?_)
      · refine awp_rseq (by decide) fun KK hKK => ?_
        refine m_build ?_
        refine m_move ?_
        first | refine m_stPtr ?_ | refine m_stRp ?_
        refine m_assign ?_
        refine hKK _ _ ?_
        clear hKK KK
        refine awp_ret ⟨[_, _], ⟨k_load (by simp only [go_sem, reduceIte, Nat.reduceEqDiff, FF] <;> rfl) (by simp only [go_sem] <;> rfl) (by rfl) (by intro hG; simp only [go_sem]) (by exact lm_ptr (by simp only [go_sem, reduceIte, Nat.reduceEqDiff, FF] <;> rfl) (by simp only [go_sem, reduceIte, Nat.reduceEqDiff, FF, Nat.reduceAdd, Nat.reduceSub, Nat.reduceMul, Nat.reduceLeDiff] <;> rfl) (fun _ => Nat.le_of_ble_eq_true rfl)), ⟨(by simp only [go_sem, reduceIte, Nat.reduceEqDiff, FF]), (by simp only [go_sem, reduceIte, Nat.reduceEqDiff, FF] <;> rfl)⟩, trivial⟩, ?_⟩
        simp only [go_sem, reduceIte, Nat.reduceEqDiff, FF, tupled]
        exact sub_zero
      · cases hc
    have hlt : k = s.size := by
      have : (!((sfx s k).toList == (⟨#[]⟩ : ByteArray).toList)) = false := hc
      rw [sfx_nil hk.2] at this
      simpa using this
    have hp : parseS s = (d, 0) := by rw [parseS, hn]; simp only; rw [if_neg (by omega)]
    rw [hp]
    clear hc
    refine awp_skip ?_
    first | rw [thenQ_normal] | rw [blockQ_normal, thenQ_normal]
    refine awp_seq ?_
    refine awp_rseq (by decide) fun KK hKK => ?_
    refine m_move ?_
    refine m_bin ?_
    refine hKK _ _ ?_
    clear hKK KK
    refine m_cond (fun hc => ?_) (fun hc => ?_)
    · cases hc
    clear hc
    refine awp_skip ?_
    first | rw [thenQ_normal] | rw [blockQ_normal, thenQ_normal]
    refine awp_rseq (by decide) fun KK hKK => ?_
    refine m_load ?_
    first | refine m_stPtr ?_ | refine m_stRp ?_
    refine m_assign ?_
    refine hKK _ _ ?_
    clear hKK KK
    refine awp_ret ⟨[_, _], ⟨k_load (by simp only [go_sem, reduceIte, Nat.reduceEqDiff, FF] <;> rfl) (by simp only [go_sem] <;> rfl) (by rfl) (by intro hG; simp only [go_sem]) (by exact lm_ptr (by simp only [go_sem, reduceIte, Nat.reduceEqDiff, FF] <;> rfl) (by simp only [go_sem, reduceIte, Nat.reduceEqDiff, FF, Nat.reduceAdd, Nat.reduceSub, Nat.reduceMul, Nat.reduceLeDiff] <;> rfl) (fun _ => Nat.le_of_ble_eq_true rfl)), ⟨(by simp only [go_sem, reduceIte, Nat.reduceEqDiff, FF]), (by simp only [go_sem, reduceIte, Nat.reduceEqDiff, FF] <;> rfl)⟩, trivial⟩, ?_⟩
    simp only [go_sem, reduceIte, Nat.reduceEqDiff, FF, tupled]
    exact CV.Sub.refl _

theorem parses_ok [Tabs] (s : ByteArray) : APure Tryz.prog 3 [.str s] (.bool true) := by
  have FF : True := trivial
  refine apure_of Tryz.func3 rfl (by kernel_rfl) (by simp [Tryz.ntmps3]) ?_
  rw [Tryz.ntmps3]
  refine awp_rseq (by decide) fun KK hKK => ?_
  refine m_assign ?_
  refine hKK _ _ ?_
  clear hKK KK
  refine awp_seq ?_
  refine awp_rseq (by decide) fun KK hKK => ?_
  refine m_move ?_
  refine m_len ?_
  refine m_bin ?_
  refine m_move ?_
  refine g_move ?_
  refine g_len ?_
  refine g_bin ?_
  refine m_pick ?_
  refine hKK _ _ ?_
  clear hKK KK
  refine m_cond (fun hc => ?_) (fun hc => ?_)
  · refine awp_rseq (by decide) fun KK hKK => ?_
    refine m_call (fun hG => ex_ok) ?_
    refine m_assign ?_
    refine hKK _ _ ?_
    clear hKK KK
    refine awp_ret ⟨[_], ⟨⟨(by simp only [go_sem, reduceIte, Nat.reduceEqDiff, FF]), (by simp only [go_sem, reduceIte, Nat.reduceEqDiff, FF] <;> rfl)⟩, trivial⟩, ?_⟩
    simp only [go_sem, reduceIte, Nat.reduceEqDiff, FF, tupled]
    exact CV.Sub.refl _
  have hsz : s.size ≤ 3000 ∨ 65536 < s.size := by
    have : (decide ((3000 : Int) < s.size) && decide ((s.size : Int) ≤ 65536)) = false := hc
    rw [Bool.and_eq_false_iff, decide_eq_false_iff_not, decide_eq_false_iff_not] at this
    omega
  have hok : okD (parseF s).1 := by
    rcases hsz with h | h
    · exact (parse_cases h).2.1
    · rw [parseF, if_pos h]
      simp [default, okD, okDs]
  clear hc
  refine awp_skip ?_
  first | rw [thenQ_normal] | rw [blockQ_normal, thenQ_normal]
  have pk := Parse_ok s
  have rk := rparse_ok s
  generalize parseF s = p at *
  refine awp_rseq (by decide) fun KK hKK => ?_
  refine m_move ?_
  refine m_call (fun hG => pk) ?_
  refine m_move ?_
  refine m_extract ?_
  refine m_extract ?_
  refine m_alloc ?_
  first | refine m_stPtr ?_ | refine m_stRp ?_
  refine m_assign ?_
  refine hKK _ _ ?_
  clear hKK KK
  refine m_cut [(0, .str s), (3, .ptr 3 0), (4, .int p.2)] [(3, .box 25 ((cellsD p.1).map .c))] ?_
  refine awp_rseq (by decide) fun KK hKK => ?_
  refine m_move ?_
  refine m_call (fun hG => rk) ?_
  refine m_move ?_
  refine m_extract ?_
  refine m_extract ?_
  refine m_alloc ?_
  first | refine m_stPtr ?_ | refine m_stRp ?_
  refine m_assign ?_
  refine hKK _ _ ?_
  clear hKK KK
  refine m_cut [(3, .ptr 3 0), (4, .int p.2), (5, .ptr 5 0), (6, .int p.2)] [(3, .box 25 ((cellsD p.1).map .c)), (5, .box 25 ((cellsD p.1).map .c))] ?_
  refine awp_rseq (by decide) fun KK hKK => ?_
  refine m_move ?_
  refine m_move ?_
  refine m_bin ?_
  refine m_move ?_
  refine g_load ?_
  refine g_load ?_
  refine g_call (fun hG => compare_ok p.1.size p.1 p.1 (Nat.le_refl _) hok) ?_
  refine g_bin ?_
  refine m_pick ?_
  refine m_move ?_
  refine g_call (fun hG => ex_ok) ?_
  refine m_pick ?_
  refine m_assign ?_
  refine hKK _ _ ?_
  clear hKK KK
  refine awp_ret ⟨[_], ⟨⟨(by simp only [go_sem, reduceIte, Nat.reduceEqDiff, FF]), (by simp only [go_sem, reduceIte, Nat.reduceEqDiff, FF] <;> rfl)⟩, trivial⟩, ?_⟩
  simp only [go_sem, reduceIte, Nat.reduceEqDiff, FF, tupled]
  refine CV.Sub.of_eq ?_
  rw [cmpD_self]
  simp
end Go.Am

/- What the listed package variables give, and what comes in at the laws' parameters. No condition. -/
namespace Go.Am
open Go.Proofs Go.RowKit Go.WideShapes Go.ChangeShapes
set_option maxHeartbeats 1000000
set_option linter.unusedSimpArgs false

theorem gPow : Tryz.prog.globalNamed "internal/strconv.uint64pow10" = some 2 := by kernel_rfl
theorem gErrS : Tryz.prog.globalNamed "strconv.ErrSyntax" = some 0 := by kernel_rfl
theorem gErrR : Tryz.prog.globalNamed "strconv.ErrRange" = some 1 := by kernel_rfl
theorem star : "*" ++ "errors.errorString" = "*errors.errorString" := by decide
theorem rowErrP (u : TypeId) (h : Tryz.prog.typeName? 3 u = some "*errors.errorString") : u = 126 :=
  typeName_ptr_named (nm := "errors.errorString") (by rw [star]; kernel_rfl) (by kernel_rfl) (by decide) u (by rw [star]; exact h)

/-- The blocks of the three variables, as the world W holds them. -/
@[reducible] def glbOf (W : World) : Glb := ⟨fun b => b < W.heap.size ∧ (b = 2 ∨ b = 0 ∨ b = 1), fun b => W.heap[b]?⟩

/-- The list of the rows. -/
abbrev LAID : List (String × DataW Unit) := YtfgklagkpfhlkaaGreatDoor.Rows.derivParsesRow.laid

theorem powD : (YtfgklagkpfhlkaaGreatDoor.Rows.laid_internal_strconv_uint64pow10 : DataW Unit) = Lib.tabData .u64 Lib.pow10Tab := by rfl
structure LaidF (W : World) : Prop where
  pow : Lib.TabIs Tryz.prog W "internal/strconv.uint64pow10" .u64 Lib.pow10Tab
  errS : ∃ x y, W.var? Tryz.prog "strconv.ErrSyntax" = some #[.iface x y]
  errR : ∃ x y, W.var? Tryz.prog "strconv.ErrRange" = some #[.iface x y]
theorem laid_facts {W : World} (h : laidMetH Tryz.prog LAID W) : LaidF W := by
  rw [MakeChecks.laidMetH_plain _ _ _ (by kernel_rfl)] at h
  have hp : laidMet Tryz.prog (("internal/strconv.uint64pow10", Lib.tabData .u64 Lib.pow10Tab) :: _) W := powD ▸ h.tail.tail
  have c65 : Tryz.prog.cellsOf 128 = 1 := by kernel_rfl
  have c9 : Tryz.prog.cellsOf 9 = 1 := by kernel_rfl
  have tR : (Tryz.prog.globals[1]?).map (·.type) = some 58 := by kernel_rfl
  have tS : (Tryz.prog.globals[0]?).map (·.type) = some 58 := by kernel_rfl
  obtain ⟨a1, _, hR, _⟩ := laid_sentinel h.tail.tail.tail.tail gErrR tR Tryz.underlying58 rowErrP Tryz.underlying126 Tryz.underlying128 rfl rfl Tryz.underlying9 c65 c9
  obtain ⟨a2, _, hS, _⟩ := laid_sentinel h.tail.tail.tail.tail.tail gErrS tS Tryz.underlying58 rowErrP Tryz.underlying126 Tryz.underlying128 rfl rfl Tryz.underlying9 c65 c9
  exact ⟨Lib.tabIs_of_head (t := 116) (e := 88) (n := 20) gPow (by kernel_rfl) (by kernel_rfl) (by kernel_rfl) (by kernel_rfl) (by kernel_rfl) hp, ⟨_, _, hS⟩, ⟨_, _, hR⟩⟩

theorem var_block {P : Program} {W : World} {n : String} {g : Nat} {cs : Array Value} (hg : P.globalNamed n = some g) (h : W.var? P n = some cs) : ∃ t fz, W.heap[g]? = some (.cells cs t fz) := by
  unfold World.var? at h
  rw [hg] at h
  simp only [Option.bind_some] at h
  split at h
  · rename_i cs' t fz e
    injection h with h
    subst h
    exact ⟨t, fz, e⟩
  · cases h
theorem var_congr {P : Program} {W w : World} {n : String} {g : Nat} {cs : Array Value} (hg : P.globalNamed n = some g) (h : W.var? P n = some cs) (he : w.heap[g]? = W.heap[g]?) : w.var? P n = some cs := by
  unfold World.var? at h ⊢
  rw [hg] at h ⊢
  simp only [Option.bind_some] at h ⊢
  rw [he]
  exact h
theorem heap_lt {W : World} {g : Nat} {o : Obj} (h : W.heap[g]? = some o) : g < W.heap.size := by
  rcases Nat.lt_or_ge g W.heap.size with q | q
  · exact q
  · rw [Array.getElem?_eq_none q] at h; cases h

theorem tabs_of {W : World} (F : LaidF W) : @Tabs (glbOf W) := by
  letI := glbOf W
  refine ⟨fun w hw => ?_⟩
  obtain ⟨xs, ys, hS⟩ := F.errS
  obtain ⟨xr, yr, hR⟩ := F.errR
  obtain ⟨_, _, b0⟩ := var_block gPow F.pow
  obtain ⟨_, _, b1⟩ := var_block gErrS hS
  obtain ⟨_, _, b2⟩ := var_block gErrR hR
  have e0 : w.heap[2]? = W.heap[2]? := hw _ ⟨heap_lt b0, .inl rfl⟩
  have e1 : w.heap[0]? = W.heap[0]? := hw _ ⟨heap_lt b1, .inr (.inl rfl)⟩
  have e2 : w.heap[1]? = W.heap[1]? := hw _ ⟨heap_lt b2, .inr (.inr rfl)⟩
  refine ⟨var_congr gPow F.pow e0, ⟨xs, ys, ?_⟩, ⟨xr, yr, ?_⟩⟩
  · simpa using World.var?_cell gErrS (var_congr gErrS hS e1) 0
  · simpa using World.var?_cell gErrR (var_congr gErrR hR e2) 0

/-- None of the three variables holds a number of Go's type int. -/
theorem glb_not {W : World} (F : LaidF W) {a : Addr} {n : Int} (hz : (glbOf W).A a.block) (hc : W.cell? a = some (.int .i64 n)) : False := by
  obtain ⟨xs, ys, hS⟩ := F.errS
  obtain ⟨xr, yr, hR⟩ := F.errR
  obtain ⟨_, _, b0⟩ := var_block gPow F.pow
  obtain ⟨_, _, b1⟩ := var_block gErrS hS
  obtain ⟨_, _, b2⟩ := var_block gErrR hR
  unfold World.cell? at hc
  have one : ∀ (v : Value) (i : Nat) (n : Int), #[v][i]? = some (.int .i64 n) → v = .int .i64 n := by
    intro v i n h
    match i, h with
    | 0, h => simpa using h
    | i + 1, h => simp at h
  rcases hz.2 with e | e | e
  · rw [e, b0] at hc
    simp only at hc
    split at hc
    · cases hc
    · simp only [List.getElem?_toArray, List.getElem?_map, Option.map_eq_some_iff] at hc
      obtain ⟨z, _, hz⟩ := hc
      cases hz
  · rw [e, b1] at hc
    simp only at hc
    split at hc
    · cases hc
    · exact absurd (one _ _ _ hc) (by simp)
  · rw [e, b2] at hc
    simp only at hc
    split at hc
    · cases hc
    · exact absurd (one _ _ _ hc) (by simp)

theorem dv_avoid {W : World} (F : LaidF W) : ∀ (N : Nat) (d : Dv), d.size ≤ N → ∀ (v : Value) (j : Nat), RC W (fun _ => False) v ((cellsD d).getD j .any) → RC W (glbOf W).A v ((cellsD d).getD j .any)
  | 0, .mk _ _ _ _ _, h => by simp [Dv.size] at h
  | N + 1, d, h => by
    intro v j r
    match j, r with
    | 0, r => exact r.flat1 rfl
    | 1, r => exact r.flat1 rfl
    | 2, r => exact r.flat1 rfl
    | 3, r => exact r.flat1 rfl
    | 4, r =>
      have r : RC W (fun _ => False) v (encKids d.kids) := r
      show RC W _ v (encKids d.kids)
      rcases Nat.eq_zero_or_pos d.kids.length with h0 | h0
      · obtain ⟨A, c, rfl, _⟩ := r.im_inv
        unfold encKids
        rw [h0]
        exact .nul _ _ _ _
      · obtain ⟨A, c, rfl, hx⟩ := r.im_inv
        obtain ⟨a, g, rfl, _, hlt, hnc, hc, ho, hf, hh⟩ := hx h0
        · refine .im a _ c 5 _ g (fun hz => ?_) hlt hnc hc ho hf fun i j hi hj => ?_
          · have h1 := hh 0 0 h0 (by decide)
            rw [encDs_getD h0] at h1
            have h2 : g (0 * 5 + 0) = .int .i64 (d.kids.getD 0 default).kind := h1.raw_inv
            have h3 := hc 0 (by omega)
            rw [show (0 * 5 + 0) = 0 from rfl] at h2
            rw [h2] at h3
            exact glb_not F (by rw [block_add]; exact hz) h3
          · have h1 := hh i j hi hj
            rw [encDs_getD hi] at h1 ⊢
            exact dv_avoid F N _ (by have := kids_sizeD d i hi; omega) _ _ h1
    | j + 5, r => exact .any _
theorem agg_avoid {W : World} (F : LaidF W) {d : Dv} {v : Value} (h : RC W (fun _ => False) v (.agg (cellsD d))) : RC W (glbOf W).A v (.agg (cellsD d)) := by
  cases h with
  | agg cs _ hl ho hh => exact .agg cs _ hl ho fun i hi => dv_avoid F _ d (Nat.le_refl _) _ _ (hh i hi)

section
variable {H : Type} {enc : TypeId × Value → H} {w : World} {base : Nat} {spare : Nat → Bool} {held : Bool}
theorem c3 : Tryz.prog.cellsOf 3 = 1 := by kernel_rfl
theorem c9 : Tryz.prog.cellsOf 9 = 1 := by kernel_rfl
theorem cDv : Tryz.prog.cellsOf 25 = 5 := by kernel_rfl
theorem c22 : Tryz.prog.cellsOf 23 = 1 := by kernel_rfl

theorem o_int {fuel : Nat} {t : TypeId} {cs : List Value} {x : DataW H × List MemPlace} (hu : Tryz.prog.underlying t = some (.int .i64)) (h : DataW.trod enc Tryz.prog w base spare held fuel t cs = some x) : ∃ n : Int, RCs w (fun _ => False) cs [.int n] ∧ inI n := by
  obtain ⟨n, rfl, hn⟩ := trod_int h hu
  exact ⟨n, .one rfl (.raw _), wf_i64 hn⟩
theorem o_str {fuel : Nat} {t : TypeId} {cs : List Value} {x : DataW H × List MemPlace} (hu : Tryz.prog.underlying t = some .string) (h : DataW.trod enc Tryz.prog w base spare held fuel t cs = some x) : ∃ n : ByteArray, RCs w (fun _ => False) cs [.str n] := by
  obtain ⟨n, rfl, _⟩ := trod_str h hu
  exact ⟨n, .one rfl (.raw _)⟩
theorem RCs.step {Z : Nat → Prop} {cs : List Value} {xs ys : List CV} (o n m : Nat) (h1 : RCs w Z ((cs.drop o).take n) xs) (hm : m = o + n) (h2 : RCs w Z (cs.drop m) ys) : RCs w Z (cs.drop o) (xs ++ ys) := by
  subst hm
  have := h1.append h2
  rwa [← List.drop_drop, List.take_append_drop] at this
theorem RCs.last {Z : Nat → Prop} {cs : List Value} (m : Nat) (h : cs.length = m) : RCs w Z (cs.drop m) [] := by
  rw [List.drop_of_length_le (by omega)]
  exact RCs.nil
theorem RCs.sub1 {Z : Nat → Prop} {cs : List Value} {x y : CV} (h : RCs w Z cs [x]) (hs : CV.Sub x y) : RCs w Z cs [y] := by
  refine ⟨h.1, fun i hi => ?_⟩
  have hx := h.2 i hi
  have : i = 0 := by simpa using hi
  subst this
  exact ⟨hx.1, hs _ _ _ hx.2⟩

instance : Inhabited { d : Dv // inD d } := ⟨⟨.mk 0 ⟨#[]⟩ 0 0 [], by simp [inD, inDs, inI]⟩⟩
theorem inDs_map : ∀ l : List { d : Dv // inD d }, inDs (l.map fun x => x.1)
  | [] => trivial
  | x :: r => ⟨x.2, inDs_map r⟩
theorem o_dv : ∀ (fuel : Nat) (cs : List Value) (x : DataW H × List MemPlace), DataW.trod enc Tryz.prog w base spare held fuel 25 cs = some x → ∃ d : { d : Dv // inD d }, RCs w (fun _ => False) cs (cellsD d.1) := by
  intro fuel
  induction fuel using Nat.strongRecOn with
  | ind fuel ih =>
    intro cs x h
    obtain ⟨n, rfl, hl, hf⟩ := trod_struct h Tryz.underlying25
    rw [cDv] at hl
    simp only [List.mem_cons, List.not_mem_nil, or_false, forall_eq_or_imp, forall_eq, c3, c9] at hf
    obtain ⟨⟨_, f0⟩, ⟨_, f1⟩, ⟨_, f2⟩, ⟨_, f3⟩, ⟨_, f4⟩⟩ := hf
    obtain ⟨k, r0, _⟩ := o_int Tryz.underlying3 f0
    obtain ⟨nm, r1⟩ := o_str Tryz.underlying9 f1
    obtain ⟨fr, r2, i2⟩ := o_int Tryz.underlying3 f2
    obtain ⟨to, r3, i3⟩ := o_int Tryz.underlying3 f3
    obtain ⟨ks, r4, _⟩ := open_slice (fun d : { d : Dv // inD d } => cellsD d.1) 5 (fun d => rfl) f4 Tryz.underlying23 cDv (by decide) (fun m hm vs y hy => ih m (by omega) vs y hy)
    have r4' := r4.sub1 (y := encKids (ks.map fun x => x.1)) (CV.Sub.im (by simp) fun i hi => by
      rw [encDs_getD (by simpa using hi), getD_lt hi, getD_lt (by simpa using hi), List.getElem_map])
    rw [c22] at r4'
    have := (RCs.step 0 1 1 r0 rfl (RCs.step 1 1 2 r1 rfl (RCs.step 2 1 3 r2 rfl (RCs.step 3 1 4 r3 rfl (RCs.step 4 1 5 r4' rfl (RCs.last 5 hl))))))
    refine ⟨⟨.mk k nm fr to (ks.map fun x => x.1), i2, i3, inDs_map ks⟩, ?_⟩
    exact this

set_option maxRecDepth 100000
theorem p_dv {r : Reach} {b0 : Nat} {v : Value} {d : DataW H} {ps : List MemPlace} (hval : Value.okWide Tryz.prog w r b0 25 v) (hd : DataW.Trod enc Tryz.prog w base spare held 25 v d ps) : ∃ d : Dv, RC w (fun _ => False) v (.agg (cellsD d)) ∧ inD d := by
  obtain ⟨cs, rfl, hs⟩ := okWide_struct Tryz.underlying25 hval
  obtain ⟨fuel, hf⟩ := hd
  obtain ⟨x, h⟩ := o_dv _ _ _ hf
  rw [cDv] at hs
  refine ⟨x.1, .agg cs _ hs (fun i hi => ?_) fun i hi => ?_, x.2⟩
  · have := (h.2 i hi).1
    simpa [Value.cells, Array.getD_eq_getD_getElem?, List.getD_eq_getElem?_getD] using this
  · have := (h.2 i hi).2
    simpa [Value.cells, Array.getD_eq_getD_getElem?, List.getD_eq_getElem?_getD] using this
theorem p_str {r : Reach} {b0 : Nat} {v : Value} (hval : Value.okWide Tryz.prog w r b0 9 v) : ∃ s : ByteArray, v = .string s := okWide_string Tryz.underlying9 hval
end
end Go.Am

