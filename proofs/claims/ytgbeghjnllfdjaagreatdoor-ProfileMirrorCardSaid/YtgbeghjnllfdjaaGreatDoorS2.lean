/- Texts of the proof: Q1 Q3 Q4 Q5 Q2 Q6 Q7. No condition. -/
import Derived.Test.YtgbeghjnllfdjaaGreatDoorS1
import Derived.Test.YtgbeghjnllfdjaaGreatDoorM3
set_option linter.unusedVariables false
set_option linter.unusedSimpArgs false
namespace Go.Am
open Go.Proofs
attribute [local go_sem ↓] ofL_cons ofH_cons upd_apply
set_option maxHeartbeats 1000000
set_option linter.unusedSimpArgs false
theorem take_eq_next {α : Type} [Inhabited α] {a b : List α} {i : Nat} (ha : i < a.length) (hb : i < b.length) (h : a.take i = b.take i) (e : a.getD i default = b.getD i default) : a.take (i + 1) = b.take (i + 1) := by
 rw [getD_lt ha, getD_lt hb] at e
 rw [List.take_succ_eq_append_getElem ha, List.take_succ_eq_append_getElem hb, h, e]
def countB (n : Int) : Bool := decide (0 ≤ n) && decide (n ≤ 1073741824)
variable [Glb]
theorem rsame_ok (a b : Rn) (hl : a.items.length ≤ 9223372036854775807) : APure Tryz.prog 23 [.agg (rnC a), .agg (rnC b)] (.bool (decide (a = b))) := by
 have FF : True := trivial
 refine apure_of Tryz.func23 rfl (by kernel_rfl) (by simp [Tryz.ntmps23]) ?_
 rw [Tryz.ntmps23]
 refine awp_rseq (by decide) fun KK hKK => ?_
 refine m_box ?_
 refine m_box ?_
 refine m_assign ?_
 refine hKK _ _ ?_
 clear hKK KK
 refine awp_seq ?_
 refine awp_rseq (by decide) fun KK hKK => ?_
 refine m_field ?_
 refine m_load ?_
 refine m_field ?_
 refine m_load ?_
 refine m_bin ?_
 refine m_move ?_
 refine g_field ?_
 refine g_load ?_
 refine g_len ?_
 refine g_field ?_
 refine g_load ?_
 refine g_len ?_
 refine g_bin ?_
 refine m_pick ?_
 refine hKK _ _ ?_
 clear hKK KK
 refine m_cond (fun hc => ?_) (fun hc => ?_)
 · refine awp_rseq (by decide) fun KK hKK => ?_
   refine m_assign ?_
   refine hKK _ _ ?_
   clear hKK KK
   refine awp_ret ⟨[_], ⟨⟨(by simp only [go_sem, reduceIte, Nat.reduceEqDiff, FF]), (by simp only [go_sem, reduceIte, Nat.reduceEqDiff, FF] <;> rfl)⟩, trivial⟩, ?_⟩
   simp only [go_sem, reduceIte, Nat.reduceEqDiff, FF, tupled]
   have e0 : decide (a = b) = false := by
     rw [str_beq] at hc
     rw [decide_eq_false_iff_not]
     rintro rfl
     simp at hc
   rw [e0]
   exact CV.Sub.refl _
 rw [str_beq] at hc
 simp only [Bool.or_eq_false_iff, Bool.not_eq_false', decide_eq_true_eq, bne_eq_false_iff_eq, beq_iff_eq] at hc
 obtain ⟨hn, hlen⟩ := hc
 have hlen' : a.items.length = b.items.length := by omega
 refine awp_skip ?_
 first | rw [thenQ_normal] | rw [blockQ_normal, thenQ_normal]
 refine awp_seq ?_
 refine awp_rseq (by decide) fun KK hKK => ?_
 refine m_assign ?_
 refine hKK _ _ ?_
 clear hKK KK
 refine awp_block ?_
 refine m_for (ι := Nat) (fun i => [(2, .ptr 2 0), (3, .ptr 3 0), (5, .int i)]) (fun i => [(2, .box 24 ((rnC a).map .c)), (3, .box 24 ((rnC b).map .c))]) (fun i => a.items.length - i) (fun i => i ≤ a.items.length ∧ a.items.take i = b.items.take i) (0) ?_ ?_
 · exact ⟨Nat.zero_le _, rfl⟩
 rintro i ⟨hi, hres⟩
 refine awp_seq ?_
 refine awp_rseq (by decide) fun KK hKK => ?_
 refine m_move ?_
 refine m_field ?_
 refine m_load ?_
 refine m_len ?_
 refine m_bin ?_
 refine hKK _ _ ?_
 clear hKK KK
 refine m_cond (fun hc => ?_) (fun hc => ?_)
 · simp only [decide_eq_true_eq] at hc
   have hi' : i < a.items.length := by omega
   have hi2 : i < b.items.length := by omega
   have w3 : IntKind.i64.wrap ((i : Int) + 1) = ((i + 1 : Nat) : Int) := wrap_in (by omega)
   have eA := itL_get hi'
   have eB := itL_get hi2
   refine awp_skip ?_
   first | rw [thenQ_normal] | rw [blockQ_normal, thenQ_normal]
   refine awp_seq (awp_block ?_)
   clear hc
   have FF := And.intro eA (And.intro eB FF)
   refine awp_rseq_draw Tryz.mixed (by decide) (by kernel_rfl) fun KK hKK => ?_
   refine m_field ?_
   refine m_load ?_
   refine m_move ?_
   first | refine m_index ?_ | refine m_idxA ?_
   refine m_load ?_
   refine m_field ?_
   refine m_load ?_
   refine m_move ?_
   first | refine m_index ?_ | refine m_idxA ?_
   refine m_load ?_
   refine m_binA (it_neq _ _) ?_
   refine hKK _ _ ?_
   clear hKK KK
   refine m_cond (fun hc => ?_) (fun hc => ?_)
   · refine awp_rseq (by decide) fun KK hKK => ?_
     refine m_assign ?_
     refine hKK _ _ ?_
     clear hKK KK
     refine awp_ret ⟨[_], ⟨⟨(by simp only [go_sem, reduceIte, Nat.reduceEqDiff, FF]), (by simp only [go_sem, reduceIte, Nat.reduceEqDiff, FF] <;> rfl)⟩, trivial⟩, ?_⟩
     simp only [go_sem, reduceIte, Nat.reduceEqDiff, FF, tupled]
     have e0 : decide (a = b) = false := by
       rw [decide_eq_false_iff_not]
       rintro rfl
       simp at hc
     rw [e0]
     exact CV.Sub.refl _
   refine awp_skip ?_
   first | rw [thenQ_normal] | rw [blockQ_normal, thenQ_normal]
   have FF := And.intro w3 FF
   refine awp_rlast (by decide) fun KK hKK => ?_
   refine m_move ?_
   refine m_bin ?_
   refine m_assign ?_
   refine hKK _ _ ?_
   clear hKK KK
   try rw [thenQ_normal]
   refine m_next (i + 1) ?_ ?_
   · exact ⟨hi', take_eq_next hi' hi2 hres (by simpa using hc)⟩
   · omega
 · refine awp_exit ?_
   simp only [thenQ_exit, blockQ_exit, reduceIte, Nat.reduceEqDiff]
   try rw [thenQ_normal]
   have hi' : i = a.items.length := by simp only [decide_eq_false_iff_not] at hc; omega
   refine awp_rseq (by decide) fun KK hKK => ?_
   refine m_assign ?_
   refine hKK _ _ ?_
   clear hKK KK
   refine awp_ret ⟨[_], ⟨⟨(by simp only [go_sem, reduceIte, Nat.reduceEqDiff, FF]), (by simp only [go_sem, reduceIte, Nat.reduceEqDiff, FF] <;> rfl)⟩, trivial⟩, ?_⟩
   simp only [go_sem, reduceIte, Nat.reduceEqDiff, FF, tupled]
   have e0 : decide (a = b) = true := by
     rw [decide_eq_true_eq]
     refine (rn_iff a b).1 ⟨hn, ?_⟩
     rw [hi', List.take_length, hlen', List.take_length] at hres
     exact hres
   rw [e0]
   exact CV.Sub.refl _
theorem rsameD_ok (a b : List Df) (hl : a.length ≤ 9223372036854775807) : APure Tryz.prog 18 [dfL a, dfL b] (.bool (decide (a = b))) := by
 have FF : True := trivial
 refine apure_of Tryz.func18 rfl (by kernel_rfl) (by simp [Tryz.ntmps18]) ?_
 rw [Tryz.ntmps18]
 refine awp_rseq (by decide) fun KK hKK => ?_
 refine m_assign ?_
 refine hKK _ _ ?_
 clear hKK KK
 refine awp_seq ?_
 refine awp_rseq (by decide) fun KK hKK => ?_
 refine m_move ?_
 refine m_len ?_
 refine m_move ?_
 refine m_len ?_
 refine m_bin ?_
 refine hKK _ _ ?_
 clear hKK KK
 refine m_cond (fun hc => ?_) (fun hc => ?_)
 · refine awp_rseq (by decide) fun KK hKK => ?_
   refine m_assign ?_
   refine hKK _ _ ?_
   clear hKK KK
   refine awp_ret ⟨[_], ⟨⟨(by simp only [go_sem, reduceIte, Nat.reduceEqDiff, FF]), (by simp only [go_sem, reduceIte, Nat.reduceEqDiff, FF] <;> rfl)⟩, trivial⟩, ?_⟩
   simp only [go_sem, reduceIte, Nat.reduceEqDiff, FF, tupled]
   have e0 : decide (a = b) = false := by
     rw [decide_eq_false_iff_not]
     rintro rfl
     simp at hc
   rw [e0]
   exact CV.Sub.refl _
 have hlen' : a.length = b.length := by simp at hc; omega
 clear hc
 refine awp_skip ?_
 first | rw [thenQ_normal] | rw [blockQ_normal, thenQ_normal]
 refine awp_seq ?_
 refine awp_rseq (by decide) fun KK hKK => ?_
 refine m_assign ?_
 refine hKK _ _ ?_
 clear hKK KK
 refine awp_block ?_
 refine m_for (ι := Nat) (fun i => [(0, .c (dfL a)), (1, .c (dfL b)), (5, .int i)]) (fun i => []) (fun i => a.length - i) (fun i => i ≤ a.length ∧ a.take i = b.take i) (0) ?_ ?_
 · exact ⟨Nat.zero_le _, rfl⟩
 rintro i ⟨hi, hres⟩
 refine awp_seq ?_
 refine awp_rseq (by decide) fun KK hKK => ?_
 refine m_move ?_
 refine m_move ?_
 refine m_len ?_
 refine m_bin ?_
 refine hKK _ _ ?_
 clear hKK KK
 refine m_cond (fun hc => ?_) (fun hc => ?_)
 · simp only [decide_eq_true_eq] at hc
   have hi' : i < a.length := by omega
   have hi2 : i < b.length := by omega
   have w3 : IntKind.i64.wrap ((i : Int) + 1) = ((i + 1 : Nat) : Int) := wrap_in (by omega)
   have eA := dfL_get hi'
   have eB := dfL_get hi2
   refine awp_skip ?_
   first | rw [thenQ_normal] | rw [blockQ_normal, thenQ_normal]
   refine awp_seq (awp_block ?_)
   clear hc
   have FF := And.intro eA (And.intro eB FF)
   refine awp_rseq_draw Tryz.mixed (by decide) (by kernel_rfl) fun KK hKK => ?_
   refine m_move ?_
   refine m_move ?_
   first | refine m_index ?_ | refine m_idxA ?_
   refine m_load ?_
   refine m_move ?_
   refine m_move ?_
   first | refine m_index ?_ | refine m_idxA ?_
   refine m_load ?_
   refine m_binA (df_neq _ _) ?_
   refine hKK _ _ ?_
   clear hKK KK
   refine m_cond (fun hc => ?_) (fun hc => ?_)
   · refine awp_rseq (by decide) fun KK hKK => ?_
     refine m_assign ?_
     refine hKK _ _ ?_
     clear hKK KK
     refine awp_ret ⟨[_], ⟨⟨(by simp only [go_sem, reduceIte, Nat.reduceEqDiff, FF]), (by simp only [go_sem, reduceIte, Nat.reduceEqDiff, FF] <;> rfl)⟩, trivial⟩, ?_⟩
     simp only [go_sem, reduceIte, Nat.reduceEqDiff, FF, tupled]
     have e0 : decide (a = b) = false := by
       rw [decide_eq_false_iff_not]
       rintro rfl
       simp at hc
     rw [e0]
     exact CV.Sub.refl _
   refine awp_skip ?_
   first | rw [thenQ_normal] | rw [blockQ_normal, thenQ_normal]
   have FF := And.intro w3 FF
   refine awp_rlast (by decide) fun KK hKK => ?_
   refine m_move ?_
   refine m_bin ?_
   refine m_assign ?_
   refine hKK _ _ ?_
   clear hKK KK
   try rw [thenQ_normal]
   refine m_next (i + 1) ?_ ?_
   · exact ⟨hi', take_eq_next hi' hi2 hres (by simpa using hc)⟩
   · omega
 · refine awp_exit ?_
   simp only [thenQ_exit, blockQ_exit, reduceIte, Nat.reduceEqDiff]
   try rw [thenQ_normal]
   have hi' : i = a.length := by simp only [decide_eq_false_iff_not] at hc; omega
   refine awp_rseq (by decide) fun KK hKK => ?_
   refine m_assign ?_
   refine hKK _ _ ?_
   clear hKK KK
   refine awp_ret ⟨[_], ⟨⟨(by simp only [go_sem, reduceIte, Nat.reduceEqDiff, FF]), (by simp only [go_sem, reduceIte, Nat.reduceEqDiff, FF] <;> rfl)⟩, trivial⟩, ?_⟩
   simp only [go_sem, reduceIte, Nat.reduceEqDiff, FF, tupled]
   have e0 : decide (a = b) = true := by
     rw [decide_eq_true_eq]
     rw [hi', List.take_length, hlen', List.take_length] at hres
     exact hres
   rw [e0]
   exact CV.Sub.refl _
theorem counted_ok (n : Int) : APure Tryz.prog 31 [.int n] (.bool (countB n)) := by
 have FF : True := trivial
 refine apure_of Tryz.func31 rfl (by kernel_rfl) (by simp [Tryz.ntmps31]) ?_
 rw [Tryz.ntmps31]
 refine awp_rseq (by decide) fun KK hKK => ?_
 refine m_assign ?_
 refine hKK _ _ ?_
 clear hKK KK
 refine awp_rseq (by decide) fun KK hKK => ?_
 refine m_move ?_
 refine m_bin ?_
 refine m_move ?_
 refine g_move ?_
 refine g_bin ?_
 refine m_pick ?_
 refine m_assign ?_
 refine hKK _ _ ?_
 clear hKK KK
 refine awp_ret ⟨[_], ⟨⟨(by simp only [go_sem, reduceIte, Nat.reduceEqDiff, FF]), (by simp only [go_sem, reduceIte, Nat.reduceEqDiff, FF] <;> rfl)⟩, trivial⟩, ?_⟩
 simp only [go_sem, reduceIte, Nat.reduceEqDiff, FF, tupled]
 exact CV.Sub.refl _
theorem num01_ok (b : Bool) : APure Tryz.prog 32 [.bool b] (.int (bitI b)) := by
 have FF : True := trivial
 refine apure_of Tryz.func32 rfl (by kernel_rfl) (by simp [Tryz.ntmps32]) ?_
 rw [Tryz.ntmps32]
 refine awp_rseq (by decide) fun KK hKK => ?_
 refine m_assign ?_
 refine hKK _ _ ?_
 clear hKK KK
 refine awp_seq ?_
 refine awp_rseq (by decide) fun KK hKK => ?_
 refine m_move ?_
 refine hKK _ _ ?_
 clear hKK KK
 refine m_cond (fun hc => ?_) (fun hc => ?_)
 · refine awp_rseq (by decide) fun KK hKK => ?_
   refine m_assign ?_
   refine hKK _ _ ?_
   clear hKK KK
   refine awp_ret ⟨[_], ⟨⟨(by simp only [go_sem, reduceIte, Nat.reduceEqDiff, FF]), (by simp only [go_sem, reduceIte, Nat.reduceEqDiff, FF] <;> rfl)⟩, trivial⟩, ?_⟩
   simp only [go_sem, reduceIte, Nat.reduceEqDiff, FF, tupled]
   rw [hc]
   exact CV.Sub.refl _
 refine awp_skip ?_
 first | rw [thenQ_normal] | rw [blockQ_normal, thenQ_normal]
 refine awp_rseq (by decide) fun KK hKK => ?_
 refine m_assign ?_
 refine hKK _ _ ?_
 clear hKK KK
 refine awp_ret ⟨[_], ⟨⟨(by simp only [go_sem, reduceIte, Nat.reduceEqDiff, FF]), (by simp only [go_sem, reduceIte, Nat.reduceEqDiff, FF] <;> rfl)⟩, trivial⟩, ?_⟩
 simp only [go_sem, reduceIte, Nat.reduceEqDiff, FF, tupled]
 rw [hc]
 exact CV.Sub.refl _
end Go.Am
namespace Go.Am
open Go.Proofs
attribute [local go_sem ↓] ofL_cons ofH_cons upd_apply
set_option maxHeartbeats 1000000
set_option linter.unusedSimpArgs false
def sumI (F : It → Int) (l : List It) : Int := (l.map F).foldr (· + ·) 0
def prsI (x : It) : Int := if 0 < x.rd then 1 else 0
def prtI (x : It) : Int := bitI x.pt
def totC (l : List It) : List CV := [.int l.length, .int (sumI prsI l), .int (sumI It.rd l), .int (sumI It.ed l), .int (sumI It.tk l), .int (sumI prtI l)]
def itIn (x : It) : Prop := 0 ≤ x.rd ∧ x.rd ≤ 1073741824 ∧ 0 ≤ x.ed ∧ x.ed ≤ 1073741824 ∧ 0 ≤ x.tk ∧ x.tk ≤ 1073741824
theorem sumI_app (F : It → Int) : ∀ l m : List It, sumI F (l ++ m) = sumI F l + sumI F m
 | [], m => by simp [sumI]
 | x :: l, m => by
   have ih := sumI_app F l m
   have e : ∀ l, sumI F (x :: l) = F x + sumI F l := fun _ => rfl
   rw [List.cons_append, e, e, ih]
   omega
theorem sumI_next {l : List It} {i : Nat} (h : i < l.length) (F : It → Int) : sumI F (l.take (i + 1)) = sumI F (l.take i) + F (l.getD i default) := by
 rw [List.take_succ_eq_append_getElem h, sumI_app, getD_lt h]
 simp [sumI]
theorem sumI_bd {F : It → Int} : ∀ {l : List It}, (∀ x ∈ l, 0 ≤ F x ∧ F x ≤ 1073741824) → 0 ≤ sumI F l ∧ sumI F l ≤ l.length * 1073741824
 | [], _ => by simp [sumI]
 | x :: l, h => by
   have ih := sumI_bd fun y hy => h y (List.mem_cons_of_mem _ hy)
   have hx := h x (List.mem_cons_self ..)
   have e : sumI F (x :: l) = F x + sumI F l := rfl
   rw [e, List.length_cons]
   omega
theorem sumI_tk {F : It → Int} {l : List It} {i : Nat} (hi : i ≤ l.length) (hl : l.length ≤ 1000000) (h : ∀ x ∈ l, 0 ≤ F x ∧ F x ≤ 1073741824) : 0 ≤ sumI F (l.take i) ∧ sumI F (l.take i) ≤ 1073741824000000 := by
 have := sumI_bd (l := l.take i) fun x hx => h x (List.mem_of_mem_take hx)
 rw [List.length_take, Nat.min_eq_left hi] at this
 omega
theorem prs_in (x : It) : 0 ≤ prsI x ∧ prsI x ≤ 1073741824 := by unfold prsI; split <;> omega
theorem prt_in (x : It) : 0 ≤ prtI x ∧ prtI x ≤ 1073741824 := by unfold prtI bitI; split <;> omega
variable [Glb]
theorem totals_ok (r : Rn) (hl : r.items.length ≤ 1000000) (hin : ∀ x ∈ r.items, itIn x) : APure Tryz.prog 14 [.agg (rnC r)] (.agg (totC r.items)) := by
 have FF : True := trivial
 refine apure_of Tryz.func14 rfl (by kernel_rfl) (by simp [Tryz.ntmps14]) ?_
 rw [Tryz.ntmps14]
 refine awp_rseq (by decide) fun KK hKK => ?_
 refine m_box ?_
 refine m_alloc ?_
 refine hKK _ _ ?_
 clear hKK KK
 refine awp_rseq (by decide) fun KK hKK => ?_
 refine m_field ?_
 refine m_load ?_
 refine m_len ?_
 first | refine m_build ?_ | refine m_buildA ?_
 refine m_alloc ?_
 first | refine m_stPtr ?_ | refine m_stRp ?_
 refine hKK _ _ ?_
 clear hKK KK
 refine awp_seq ?_
 refine awp_rseq (by decide) fun KK hKK => ?_
 refine m_field ?_
 refine m_load ?_
 refine m_len ?_
 refine m_move ?_
 refine hKK _ _ ?_
 clear hKK KK
 refine awp_block ?_
 refine m_for (ι := Nat) (fun i => [(2, .ptr 2 0), (3, .ptr 3 0), (11, .c (itL r.items)), (12, .int r.items.length), (13, .int i)]) (fun i => [(2, .box 30 [.int 0, .int 0, .int 0, .int 0, .int 0, .int 0]), (3, .box 30 [.int r.items.length, .int (sumI prsI (r.items.take i)), .int (sumI It.rd (r.items.take i)), .int (sumI It.ed (r.items.take i)), .int (sumI It.tk (r.items.take i)), .int (sumI prtI (r.items.take i))])]) (fun i => r.items.length - i) (fun i => i ≤ r.items.length) (0) ?_ ?_
 · exact Nat.zero_le _
 rintro i hi
 refine awp_rseq (by decide) fun KK hKK => ?_
 refine m_bin ?_
 refine hKK _ _ ?_
 clear hKK KK
 refine awp_seq ?_
 refine m_cond (fun hc => ?_) (fun hc => ?_)
 · simp only [decide_eq_true_eq] at hc
   have hi' : i < r.items.length := by omega
   have w3 : IntKind.i64.wrap ((i : Int) + 1) = ((i + 1 : Nat) : Int) := wrap_in (by omega)
   have eK := itL_get hi'
   have hx : itIn (r.items.getD i default) := by rw [getD_lt hi']; exact hin _ (List.getElem_mem hi')
   have nA := sumI_next hi' prsI
   have nB := sumI_next hi' It.rd
   have nC := sumI_next hi' It.ed
   have nD := sumI_next hi' It.tk
   have nE := sumI_next hi' prtI
   have bA := sumI_tk (F := prsI) hi hl fun x _ => prs_in x
   have bB := sumI_tk (F := It.rd) hi hl fun x h => ⟨(hin x h).1, (hin x h).2.1⟩
   have bC := sumI_tk (F := It.ed) hi hl fun x h => ⟨(hin x h).2.2.1, (hin x h).2.2.2.1⟩
   have bD := sumI_tk (F := It.tk) hi hl fun x h => ⟨(hin x h).2.2.2.2.1, (hin x h).2.2.2.2.2⟩
   have bE := sumI_tk (F := prtI) hi hl fun x _ => prt_in x
   have pE := prt_in (r.items.getD i default)
   generalize sumI prsI (r.items.take i) = A at *
   generalize sumI It.rd (r.items.take i) = B at *
   generalize sumI It.ed (r.items.take i) = C at *
   generalize sumI It.tk (r.items.take i) = D at *
   generalize sumI prtI (r.items.take i) = E at *
   generalize r.items.getD i default = x at *
   unfold itIn at hx
   change 0 ≤ bitI x.pt ∧ bitI x.pt ≤ 1073741824 at pE
   change sumI prtI (r.items.take (i + 1)) = E + bitI x.pt at nE
   have wA : IntKind.i64.wrap (A + 1) = A + 1 := wrap_in (by omega)
   have wB : IntKind.i64.wrap (B + x.rd) = B + x.rd := wrap_in (by omega)
   have wC : IntKind.i64.wrap (C + x.ed) = C + x.ed := wrap_in (by omega)
   have wD : IntKind.i64.wrap (D + x.tk) = D + x.tk := wrap_in (by omega)
   have wE : IntKind.i64.wrap (E + bitI x.pt) = E + bitI x.pt := wrap_in (by omega)
   refine awp_skip ?_
   first | rw [thenQ_normal] | rw [blockQ_normal, thenQ_normal]
   refine awp_seq (awp_block ?_)
   clear hc
   have FF := And.intro eK FF
   refine awp_rseq (by decide) fun KK hKK => ?_
   first | refine m_index ?_ | refine m_idxA ?_
   refine m_load ?_
   refine m_alloc ?_
   first | refine m_stPtr ?_ | refine m_stRp ?_
   refine hKK _ _ ?_
   clear hKK KK
   refine m_join (ι := Int) (fun p => [(2, .ptr 2 0), (3, .ptr 3 0), (5, .ptr 5 0), (11, .c (itL r.items)), (12, .int r.items.length), (13, .int i)]) (fun p => [(2, .box 30 [.int 0, .int 0, .int 0, .int 0, .int 0, .int 0]), (3, .box 30 [.int r.items.length, .int p, .int B, .int C, .int D, .int E]), (5, .box 47 ((itC x).map .c))]) (fun p => p = sumI prsI (r.items.take (i + 1))) ?_ ?_
   · refine awp_rseq (by decide) fun KK hKK => ?_
     refine m_field ?_
     refine m_load ?_
     refine m_bin ?_
     refine hKK _ _ ?_
     clear hKK KK
     refine m_cond (fun hc => ?_) (fun hc => ?_)
     · have FF := And.intro wA FF
       refine awp_rlast (by decide) fun KK hKK => ?_
       refine m_field ?_
       refine m_load ?_
       refine m_bin ?_
       refine m_field ?_
       first | refine m_stPtr ?_ | refine m_stRp ?_
       refine hKK _ _ ?_
       clear hKK KK
       try rw [thenQ_normal]
       refine ⟨A + 1, ?_, (by simp only [List.forall_mem_cons, List.forall_mem_nil, go_sem, reduceIte, Nat.reduceEqDiff, FF]; all_goals ((repeat' apply And.intro) <;> first | trivial | rfl | exact objLe_refl _ | (intro _ _; exact Subs.refl _))), (by simp only [List.forall_mem_cons, List.forall_mem_nil, go_sem, reduceIte, Nat.reduceEqDiff, FF]; all_goals ((repeat' apply And.intro) <;> first | trivial | rfl | exact objLe_refl _ | (intro _ _; exact Subs.refl _)))⟩
       rw [nA, prsI, if_pos (by simpa using hc)]
     refine awp_skip ?_
     try rw [thenQ_normal]
     refine ⟨A, ?_, (by simp only [List.forall_mem_cons, List.forall_mem_nil, go_sem, reduceIte, Nat.reduceEqDiff, FF]; all_goals ((repeat' apply And.intro) <;> first | trivial | rfl | exact objLe_refl _ | (intro _ _; exact Subs.refl _))), (by simp only [List.forall_mem_cons, List.forall_mem_nil, go_sem, reduceIte, Nat.reduceEqDiff, FF]; all_goals ((repeat' apply And.intro) <;> first | trivial | rfl | exact objLe_refl _ | (intro _ _; exact Subs.refl _)))⟩
     rw [nA, prsI, if_neg (by simpa using hc)]
     omega
   rintro p hp
   have FF := And.intro wB FF
   refine awp_rseq (by decide) fun KK hKK => ?_
   refine m_field ?_
   refine m_load ?_
   refine m_field ?_
   refine m_load ?_
   refine m_bin ?_
   refine m_field ?_
   first | refine m_stPtr ?_ | refine m_stRp ?_
   refine hKK _ _ ?_
   clear hKK KK
   have FF := And.intro wC FF
   refine awp_rseq (by decide) fun KK hKK => ?_
   refine m_field ?_
   refine m_load ?_
   refine m_field ?_
   refine m_load ?_
   refine m_bin ?_
   refine m_field ?_
   first | refine m_stPtr ?_ | refine m_stRp ?_
   refine hKK _ _ ?_
   clear hKK KK
   have FF := And.intro wD FF
   refine awp_rseq (by decide) fun KK hKK => ?_
   refine m_field ?_
   refine m_load ?_
   refine m_field ?_
   refine m_load ?_
   refine m_bin ?_
   refine m_field ?_
   first | refine m_stPtr ?_ | refine m_stRp ?_
   refine hKK _ _ ?_
   clear hKK KK
   have FF := And.intro wE FF
   refine awp_rlast_draw Tryz.mixed (by decide) (by kernel_rfl) fun KK hKK => ?_
   refine m_field ?_
   refine m_load ?_
   refine m_field ?_
   refine m_load ?_
   refine m_call (fun hG => num01_ok _) ?_
   refine m_bin ?_
   refine m_field ?_
   first | refine m_stPtr ?_ | refine m_stRp ?_
   refine hKK _ _ ?_
   clear hKK KK
   rw [blockQ_normal]
   try rw [thenQ_normal]
   have FF := And.intro w3 FF
   refine awp_rlast (by decide) fun KK hKK => ?_
   refine m_bin ?_
   refine m_move ?_
   refine hKK _ _ ?_
   clear hKK KK
   rw [hp, ← nB, ← nC, ← nD, ← nE]
   try rw [thenQ_normal]
   refine m_next (i + 1) ?_ ?_
   · exact hi'
   · omega
 · refine awp_exit ?_
   simp only [thenQ_exit, blockQ_exit, reduceIte, Nat.reduceEqDiff]
   try rw [thenQ_normal]
   have hi' : i = r.items.length := by simp only [decide_eq_false_iff_not] at hc; omega
   subst hi'
   rw [List.take_length]
   refine awp_rseq (by decide) fun KK hKK => ?_
   refine m_load ?_
   first | refine m_stPtr ?_ | refine m_stRp ?_
   refine hKK _ _ ?_
   clear hKK KK
   refine awp_ret ⟨[_], ⟨k_load (by simp only [go_sem, reduceIte, Nat.reduceEqDiff, FF] <;> rfl) (by simp only [go_sem] <;> rfl) (by rfl) (by intro hG; simp only [go_sem]) (by exact lm_ptr (by simp only [go_sem, reduceIte, Nat.reduceEqDiff, FF] <;> rfl) (by simp only [go_sem, reduceIte, Nat.reduceEqDiff, FF, Nat.reduceAdd, Nat.reduceSub, Nat.reduceMul, Nat.reduceLeDiff] <;> rfl) (fun _ => Nat.le_of_ble_eq_true rfl)), trivial⟩, ?_⟩
   simp only [go_sem, reduceIte, Nat.reduceEqDiff, FF, tupled]
   exact CV.Sub.refl _
end Go.Am
namespace Go.Am
open Go.Proofs
attribute [local go_sem ↓] ofL_cons ofH_cons upd_apply
set_option maxHeartbeats 2000000
set_option linter.unusedSimpArgs false
theorem const_pnil : constAV1 (.pointer none) = .c (.raw (.pointer none)) := rfl
attribute [go_sem] const_pnil
theorem nil_eq : RawBin Tryz.prog .eql 78 (.pointer none) (.pointer none) (.bool true) := by
 intro y z w
 have hp : Tryz.prog.underlying 78 = some (.pointer (Tryz.prog.pointee 78)) := by kernel_rfl
 have q1 := run_eql_pointer_nil w 78 none hp
 simp [eqGuard, q1, run_underlying hp]
theorem dfR_app (l m : List Df) : ∀ i, i < l.length + m.length → (if i < l.length then dfR l i else dfR m (i - l.length)) = dfR (l ++ m) i := by
 intro i hi
 unfold dfR
 rw [List.map_append, List.getD_eq_getElem?_getD, List.getD_eq_getElem?_getD, List.getD_eq_getElem?_getD]
 split
 · rw [List.getElem?_append_left (by simpa using ‹_›)]
 · rw [List.getElem?_append_right (by simp; omega), List.length_map]
def btwL (x y : It) : List (Int × Int) := [(x.rd, y.rd), (x.ed, y.ed), (x.tk, y.tk), (bitI x.pt, bitI y.pt)]
def btwN (x y : It) : Nat → List Df
 | 0 => []
 | i + 1 => differF (btwN x y i) x.id (2 + i) ((btwL x y).getD i (0, 0)).1 ((btwL x y).getD i (0, 0)).2
theorem differ_len (l : List Df) (id : ByteArray) (k a b : Int) : (differF l id k a b).length ≤ l.length + 1 := by unfold differF; split <;> simp
theorem btwN_len (x y : It) : ∀ i, (btwN x y i).length ≤ i
 | 0 => Nat.le_refl _
 | i + 1 => by
   have := btwN_len x y i
   have := differ_len (btwN x y i) x.id (2 + i) ((btwL x y).getD i (0, 0)).1 ((btwL x y).getD i (0, 0)).2
   rw [btwN]
   omega
abbrev rowH (l : List Df) : AH := ofH [(100, .row 45 4 l.length (dfR l))]
abbrev outH (l : List Df) : AH := ofH [(8, .box 32 [.own 100 l.length]), (100, .row 45 4 l.length (dfR l))]
theorem rowH_foot (l : List Df) : Foot [100] (rowH l) := by
 refine ⟨fun k hk => ?_, fun k hk ty cells e => ?_, fun k hk k' hk' => ?_⟩
 · simp only [List.mem_cons, List.not_mem_nil, or_false] at hk
   simp [ofH_cons, ofH_nil, hk]
 · simp only [List.mem_cons, List.not_mem_nil, or_false] at hk
   subst hk
   simp [ofH_cons] at e
 · simp only [List.mem_cons, List.not_mem_nil, or_false] at hk
   subst hk
   simp [ofH_cons, AObj.refsM] at hk'
theorem outH_foot (l : List Df) : Foot [8, 100] (outH l) := by
 refine ⟨fun k hk => ?_, fun k hk ty cells e x hx k' hk' => ?_, fun k hk k' hk' => ?_⟩
 · simp only [List.mem_cons, List.not_mem_nil, or_false, not_or] at hk
   simp [ofH_cons, ofH_nil, hk]
 · simp only [List.mem_cons, List.not_mem_nil, or_false] at hk
   rcases hk with rfl | rfl
   · simp only [ofH_cons, reduceIte, AObj.box.injEq] at e
     obtain ⟨rfl, rfl⟩ := e
     simp only [List.mem_cons, List.not_mem_nil, or_false] at hx
     subst hx
     simp [AV.refsw, AV.ref1w] at hk'
     simp [hk']
   · simp [ofH_cons] at e
 · simp only [List.mem_cons, List.not_mem_nil, or_false] at hk
   rcases hk with rfl | rfl <;> simp [ofH_cons, AObj.refsM] at hk'
variable [Glb]
theorem differ_ok (l : List Df) (id : ByteArray) (k a b : Int) (hl : l.length ≤ 1000000) : AFun Tryz.prog 36 [.own 100 l.length, .str id, .int k, .int a, .int b] (rowH l) fun out h' => out = .ret (.own 100 (differF l id k a b).length) ∧ h' = rowH (differF l id k a b) := by
 refine afun_of Tryz.func36 rfl (by kernel_rfl) (by simp [Tryz.ntmps36]) (fo := [100]) (fun o ho => ?_) ?_
 · exact Classical.byContradiction fun hm => ho ((rowH_foot l).out o hm)
 have FF : True := trivial
 rw [Tryz.ntmps36]
 refine m_cut [(0, .own 100 l.length), (1, .str id), (2, .int k), (3, .int a), (4, .int b)] [(100, .row 45 4 l.length (dfR l))] ?_
 refine awp_rseq (by decide) fun KK hKK => ?_
 refine m_assign ?_
 refine hKK _ _ ?_
 clear hKK KK
 refine awp_seq ?_
 refine awp_rseq (by decide) fun KK hKK => ?_
 refine m_move ?_
 refine m_move ?_
 refine m_bin ?_
 refine hKK _ _ ?_
 clear hKK KK
 refine m_cond (fun hc => ?_) (fun hc => ?_)
 · have e0 : differF l id k a b = l := by unfold differF; rw [if_pos hc]
   rw [e0]
   refine awp_rseq (by decide) fun KK hKK => ?_
   refine m_move ?_
   refine m_assign ?_
   refine hKK _ _ ?_
   clear hKK KK
   refine awp_ret ⟨rfl, [.own 100 l.length], ⟨⟨?_, ?_⟩, trivial⟩, .inr ⟨.own 100 l.length, rfl, by simp [AV.refsw, AV.ref1w], rfl, keepH_eq (l := [(100, .row 45 4 l.length (dfR l))]) fun p hp => ?_⟩⟩
   · simp only [go_sem, reduceIte, Nat.reduceEqDiff]
   · simp only [go_sem, reduceIte, Nat.reduceEqDiff]
   · simp only [List.mem_cons, List.not_mem_nil, or_false] at hp
     rcases hp with rfl
     rfl
 have e0 : differF l id k a b = l ++ [⟨id, k, a, b⟩] := by unfold differF; rw [if_neg (by rw [hc]; decide)]
 rw [e0, List.length_append]
 refine awp_skip ?_
 first | rw [thenQ_normal] | rw [blockQ_normal, thenQ_normal]
 refine awp_rseq (by decide) fun KK hKK => ?_
 refine m_move ?_
 refine m_move ?_
 refine m_move ?_
 refine m_move ?_
 refine m_move ?_
 first | refine m_build ?_ | refine m_buildA ?_
 refine m_sliceN ?_
 first | refine m_appOwn ?_ | refine m_appEmp ?_
 refine m_assign ?_
 refine hKK _ _ ?_
 clear hKK KK
 refine m_cutH [(10, .own 100 (l.length + 1))] [(100, .row 45 4 (l ++ [(⟨id, k, a, b⟩ : Df)]).length (dfR (l ++ [(⟨id, k, a, b⟩ : Df)])))] ?_ ?_
 · simp only [List.forall_mem_cons, List.forall_mem_nil, go_sem, reduceIte, Nat.reduceEqDiff, and_true]
   rw [List.length_append]
   exact objLe_rown rfl (dfR_app l [⟨id, k, a, b⟩])
 refine awp_ret ⟨rfl, [.own 100 (l.length + 1)], ⟨⟨?_, ?_⟩, trivial⟩, .inr ⟨.own 100 (l.length + 1), rfl, by simp [AV.refsw, AV.ref1w], rfl, keepH_eq (l := [(100, .row 45 4 (l ++ [(⟨id, k, a, b⟩ : Df)]).length (dfR (l ++ [(⟨id, k, a, b⟩ : Df)])))]) fun p hp => ?_⟩⟩
 · simp only [go_sem, reduceIte, Nat.reduceEqDiff]
 · simp only [go_sem, reduceIte, Nat.reduceEqDiff]
 · simp only [List.mem_cons, List.not_mem_nil, or_false] at hp
   rcases hp with rfl
   rfl
theorem key_ok (x : It) : APure Tryz.prog 34 [.agg (itC x)] (.str x.id) := by
 have FF : True := trivial
 refine apure_of Tryz.func34 rfl (by kernel_rfl) (by simp [Tryz.ntmps34]) ?_
 rw [Tryz.ntmps34]
 refine awp_rseq (by decide) fun KK hKK => ?_
 refine m_box ?_
 refine m_assign ?_
 refine hKK _ _ ?_
 clear hKK KK
 refine awp_rseq (by decide) fun KK hKK => ?_
 refine m_field ?_
 refine m_load ?_
 refine m_assign ?_
 refine hKK _ _ ?_
 clear hKK KK
 refine awp_ret ⟨[_], ⟨⟨(by simp only [go_sem, reduceIte, Nat.reduceEqDiff, FF]), (by simp only [go_sem, reduceIte, Nat.reduceEqDiff, FF] <;> rfl)⟩, trivial⟩, ?_⟩
 simp only [go_sem, reduceIte, Nat.reduceEqDiff, FF, tupled]
 exact CV.Sub.refl _
theorem both_add (l : List Df) (y : It) (hl : l.length ≤ 1000000) : AFun Tryz.prog 35 [.c (.raw (.pointer none)), .pim (itC y), .ptr 8 0] (outH l) fun out h' => out = .ret (.c (.tup [])) ∧ h' = outH (l ++ [⟨y.id, 0, 0, 0⟩]) := by
 refine afun_of Tryz.func35 rfl (by kernel_rfl) (by simp [Tryz.ntmps35]) (fo := [8, 100]) (fun o ho => ?_) ?_
 · exact Classical.byContradiction fun hm => ho ((outH_foot l).out o hm)
 have FF : True := trivial
 rw [Tryz.ntmps35]
 refine m_cut [(0, .c (.raw (.pointer none))), (1, .pim (itC y)), (2, .ptr 8 0)] [(8, .box 32 [.own 100 l.length]), (100, .row 45 4 l.length (dfR l))] ?_
 refine awp_seq ?_
 refine awp_rseq (by decide) fun KK hKK => ?_
 refine m_move ?_
 refine m_binR (nil_eq) ?_
 refine hKK _ _ ?_
 clear hKK KK
 refine m_cond (fun hc => ?_) (fun hc => ?_)
 · refine awp_rseq_draw Tryz.mixed (by decide) (by kernel_rfl) fun KK hKK => ?_
   refine m_load ?_
   refine m_move ?_
   refine m_nil ?_
   refine m_field ?_
   refine m_load ?_
   first | refine m_build ?_ | refine m_buildA ?_
   refine m_sliceN ?_
   first | refine m_appOwn ?_ | refine m_appEmp ?_
   first | refine m_stPtr ?_ | refine m_stRp ?_
   refine hKK _ _ ?_
   clear hKK KK
   refine m_cutH [] [(8, .box 32 [.own 100 (l ++ [(⟨y.id, 0, 0, 0⟩ : Df)]).length]), (100, .row 45 4 (l ++ [(⟨y.id, 0, 0, 0⟩ : Df)]).length (dfR (l ++ [(⟨y.id, 0, 0, 0⟩ : Df)])))] ?_ ?_
   · simp only [List.forall_mem_cons, List.forall_mem_nil, go_sem, reduceIte, Nat.reduceEqDiff, and_true]
     rw [List.length_append]
     exact ⟨objLe_refl _, objLe_rown rfl (dfR_app l [⟨y.id, 0, 0, 0⟩])⟩
   refine awp_ret ⟨rfl, [], trivial, .inl ⟨.tup [], by simp, CV.Sub.refl _, rfl, keepH_eq (l := [(8, .box 32 [.own 100 (l ++ [(⟨y.id, 0, 0, 0⟩ : Df)]).length]), (100, .row 45 4 (l ++ [(⟨y.id, 0, 0, 0⟩ : Df)]).length (dfR (l ++ [(⟨y.id, 0, 0, 0⟩ : Df)])))]) fun p hp => ?_⟩⟩
   simp only [List.mem_cons, List.not_mem_nil, or_false] at hp
   rcases hp with rfl | rfl <;> rfl
 · cases hc
theorem both_rem (l : List Df) (x : It) (hl : l.length ≤ 1000000) : AFun Tryz.prog 35 [.pim (itC x), .c (.raw (.pointer none)), .ptr 8 0] (outH l) fun out h' => out = .ret (.c (.tup [])) ∧ h' = outH (l ++ [⟨x.id, 1, 0, 0⟩]) := by
 refine afun_of Tryz.func35 rfl (by kernel_rfl) (by simp [Tryz.ntmps35]) (fo := [8, 100]) (fun o ho => ?_) ?_
 · exact Classical.byContradiction fun hm => ho ((outH_foot l).out o hm)
 have FF : True := trivial
 rw [Tryz.ntmps35]
 refine m_cut [(0, .pim (itC x)), (1, .c (.raw (.pointer none))), (2, .ptr 8 0)] [(8, .box 32 [.own 100 l.length]), (100, .row 45 4 l.length (dfR l))] ?_
 refine awp_seq ?_
 refine awp_rseq (by decide) fun KK hKK => ?_
 refine m_move ?_
 first | refine m_ptrNil ?_ | refine m_bin ?_
 refine hKK _ _ ?_
 clear hKK KK
 refine m_cond (fun hc => ?_) (fun hc => ?_)
 · cases hc
 refine awp_skip ?_
 first | rw [thenQ_normal] | rw [blockQ_normal, thenQ_normal]
 refine awp_seq ?_
 refine awp_rseq (by decide) fun KK hKK => ?_
 refine m_move ?_
 refine m_binR (nil_eq) ?_
 refine hKK _ _ ?_
 clear hKK KK
 refine m_cond (fun hc => ?_) (fun hc => ?_)
 · refine awp_rseq_draw Tryz.mixed (by decide) (by kernel_rfl) fun KK hKK => ?_
   refine m_load ?_
   refine m_move ?_
   refine m_nil ?_
   refine m_field ?_
   refine m_load ?_
   first | refine m_build ?_ | refine m_buildA ?_
   refine m_sliceN ?_
   first | refine m_appOwn ?_ | refine m_appEmp ?_
   first | refine m_stPtr ?_ | refine m_stRp ?_
   refine hKK _ _ ?_
   clear hKK KK
   refine m_cutH [] [(8, .box 32 [.own 100 (l ++ [(⟨x.id, 1, 0, 0⟩ : Df)]).length]), (100, .row 45 4 (l ++ [(⟨x.id, 1, 0, 0⟩ : Df)]).length (dfR (l ++ [(⟨x.id, 1, 0, 0⟩ : Df)])))] ?_ ?_
   · simp only [List.forall_mem_cons, List.forall_mem_nil, go_sem, reduceIte, Nat.reduceEqDiff, and_true]
     rw [List.length_append]
     exact ⟨objLe_refl _, objLe_rown rfl (dfR_app l [⟨x.id, 1, 0, 0⟩])⟩
   refine awp_ret ⟨rfl, [], trivial, .inl ⟨.tup [], by simp, CV.Sub.refl _, rfl, keepH_eq (l := [(8, .box 32 [.own 100 (l ++ [(⟨x.id, 1, 0, 0⟩ : Df)]).length]), (100, .row 45 4 (l ++ [(⟨x.id, 1, 0, 0⟩ : Df)]).length (dfR (l ++ [(⟨x.id, 1, 0, 0⟩ : Df)])))]) fun p hp => ?_⟩⟩
   simp only [List.mem_cons, List.not_mem_nil, or_false] at hp
   rcases hp with rfl | rfl <;> rfl
 · cases hc
theorem both_diff (l : List Df) (x y : It) (hl : l.length ≤ 900000) : AFun Tryz.prog 35 [.pim (itC x), .pim (itC y), .ptr 8 0] (outH l) fun out h' => out = .ret (.c (.tup [])) ∧ h' = outH (l ++ diffsF x y) := by
 refine afun_of Tryz.func35 rfl (by kernel_rfl) (by simp [Tryz.ntmps35]) (fo := [8, 100]) (fun o ho => ?_) ?_
 · exact Classical.byContradiction fun hm => ho ((outH_foot l).out o hm)
 have FF : True := trivial
 rw [Tryz.ntmps35]
 refine m_cut [(0, .pim (itC x)), (1, .pim (itC y)), (2, .ptr 8 0)] [(8, .box 32 [.own 100 l.length]), (100, .row 45 4 l.length (dfR l))] ?_
 refine awp_seq ?_
 refine awp_rseq (by decide) fun KK hKK => ?_
 refine m_move ?_
 first | refine m_ptrNil ?_ | refine m_bin ?_
 refine hKK _ _ ?_
 clear hKK KK
 refine m_cond (fun hc => ?_) (fun hc => ?_)
 · cases hc
 refine awp_skip ?_
 first | rw [thenQ_normal] | rw [blockQ_normal, thenQ_normal]
 refine awp_seq ?_
 refine awp_rseq (by decide) fun KK hKK => ?_
 refine m_move ?_
 first | refine m_ptrNil ?_ | refine m_bin ?_
 refine hKK _ _ ?_
 clear hKK KK
 refine m_cond (fun hc => ?_) (fun hc => ?_)
 · cases hc
 refine awp_skip ?_
 first | rw [thenQ_normal] | rw [blockQ_normal, thenQ_normal]
 refine m_cut [(0, .pim (itC x)), (1, .pim (itC y)), (2, .ptr 8 0)] [(8, .box 32 [.own 100 l.length]), (100, .row 45 4 l.length (dfR l))] ?_
 have c4 : differF (differF (differF (differF l x.id 2 x.rd y.rd) x.id 3 x.ed y.ed) x.id 4 x.tk y.tk) x.id 5 (bitI x.pt) (bitI y.pt) = l ++ diffsF x y := by
   simp only [differF_eq, diffsF_eq, List.append_assoc]
 have n1 := differ_len l x.id 2 x.rd y.rd
 have n2 := differ_len (differF l x.id 2 x.rd y.rd) x.id 3 x.ed y.ed
 have n3 := differ_len (differF (differF l x.id 2 x.rd y.rd) x.id 3 x.ed y.ed) x.id 4 x.tk y.tk
 refine awp_rseq_draw2 Tryz.mixed (by rfl) (by rfl) (by decide) (by kernel_rfl) (by kernel_rfl) (by decide) rfl (by kernel_rfl) (by kernel_rfl) fun KK hKK => ?_
 refine m_load ?_
 refine m_move ?_
 refine m_nil ?_
 refine m_field ?_
 refine m_load ?_
 refine m_move ?_
 refine m_nil ?_
 refine m_field ?_
 refine m_load ?_
 refine m_move ?_
 refine m_nil ?_
 refine m_field ?_
 refine m_load ?_
 refine hKK _ _ ?_
 clear hKK KK
 refine awpl_callI [100] ((differ_ok l x.id 2 x.rd y.rd (by omega)).mono fun out h1 q => CallI.of_eq q (by simp [AV.refsw, AV.ref1w]) (rowH_foot _) ?_) (by rfl) (by simp only [List.map, go_sem, reduceIte, Nat.reduceEqDiff, FF] <;> rfl) (rowH_foot _) (by simp only [List.forall_mem_cons, List.forall_mem_nil, go_sem, reduceIte, Nat.reduceEqDiff, FF]; all_goals ((repeat' apply And.intro) <;> first | trivial | rfl)) (by simp [AV.refsw, AV.ref1w, AV.ref0])
 dsimp only [updO, appL, id, rowH, outH]
 refine awpl_op (by rfl) (by rfl) ?_
 first | refine m_stPtr ?_ | refine m_stRp ?_
 refine run_nil ?_
 refine awpl_end ?_
 rw [thenQ_normal]
 generalize differF l x.id 2 x.rd y.rd = l1 at *
 refine m_cut [(0, .pim (itC x)), (1, .pim (itC y)), (2, .ptr 8 0)] [(8, .box 32 [.own 100 l1.length]), (100, .row 45 4 l1.length (dfR l1))] ?_
 refine awp_rseq_draw2 Tryz.mixed (by rfl) (by rfl) (by decide) (by kernel_rfl) (by kernel_rfl) (by decide) rfl (by kernel_rfl) (by kernel_rfl) fun KK hKK => ?_
 refine m_load ?_
 refine m_move ?_
 refine m_nil ?_
 refine m_field ?_
 refine m_load ?_
 refine m_move ?_
 refine m_nil ?_
 refine m_field ?_
 refine m_load ?_
 refine m_move ?_
 refine m_nil ?_
 refine m_field ?_
 refine m_load ?_
 refine hKK _ _ ?_
 clear hKK KK
 refine awpl_callI [100] ((differ_ok l1 x.id 3 x.ed y.ed (by omega)).mono fun out h1 q => CallI.of_eq q (by simp [AV.refsw, AV.ref1w]) (rowH_foot _) ?_) (by rfl) (by simp only [List.map, go_sem, reduceIte, Nat.reduceEqDiff, FF] <;> rfl) (rowH_foot _) (by simp only [List.forall_mem_cons, List.forall_mem_nil, go_sem, reduceIte, Nat.reduceEqDiff, FF]; all_goals ((repeat' apply And.intro) <;> first | trivial | rfl)) (by simp [AV.refsw, AV.ref1w, AV.ref0])
 dsimp only [updO, appL, id, rowH, outH]
 refine awpl_op (by rfl) (by rfl) ?_
 first | refine m_stPtr ?_ | refine m_stRp ?_
 refine run_nil ?_
 refine awpl_end ?_
 rw [thenQ_normal]
 generalize differF l1 x.id 3 x.ed y.ed = l2 at *
 refine m_cut [(0, .pim (itC x)), (1, .pim (itC y)), (2, .ptr 8 0)] [(8, .box 32 [.own 100 l2.length]), (100, .row 45 4 l2.length (dfR l2))] ?_
 refine awp_rseq_draw2 Tryz.mixed (by rfl) (by rfl) (by decide) (by kernel_rfl) (by kernel_rfl) (by decide) rfl (by kernel_rfl) (by kernel_rfl) fun KK hKK => ?_
 refine m_load ?_
 refine m_move ?_
 refine m_nil ?_
 refine m_field ?_
 refine m_load ?_
 refine m_move ?_
 refine m_nil ?_
 refine m_field ?_
 refine m_load ?_
 refine m_move ?_
 refine m_nil ?_
 refine m_field ?_
 refine m_load ?_
 refine hKK _ _ ?_
 clear hKK KK
 refine awpl_callI [100] ((differ_ok l2 x.id 4 x.tk y.tk (by omega)).mono fun out h1 q => CallI.of_eq q (by simp [AV.refsw, AV.ref1w]) (rowH_foot _) ?_) (by rfl) (by simp only [List.map, go_sem, reduceIte, Nat.reduceEqDiff, FF] <;> rfl) (rowH_foot _) (by simp only [List.forall_mem_cons, List.forall_mem_nil, go_sem, reduceIte, Nat.reduceEqDiff, FF]; all_goals ((repeat' apply And.intro) <;> first | trivial | rfl)) (by simp [AV.refsw, AV.ref1w, AV.ref0])
 dsimp only [updO, appL, id, rowH, outH]
 refine awpl_op (by rfl) (by rfl) ?_
 first | refine m_stPtr ?_ | refine m_stRp ?_
 refine run_nil ?_
 refine awpl_end ?_
 rw [thenQ_normal]
 generalize differF l2 x.id 4 x.tk y.tk = l3 at *
 refine m_cut [(0, .pim (itC x)), (1, .pim (itC y)), (2, .ptr 8 0)] [(8, .box 32 [.own 100 l3.length]), (100, .row 45 4 l3.length (dfR l3))] ?_
 refine awp_draw2 Tryz.mixed (by rfl) (by rfl) (by decide) (by kernel_rfl) (by kernel_rfl) (by decide) rfl (by kernel_rfl) (by kernel_rfl) fun KK hKK => ?_
 refine m_load ?_
 refine m_move ?_
 refine m_nil ?_
 refine m_field ?_
 refine m_load ?_
 refine m_move ?_
 refine m_nil ?_
 refine m_field ?_
 refine m_load ?_
 refine m_call (fun hG => num01_ok _) ?_
 refine m_move ?_
 refine m_nil ?_
 refine m_field ?_
 refine m_load ?_
 refine m_call (fun hG => num01_ok _) ?_
 refine hKK _ _ ?_
 clear hKK KK
 refine awpl_callI [100] ((differ_ok l3 x.id 5 (bitI x.pt) (bitI y.pt) (by omega)).mono fun out h1 q => CallI.of_eq q (by simp [AV.refsw, AV.ref1w]) (rowH_foot _) ?_) (by rfl) (by simp only [List.map, go_sem, reduceIte, Nat.reduceEqDiff, FF] <;> rfl) (rowH_foot _) (by simp only [List.forall_mem_cons, List.forall_mem_nil, go_sem, reduceIte, Nat.reduceEqDiff, FF]; all_goals ((repeat' apply And.intro) <;> first | trivial | rfl)) (by simp [AV.refsw, AV.ref1w, AV.ref0])
 dsimp only [updO, appL, id, rowH, outH]
 refine awpl_op (by rfl) (by rfl) ?_
 first | refine m_stPtr ?_ | refine m_stRp ?_
 refine run_nil ?_
 refine awpl_end ?_
 rw [c4]
 refine ⟨rfl, [], trivial, .inl ⟨.tup [], by simp, CV.Sub.refl _, rfl, keepH_eq (l := [(8, .box 32 [.own 100 (l ++ diffsF x y).length]), (100, .row 45 4 (l ++ diffsF x y).length (dfR (l ++ diffsF x y)))]) fun p hp => ?_⟩⟩
 simp only [List.mem_cons, List.not_mem_nil, or_false] at hp
 rcases hp with rfl | rfl <;> rfl
end Go.Am
namespace Go.Am
open Go.Proofs
attribute [local go_sem ↓] ofL_cons ofH_cons upd_apply
set_option maxHeartbeats 2000000
set_option linter.unusedSimpArgs false
theorem diffs_len (x y : It) : (diffsF x y).length ≤ 4 := btwN_len x y 4
theorem merge_nn {a b : List It} {i k : Nat} (hi : i = a.length) (hk : k = b.length) : mergeF (a.drop i) (b.drop k) = [] := by
 rw [List.drop_of_length_le (by omega), List.drop_of_length_le (by omega), mergeF]
theorem merge_l {a b : List It} {i k : Nat} (hi : i < a.length) (hk : k = b.length) : mergeF (a.drop i) (b.drop k) = ⟨(a.getD i default).id, 1, 0, 0⟩ :: mergeF (a.drop (i + 1)) (b.drop k) := by
 rw [List.drop_of_length_le (l := b) (by omega), List.drop_eq_getElem_cons hi, mergeF, getD_lt hi]
theorem merge_r {a b : List It} {i k : Nat} (hi : i = a.length) (hk : k < b.length) : mergeF (a.drop i) (b.drop k) = ⟨(b.getD k default).id, 0, 0, 0⟩ :: mergeF (a.drop i) (b.drop (k + 1)) := by
 rw [List.drop_of_length_le (l := a) (by omega), List.drop_eq_getElem_cons hk, mergeF, getD_lt hk]
theorem merge_c {a b : List It} {i k : Nat} (hi : i < a.length) (hk : k < b.length) : mergeF (a.drop i) (b.drop k) = if lessS (a.getD i default).id (b.getD k default).id then ⟨(a.getD i default).id, 1, 0, 0⟩ :: mergeF (a.drop (i + 1)) (b.drop k) else if lessS (b.getD k default).id (a.getD i default).id then ⟨(b.getD k default).id, 0, 0, 0⟩ :: mergeF (a.drop i) (b.drop (k + 1)) else diffsF (a.getD i default) (b.getD k default) ++ mergeF (a.drop (i + 1)) (b.drop (k + 1)) := by
 rw [List.drop_eq_getElem_cons hi, List.drop_eq_getElem_cons hk, mergeF, getD_lt hi, getD_lt hk]
variable [Glb]
abbrev keyV : AV := .c (.raw (.func (.func 34) #[] #[]))
theorem merge_ok (a b : List It) (ha : a.length ≤ 1000) (hb : b.length ≤ 1000) : AFun Tryz.prog 33 [.c (itL a), .c (itL b), keyV, .fn 35 [.ptr 8 0]] (outH []) fun out h' => out = .ret (.c (.tup [])) ∧ h' = outH (mergeF a b) := by
 refine afun_of Tryz.func33 rfl (by kernel_rfl) (by simp [Tryz.ntmps33]) (fo := [8, 100]) (fun o ho => ?_) ?_
 · exact Classical.byContradiction fun hm => ho ((outH_foot []).out o hm)
 have FF : True := trivial
 rw [Tryz.ntmps33]
 refine m_cut [(0, .c (itL a)), (1, .c (itL b)), (2, keyV), (3, .fn 35 [.ptr 8 0])] [(8, .box 32 [.own 100 ([] : List Df).length]), (100, .row 45 4 ([] : List Df).length (dfR []))] ?_
 refine awp_rseq (by decide) fun KK hKK => ?_
 refine m_assign ?_
 refine m_assign ?_
 refine hKK _ _ ?_
 clear hKK KK
 refine awp_block ?_
 refine m_for (ι := Nat × Nat × List Df) (fun p => [(0, .c (itL a)), (1, .c (itL b)), (2, keyV), (3, .fn 35 [.ptr 8 0]), (8, .int p.1), (9, .int p.2.1)]) (fun p => [(8, .box 32 [.own 100 p.2.2.length]), (100, .row 45 4 p.2.2.length (dfR p.2.2))]) (fun p => (a.length - p.1) + (b.length - p.2.1)) (fun p => p.1 ≤ a.length ∧ p.2.1 ≤ b.length ∧ p.2.2.length ≤ 4 * (p.1 + p.2.1) ∧ p.2.2 ++ mergeF (a.drop p.1) (b.drop p.2.1) = mergeF a b) ((0, 0, [])) ?_ ?_
 · exact ⟨Nat.zero_le _, Nat.zero_le _, Nat.zero_le _, rfl⟩
 rintro ⟨i, k, out⟩ ⟨hi, hk, hlen, hres⟩
 dsimp only at hi hk hlen hres
 refine awp_seq ?_
 refine awp_rseq (by decide) fun KK hKK => ?_
 refine m_move ?_
 refine m_move ?_
 refine m_len ?_
 refine m_bin ?_
 refine m_move ?_
 refine g_move ?_
 refine g_move ?_
 refine g_len ?_
 refine g_bin ?_
 refine m_pick ?_
 refine hKK _ _ ?_
 clear hKK KK
 refine m_cond (fun hc => ?_) (fun hc => ?_)
 · simp only [Bool.or_eq_true, decide_eq_true_eq] at hc
   have wi : IntKind.i64.wrap ((i : Int) + 1) = ((i + 1 : Nat) : Int) := wrap_in (by omega)
   have wk : IntKind.i64.wrap ((k : Int) + 1) = ((k + 1 : Nat) : Int) := wrap_in (by omega)
   refine awp_skip ?_
   first | rw [thenQ_normal] | rw [blockQ_normal, thenQ_normal]
   refine awp_block (awp_block ?_)
   by_cases hk1 : k = b.length
   · have hi1 : i < a.length := by omega
     have eA := itL_get hi1
     have hB : ((k : Int) == (b.length : Int)) = true := by simp only [beq_iff_eq]; omega
     rw [merge_l hi1 hk1] at hres
     generalize a.getD i default = x at *
     clear hc
     refine awp_rseq_draw Tryz.mixed (by decide) (by kernel_rfl) fun KK hKK => ?_
     refine st0 rfl (k_move (by simp only [go_sem, reduceIte, Nat.reduceEqDiff, FF, hB] <;> rfl)) ?_
     refine st0 rfl (k_move (by simp only [go_sem, reduceIte, Nat.reduceEqDiff, FF, hB] <;> rfl)) ?_
     refine st1 rfl (k_len (by simp only [go_sem, reduceIte, Nat.reduceEqDiff, FF, hB] <;> rfl) (by intro hG; simp only [go_sem]) (by first | exact nm_im (by simp only [go_sem] <;> rfl) | exact nm_own (by simp only [go_sem] <;> rfl) (by simp only [go_sem, reduceIte, Nat.reduceEqDiff, FF, hB] <;> rfl) (by intro hG; (repeat' apply And.intro) <;> first | rfl | omega | (dsimp only; omega) | (simp; done)) | exact nm_emp (by simp only [go_sem] <;> rfl) | exact nm_osub (by simp only [go_sem] <;> rfl) (by simp only [go_sem, reduceIte, Nat.reduceEqDiff, FF, hB] <;> rfl) (by intro hG; (repeat' apply And.intro) <;> first | rfl | omega | (dsimp only; omega) | (simp; done)) | exact nm_str (by simp only [go_sem] <;> rfl))) ?_
     refine st0 rfl (k_bin (by simp only [go_sem, reduceIte, Nat.reduceEqDiff, FF, hB] <;> rfl) (by simp only [go_sem, reduceIte, Nat.reduceEqDiff, FF, hB] <;> rfl) (by rfl) (by rfl) (by simp only [go_sem, reduceIte, Nat.reduceEqDiff, FF, hB] <;> rfl) (by intro hG; simp only [go_sem])) ?_
     refine st0 rfl (k_move (by simp only [go_sem, reduceIte, Nat.reduceEqDiff, FF, hB] <;> rfl)) ?_
     refine sgF rfl (by simp only [go_sem, reduceIte, Nat.reduceEqDiff, FF, hB] <;> rfl) (by rfl) (by simp only [go_sem, reduceIte, Nat.reduceEqDiff, FF, hB, hB] <;> rfl) ?_
     refine sgF rfl (by simp only [go_sem, reduceIte, Nat.reduceEqDiff, FF, hB] <;> rfl) (by rfl) (by simp only [go_sem, reduceIte, Nat.reduceEqDiff, FF, hB, hB] <;> rfl) ?_
     refine sgF rfl (by simp only [go_sem, reduceIte, Nat.reduceEqDiff, FF, hB] <;> rfl) (by rfl) (by simp only [go_sem, reduceIte, Nat.reduceEqDiff, FF, hB, hB] <;> rfl) ?_
     refine sgF rfl (by simp only [go_sem, reduceIte, Nat.reduceEqDiff, FF, hB] <;> rfl) (by rfl) (by simp only [go_sem, reduceIte, Nat.reduceEqDiff, FF, hB, hB] <;> rfl) ?_
     refine sgF rfl (by simp only [go_sem, reduceIte, Nat.reduceEqDiff, FF, hB] <;> rfl) (by rfl) (by simp only [go_sem, reduceIte, Nat.reduceEqDiff, FF, hB, hB] <;> rfl) ?_
     refine sgF rfl (by simp only [go_sem, reduceIte, Nat.reduceEqDiff, FF, hB] <;> rfl) (by rfl) (by simp only [go_sem, reduceIte, Nat.reduceEqDiff, FF, hB, hB] <;> rfl) ?_
     refine sgF rfl (by simp only [go_sem, reduceIte, Nat.reduceEqDiff, FF, hB] <;> rfl) (by rfl) (by simp only [go_sem, reduceIte, Nat.reduceEqDiff, FF, hB, hB] <;> rfl) ?_
     refine sgF rfl (by simp only [go_sem, reduceIte, Nat.reduceEqDiff, FF, hB] <;> rfl) (by rfl) (by simp only [go_sem, reduceIte, Nat.reduceEqDiff, FF, hB, hB] <;> rfl) ?_
     refine sgF rfl (by simp only [go_sem, reduceIte, Nat.reduceEqDiff, FF, hB] <;> rfl) (by rfl) (by simp only [go_sem, reduceIte, Nat.reduceEqDiff, FF, hB, hB] <;> rfl) ?_
     refine sgF rfl (by simp only [go_sem, reduceIte, Nat.reduceEqDiff, FF, hB] <;> rfl) (by rfl) (by simp only [go_sem, reduceIte, Nat.reduceEqDiff, FF, hB, hB] <;> rfl) ?_
     refine sgF rfl (by simp only [go_sem, reduceIte, Nat.reduceEqDiff, FF, hB] <;> rfl) (by rfl) (by simp only [go_sem, reduceIte, Nat.reduceEqDiff, FF, hB, hB] <;> rfl) ?_
     refine sgF rfl (by simp only [go_sem, reduceIte, Nat.reduceEqDiff, FF, hB] <;> rfl) (by rfl) (by simp only [go_sem, reduceIte, Nat.reduceEqDiff, FF, hB, hB] <;> rfl) ?_
     refine sgF rfl (by simp only [go_sem, reduceIte, Nat.reduceEqDiff, FF, hB] <;> rfl) (by rfl) (by simp only [go_sem, reduceIte, Nat.reduceEqDiff, FF, hB, hB] <;> rfl) ?_
     refine sgF rfl (by simp only [go_sem, reduceIte, Nat.reduceEqDiff, FF, hB] <;> rfl) (by rfl) (by simp only [go_sem, reduceIte, Nat.reduceEqDiff, FF, hB, hB] <;> rfl) ?_
     refine sgF rfl (by simp only [go_sem, reduceIte, Nat.reduceEqDiff, FF, hB] <;> rfl) (by rfl) (by simp only [go_sem, reduceIte, Nat.reduceEqDiff, FF, hB, hB] <;> rfl) ?_
     refine sgF rfl (by simp only [go_sem, reduceIte, Nat.reduceEqDiff, FF, hB] <;> rfl) (by rfl) (by simp only [go_sem, reduceIte, Nat.reduceEqDiff, FF, hB, hB] <;> rfl) ?_
     refine sgF rfl (by simp only [go_sem, reduceIte, Nat.reduceEqDiff, FF, hB] <;> rfl) (by rfl) (by simp only [go_sem, reduceIte, Nat.reduceEqDiff, FF, hB, hB] <;> rfl) ?_
     refine sgF rfl (by simp only [go_sem, reduceIte, Nat.reduceEqDiff, FF, hB] <;> rfl) (by rfl) (by simp only [go_sem, reduceIte, Nat.reduceEqDiff, FF, hB, hB] <;> rfl) ?_
     refine sgF rfl (by simp only [go_sem, reduceIte, Nat.reduceEqDiff, FF, hB] <;> rfl) (by rfl) (by simp only [go_sem, reduceIte, Nat.reduceEqDiff, FF, hB, hB] <;> rfl) ?_
     refine st0 rfl (k_pick (by simp only [go_sem, reduceIte, Nat.reduceEqDiff, FF, hB] <;> rfl) (by simp only [go_sem, reduceIte, Nat.reduceEqDiff, FF, hB] <;> rfl) (by simp only [go_sem, reduceIte, Nat.reduceEqDiff, FF, hB] <;> rfl) (by rfl) (by rfl) (by rfl) (by intro hG; first | (simp only [go_sem, reduceIte, Nat.reduceEqDiff, FF, hB, hB]; done) | (simp [go_sem]; done) | (simp [go_sem] at hG ⊢ <;> simp [hG] <;> (intros; simp_all))) (by first | (simp only [go_sem, reduceIte, Nat.reduceEqDiff, FF, hB] <;> rfl) | rfl)) ?_
     refine st0 rfl (k_assign (by simp only [go_sem, reduceIte, Nat.reduceEqDiff, FF, hB] <;> rfl)) ?_
     refine hKK _ _ ?_
     clear hKK KK
     refine awp_cond (by simp only [go_sem, reduceIte, Nat.reduceEqDiff, FF, hB] <;> rfl) (fun hc => ?_) (fun hc => ?_)
     · have FF := And.intro eA FF
       refine awp_seqL ?_
       refine awpl_op (by rfl) (by rfl) ?_
       refine m_move ?_
       refine run_nil ?_
       refine awpl_op (by rfl) (by rfl) ?_
       refine m_move ?_
       refine run_nil ?_
       refine awpl_op (by rfl) (by rfl) ?_
       refine m_move ?_
       refine run_nil ?_
       refine awpl_op (by rfl) (by rfl) ?_
       first | refine m_index ?_ | refine m_idxA ?_
       refine run_nil ?_
       refine awpl_callVI [8, 100] ((both_rem out x (by omega)).mono fun o1 h1 q => CallI.of_eq q (by simp [AV.refsw, AV.ref1w]) (outH_foot _) ?_) (by simp only [go_sem, reduceIte, Nat.reduceEqDiff, FF] <;> rfl) (by rfl) (by simp only [List.map, List.cons_append, List.nil_append, go_sem, reduceIte, Nat.reduceEqDiff, FF] <;> rfl) (outH_foot _) (by simp only [List.forall_mem_cons, List.forall_mem_nil, go_sem, reduceIte, Nat.reduceEqDiff, FF]; all_goals ((repeat' apply And.intro) <;> first | trivial | rfl)) (by simp [AV.refsw, AV.ref1w, AV.ref0])
       refine awpl_end ?_
       rw [thenQ_normal]
       dsimp only [updO, appL, id]
       have FF := And.intro wi FF
       refine awp_rlast (by decide) fun KK hKK => ?_
       refine m_move ?_
       refine m_bin ?_
       refine m_assign ?_
       refine hKK _ _ ?_
       clear hKK KK
       simp only [blockQ_normal, thenQ_normal]
       try rw [thenQ_normal]
       refine m_next ((i + 1, k, out ++ [⟨x.id, 1, 0, 0⟩])) ?_ ?_
       · refine ⟨hi1, hk, by simp only [List.length_append, List.length_cons, List.length_nil]; omega, by rw [← hres]; simp⟩
       · dsimp only
         omega
     · cases hc
   · by_cases hi1 : i = a.length
     · have hk2 : k < b.length := by omega
       have eB := itL_get hk2
       have hB : ((k : Int) == (b.length : Int)) = false := by rw [beq_eq_false_iff_ne]; omega
       have hA : decide ((i : Int) < (a.length : Int)) = false := by rw [decide_eq_false_iff_not]; omega
       have hA2 : ((i : Int) == (a.length : Int)) = true := by simp only [beq_iff_eq]; omega
       rw [merge_r hi1 hk2] at hres
       generalize b.getD k default = y at *
       clear hc
       refine awp_rseq_draw Tryz.mixed (by decide) (by kernel_rfl) fun KK hKK => ?_
       refine st0 rfl (k_move (by simp only [go_sem, reduceIte, Nat.reduceEqDiff, FF, hB, hA] <;> rfl)) ?_
       refine st0 rfl (k_move (by simp only [go_sem, reduceIte, Nat.reduceEqDiff, FF, hB, hA] <;> rfl)) ?_
       refine st1 rfl (k_len (by simp only [go_sem, reduceIte, Nat.reduceEqDiff, FF, hB, hA] <;> rfl) (by intro hG; simp only [go_sem]) (by first | exact nm_im (by simp only [go_sem] <;> rfl) | exact nm_own (by simp only [go_sem] <;> rfl) (by simp only [go_sem, reduceIte, Nat.reduceEqDiff, FF, hB, hA] <;> rfl) (by intro hG; (repeat' apply And.intro) <;> first | rfl | omega | (dsimp only; omega) | (simp; done)) | exact nm_emp (by simp only [go_sem] <;> rfl) | exact nm_osub (by simp only [go_sem] <;> rfl) (by simp only [go_sem, reduceIte, Nat.reduceEqDiff, FF, hB, hA] <;> rfl) (by intro hG; (repeat' apply And.intro) <;> first | rfl | omega | (dsimp only; omega) | (simp; done)) | exact nm_str (by simp only [go_sem] <;> rfl))) ?_
       refine st0 rfl (k_bin (by simp only [go_sem, reduceIte, Nat.reduceEqDiff, FF, hB, hA] <;> rfl) (by simp only [go_sem, reduceIte, Nat.reduceEqDiff, FF, hB, hA] <;> rfl) (by rfl) (by rfl) (by simp only [go_sem, reduceIte, Nat.reduceEqDiff, FF, hB, hA] <;> rfl) (by intro hG; simp only [go_sem])) ?_
       refine st0 rfl (k_move (by simp only [go_sem, reduceIte, Nat.reduceEqDiff, FF, hB, hA] <;> rfl)) ?_
       refine sg0 rfl rfl (by simp only [go_sem, reduceIte, Nat.reduceEqDiff, FF, hB, hA] <;> rfl) (by rfl) (by simp only [go_sem, reduceIte, Nat.reduceEqDiff, FF, hB, hA] <;> rfl) (k_move (by simp only [go_sem, reduceIte, Nat.reduceEqDiff, FF, hB, hA] <;> rfl)) ?_
       refine sg0 rfl rfl (by simp only [go_sem, reduceIte, Nat.reduceEqDiff, FF, hB, hA] <;> rfl) (by rfl) (by simp only [go_sem, reduceIte, Nat.reduceEqDiff, FF, hB, hA] <;> rfl) (k_move (by simp only [go_sem, reduceIte, Nat.reduceEqDiff, FF, hB, hA] <;> rfl)) ?_
       refine sg1 rfl rfl (by simp only [go_sem, reduceIte, Nat.reduceEqDiff, FF, hB, hA] <;> rfl) (by rfl) (by simp only [go_sem, reduceIte, Nat.reduceEqDiff, FF, hB, hA] <;> rfl) (k_len (by simp only [go_sem, reduceIte, Nat.reduceEqDiff, FF, hB, hA] <;> rfl) (by intro hG; simp only [go_sem, hG]) (by first | exact nm_im (by simp only [go_sem] <;> rfl) | exact nm_own (by simp only [go_sem] <;> rfl) (by simp only [go_sem, reduceIte, Nat.reduceEqDiff, FF, hB, hA] <;> rfl) (by intro hG; (repeat' apply And.intro) <;> first | rfl | omega | (simp only [Bool.not_eq_true', Bool.or_eq_false_iff, Bool.and_eq_true, decide_eq_true_eq, decide_eq_false_iff_not, beq_iff_eq] at hG; omega) | (dsimp only; omega) | (simp; done)) | exact nm_emp (by simp only [go_sem] <;> rfl) | exact nm_osub (by simp only [go_sem] <;> rfl) (by simp only [go_sem, reduceIte, Nat.reduceEqDiff, FF, hB, hA] <;> rfl) (by intro hG; (repeat' apply And.intro) <;> first | rfl | omega | (simp only [Bool.not_eq_true', Bool.or_eq_false_iff, Bool.and_eq_true, decide_eq_true_eq, decide_eq_false_iff_not, beq_iff_eq] at hG; omega) | (dsimp only; omega) | (simp; done)) | exact nm_str (by simp only [go_sem] <;> rfl))) ?_
       refine sg0 rfl rfl (by simp only [go_sem, reduceIte, Nat.reduceEqDiff, FF, hB, hA] <;> rfl) (by rfl) (by simp only [go_sem, reduceIte, Nat.reduceEqDiff, FF, hB, hA] <;> rfl) (k_bin (by simp only [go_sem, reduceIte, Nat.reduceEqDiff, FF, hB, hA] <;> rfl) (by simp only [go_sem, reduceIte, Nat.reduceEqDiff, FF, hB, hA] <;> rfl) (by rfl) (by rfl) (by simp only [go_sem, reduceIte, Nat.reduceEqDiff, FF, hB, hA] <;> rfl) (by intro hG; simp only [go_sem, hG])) ?_
       refine sg0 rfl rfl (by simp only [go_sem, reduceIte, Nat.reduceEqDiff, FF, hB, hA] <;> rfl) (by rfl) (by simp only [go_sem, reduceIte, Nat.reduceEqDiff, FF, hB, hA] <;> rfl) (k_move (by simp only [go_sem, reduceIte, Nat.reduceEqDiff, FF, hB, hA] <;> rfl)) ?_
       refine sgF rfl (by simp only [go_sem, reduceIte, Nat.reduceEqDiff, FF, hB, hA] <;> rfl) (by rfl) (by simp only [go_sem, reduceIte, Nat.reduceEqDiff, FF, hB, hA, hA] <;> rfl) ?_
       refine sgF rfl (by simp only [go_sem, reduceIte, Nat.reduceEqDiff, FF, hB, hA] <;> rfl) (by rfl) (by simp only [go_sem, reduceIte, Nat.reduceEqDiff, FF, hB, hA, hA] <;> rfl) ?_
       refine sgF rfl (by simp only [go_sem, reduceIte, Nat.reduceEqDiff, FF, hB, hA] <;> rfl) (by rfl) (by simp only [go_sem, reduceIte, Nat.reduceEqDiff, FF, hB, hA, hA] <;> rfl) ?_
       refine sgF rfl (by simp only [go_sem, reduceIte, Nat.reduceEqDiff, FF, hB, hA] <;> rfl) (by rfl) (by simp only [go_sem, reduceIte, Nat.reduceEqDiff, FF, hB, hA, hA] <;> rfl) ?_
       refine sgF rfl (by simp only [go_sem, reduceIte, Nat.reduceEqDiff, FF, hB, hA] <;> rfl) (by rfl) (by simp only [go_sem, reduceIte, Nat.reduceEqDiff, FF, hB, hA, hA] <;> rfl) ?_
       refine sgF rfl (by simp only [go_sem, reduceIte, Nat.reduceEqDiff, FF, hB, hA] <;> rfl) (by rfl) (by simp only [go_sem, reduceIte, Nat.reduceEqDiff, FF, hB, hA, hA] <;> rfl) ?_
       refine sgF rfl (by simp only [go_sem, reduceIte, Nat.reduceEqDiff, FF, hB, hA] <;> rfl) (by rfl) (by simp only [go_sem, reduceIte, Nat.reduceEqDiff, FF, hB, hA, hA] <;> rfl) ?_
       refine sgF rfl (by simp only [go_sem, reduceIte, Nat.reduceEqDiff, FF, hB, hA] <;> rfl) (by rfl) (by simp only [go_sem, reduceIte, Nat.reduceEqDiff, FF, hB, hA, hA] <;> rfl) ?_
       refine sgF rfl (by simp only [go_sem, reduceIte, Nat.reduceEqDiff, FF, hB, hA] <;> rfl) (by rfl) (by simp only [go_sem, reduceIte, Nat.reduceEqDiff, FF, hB, hA, hA] <;> rfl) ?_
       refine sgF rfl (by simp only [go_sem, reduceIte, Nat.reduceEqDiff, FF, hB, hA] <;> rfl) (by rfl) (by simp only [go_sem, reduceIte, Nat.reduceEqDiff, FF, hB, hA, hA] <;> rfl) ?_
       refine sgF rfl (by simp only [go_sem, reduceIte, Nat.reduceEqDiff, FF, hB, hA] <;> rfl) (by rfl) (by simp only [go_sem, reduceIte, Nat.reduceEqDiff, FF, hB, hA, hA] <;> rfl) ?_
       refine sgF rfl (by simp only [go_sem, reduceIte, Nat.reduceEqDiff, FF, hB, hA] <;> rfl) (by rfl) (by simp only [go_sem, reduceIte, Nat.reduceEqDiff, FF, hB, hA, hA] <;> rfl) ?_
       refine sgF rfl (by simp only [go_sem, reduceIte, Nat.reduceEqDiff, FF, hB, hA] <;> rfl) (by rfl) (by simp only [go_sem, reduceIte, Nat.reduceEqDiff, FF, hB, hA, hA] <;> rfl) ?_
       refine sg0 rfl rfl (by simp only [go_sem, reduceIte, Nat.reduceEqDiff, FF, hB, hA] <;> rfl) (by rfl) (by simp only [go_sem, reduceIte, Nat.reduceEqDiff, FF, hB, hA] <;> rfl) (k_pick (by simp only [go_sem, reduceIte, Nat.reduceEqDiff, FF, hB, hA] <;> rfl) (by simp only [go_sem, reduceIte, Nat.reduceEqDiff, FF, hB, hA] <;> rfl) (by simp only [go_sem, reduceIte, Nat.reduceEqDiff, FF, hB, hA] <;> rfl) (by rfl) (by rfl) (by rfl) (by intro hG; first | (simp only [go_sem, reduceIte, Nat.reduceEqDiff, FF, hB, hA, hA]; done) | (simp [go_sem]; done) | (simp [go_sem] at hG ⊢ <;> simp [hG] <;> (intros; simp_all))) (by first | (simp only [go_sem, reduceIte, Nat.reduceEqDiff, FF, hB, hA] <;> rfl) | rfl)) ?_
       refine st0 rfl (k_pick (by simp only [go_sem, reduceIte, Nat.reduceEqDiff, FF, hB, hA] <;> rfl) (by simp only [go_sem, reduceIte, Nat.reduceEqDiff, FF, hB, hA] <;> rfl) (by simp only [go_sem, reduceIte, Nat.reduceEqDiff, FF, hB, hA] <;> rfl) (by rfl) (by rfl) (by rfl) (by intro hG; first | (simp only [go_sem, reduceIte, Nat.reduceEqDiff, FF, hB, hA, hA]; done) | (simp [go_sem]; done) | (simp [go_sem] at hG ⊢ <;> simp [hG] <;> (intros; simp_all))) (by first | (simp only [go_sem, reduceIte, Nat.reduceEqDiff, FF, hB, hA] <;> rfl) | rfl)) ?_
       refine st0 rfl (k_assign (by simp only [go_sem, reduceIte, Nat.reduceEqDiff, FF, hB, hA] <;> rfl)) ?_
       refine hKK _ _ ?_
       clear hKK KK
       refine awp_cond (by simp only [go_sem, reduceIte, Nat.reduceEqDiff, FF, hB, hA] <;> rfl) (fun hc => ?_) (fun hc => ?_)
       · cases hc
       clear hc
       refine awp_rseq_draw Tryz.mixed (by decide) (by kernel_rfl) fun KK hKK => ?_
       refine st0 rfl (k_move (by simp only [go_sem, reduceIte, Nat.reduceEqDiff, FF, hA2] <;> rfl)) ?_
       refine st0 rfl (k_move (by simp only [go_sem, reduceIte, Nat.reduceEqDiff, FF, hA2] <;> rfl)) ?_
       refine st1 rfl (k_len (by simp only [go_sem, reduceIte, Nat.reduceEqDiff, FF, hA2] <;> rfl) (by intro hG; simp only [go_sem]) (by first | exact nm_im (by simp only [go_sem] <;> rfl) | exact nm_own (by simp only [go_sem] <;> rfl) (by simp only [go_sem, reduceIte, Nat.reduceEqDiff, FF, hA2] <;> rfl) (by intro hG; (repeat' apply And.intro) <;> first | rfl | omega | (dsimp only; omega) | (simp; done)) | exact nm_emp (by simp only [go_sem] <;> rfl) | exact nm_osub (by simp only [go_sem] <;> rfl) (by simp only [go_sem, reduceIte, Nat.reduceEqDiff, FF, hA2] <;> rfl) (by intro hG; (repeat' apply And.intro) <;> first | rfl | omega | (dsimp only; omega) | (simp; done)) | exact nm_str (by simp only [go_sem] <;> rfl))) ?_
       refine st0 rfl (k_bin (by simp only [go_sem, reduceIte, Nat.reduceEqDiff, FF, hA2] <;> rfl) (by simp only [go_sem, reduceIte, Nat.reduceEqDiff, FF, hA2] <;> rfl) (by rfl) (by rfl) (by simp only [go_sem, reduceIte, Nat.reduceEqDiff, FF, hA2] <;> rfl) (by intro hG; simp only [go_sem])) ?_
       refine st0 rfl (k_move (by simp only [go_sem, reduceIte, Nat.reduceEqDiff, FF, hA2] <;> rfl)) ?_
       refine sgF rfl (by simp only [go_sem, reduceIte, Nat.reduceEqDiff, FF, hA2] <;> rfl) (by rfl) (by simp only [go_sem, reduceIte, Nat.reduceEqDiff, FF, hA2, hA2] <;> rfl) ?_
       refine sgF rfl (by simp only [go_sem, reduceIte, Nat.reduceEqDiff, FF, hA2] <;> rfl) (by rfl) (by simp only [go_sem, reduceIte, Nat.reduceEqDiff, FF, hA2, hA2] <;> rfl) ?_
       refine sgF rfl (by simp only [go_sem, reduceIte, Nat.reduceEqDiff, FF, hA2] <;> rfl) (by rfl) (by simp only [go_sem, reduceIte, Nat.reduceEqDiff, FF, hA2, hA2] <;> rfl) ?_
       refine sgF rfl (by simp only [go_sem, reduceIte, Nat.reduceEqDiff, FF, hA2] <;> rfl) (by rfl) (by simp only [go_sem, reduceIte, Nat.reduceEqDiff, FF, hA2, hA2] <;> rfl) ?_
       refine sgF rfl (by simp only [go_sem, reduceIte, Nat.reduceEqDiff, FF, hA2] <;> rfl) (by rfl) (by simp only [go_sem, reduceIte, Nat.reduceEqDiff, FF, hA2, hA2] <;> rfl) ?_
       refine sgF rfl (by simp only [go_sem, reduceIte, Nat.reduceEqDiff, FF, hA2] <;> rfl) (by rfl) (by simp only [go_sem, reduceIte, Nat.reduceEqDiff, FF, hA2, hA2] <;> rfl) ?_
       refine sgF rfl (by simp only [go_sem, reduceIte, Nat.reduceEqDiff, FF, hA2] <;> rfl) (by rfl) (by simp only [go_sem, reduceIte, Nat.reduceEqDiff, FF, hA2, hA2] <;> rfl) ?_
       refine sgF rfl (by simp only [go_sem, reduceIte, Nat.reduceEqDiff, FF, hA2] <;> rfl) (by rfl) (by simp only [go_sem, reduceIte, Nat.reduceEqDiff, FF, hA2, hA2] <;> rfl) ?_
       refine sgF rfl (by simp only [go_sem, reduceIte, Nat.reduceEqDiff, FF, hA2] <;> rfl) (by rfl) (by simp only [go_sem, reduceIte, Nat.reduceEqDiff, FF, hA2, hA2] <;> rfl) ?_
       refine sgF rfl (by simp only [go_sem, reduceIte, Nat.reduceEqDiff, FF, hA2] <;> rfl) (by rfl) (by simp only [go_sem, reduceIte, Nat.reduceEqDiff, FF, hA2, hA2] <;> rfl) ?_
       refine sgF rfl (by simp only [go_sem, reduceIte, Nat.reduceEqDiff, FF, hA2] <;> rfl) (by rfl) (by simp only [go_sem, reduceIte, Nat.reduceEqDiff, FF, hA2, hA2] <;> rfl) ?_
       refine sgF rfl (by simp only [go_sem, reduceIte, Nat.reduceEqDiff, FF, hA2] <;> rfl) (by rfl) (by simp only [go_sem, reduceIte, Nat.reduceEqDiff, FF, hA2, hA2] <;> rfl) ?_
       refine sgF rfl (by simp only [go_sem, reduceIte, Nat.reduceEqDiff, FF, hA2] <;> rfl) (by rfl) (by simp only [go_sem, reduceIte, Nat.reduceEqDiff, FF, hA2, hA2] <;> rfl) ?_
       refine st0 rfl (k_pick (by simp only [go_sem, reduceIte, Nat.reduceEqDiff, FF, hA2] <;> rfl) (by simp only [go_sem, reduceIte, Nat.reduceEqDiff, FF, hA2] <;> rfl) (by simp only [go_sem, reduceIte, Nat.reduceEqDiff, FF, hA2] <;> rfl) (by rfl) (by rfl) (by rfl) (by intro hG; first | (simp only [go_sem, reduceIte, Nat.reduceEqDiff, FF, hA2, hA2]; done) | (simp [go_sem]; done) | (simp [go_sem] at hG ⊢ <;> simp [hG] <;> (intros; simp_all))) (by first | (simp only [go_sem, reduceIte, Nat.reduceEqDiff, FF, hA2] <;> rfl) | rfl)) ?_
       refine st0 rfl (k_assign (by simp only [go_sem, reduceIte, Nat.reduceEqDiff, FF, hA2] <;> rfl)) ?_
       refine hKK _ _ ?_
       clear hKK KK
       refine awp_cond (by simp only [go_sem, reduceIte, Nat.reduceEqDiff, FF, hA2] <;> rfl) (fun hc => ?_) (fun hc => ?_)
       · have FF := And.intro eB FF
         refine awp_seqL ?_
         refine awpl_op (by rfl) (by rfl) ?_
         refine m_move ?_
         refine run_nil ?_
         refine awpl_op (by rfl) (by rfl) ?_
         refine m_move ?_
         refine run_nil ?_
         refine awpl_op (by rfl) (by rfl) ?_
         refine m_move ?_
         refine run_nil ?_
         refine awpl_op (by rfl) (by rfl) ?_
         first | refine m_index ?_ | refine m_idxA ?_
         refine run_nil ?_
         refine awpl_callVI [8, 100] ((both_add out y (by omega)).mono fun o1 h1 q => CallI.of_eq q (by simp [AV.refsw, AV.ref1w]) (outH_foot _) ?_) (by simp only [go_sem, reduceIte, Nat.reduceEqDiff, FF] <;> rfl) (by rfl) (by simp only [List.map, List.cons_append, List.nil_append, go_sem, reduceIte, Nat.reduceEqDiff, FF] <;> rfl) (outH_foot _) (by simp only [List.forall_mem_cons, List.forall_mem_nil, go_sem, reduceIte, Nat.reduceEqDiff, FF]; all_goals ((repeat' apply And.intro) <;> first | trivial | rfl)) (by simp [AV.refsw, AV.ref1w, AV.ref0])
         refine awpl_end ?_
         rw [thenQ_normal]
         dsimp only [updO, appL, id]
         have FF := And.intro wk FF
         refine awp_rlast (by decide) fun KK hKK => ?_
         refine m_move ?_
         refine m_bin ?_
         refine m_assign ?_
         refine hKK _ _ ?_
         clear hKK KK
         simp only [blockQ_normal, thenQ_normal]
         try rw [thenQ_normal]
         refine m_next ((i, k + 1, out ++ [⟨y.id, 0, 0, 0⟩])) ?_ ?_
         · refine ⟨hi, hk2, by simp only [List.length_append, List.length_cons, List.length_nil]; omega, by rw [← hres]; simp⟩
         · dsimp only
           omega
       · cases hc
     · have hi2 : i < a.length := by omega
       have hk2 : k < b.length := by omega
       have eA := itL_get hi2
       have eB := itL_get hk2
       have hB : ((k : Int) == (b.length : Int)) = false := by rw [beq_eq_false_iff_ne]; omega
       have hA : decide ((i : Int) < (a.length : Int)) = true := by rw [decide_eq_true_eq]; omega
       have hA2 : ((i : Int) == (a.length : Int)) = false := by rw [beq_eq_false_iff_ne]; omega
       rw [merge_c hi2 hk2] at hres
       have dl := diffs_len (a.getD i default) (b.getD k default)
       generalize a.getD i default = x at *
       generalize b.getD k default = y at *
       clear hc
       have FF := And.intro hB (And.intro hA (And.intro eA (And.intro eB FF)))
       refine awp_rseq_draw Tryz.mixed (by decide) (by kernel_rfl) fun KK hKK => ?_
       refine m_move ?_
       refine m_move ?_
       refine m_len ?_
       refine m_bin ?_
       refine m_move ?_
       refine g_move ?_
       refine g_move ?_
       refine g_len ?_
       refine g_bin ?_
       refine g_move ?_
       refine g_move ?_
       refine g_move ?_
       refine g_move ?_
       first | refine g_index ?_ | refine g_idxA ?_
       refine g_load ?_
       refine g_callV (fun hG => key_ok _) ?_
       refine g_move ?_
       refine g_move ?_
       refine g_move ?_
       first | refine g_index ?_ | refine g_idxA ?_
       refine g_load ?_
       refine g_callV (fun hG => key_ok _) ?_
       refine g_bin ?_
       refine g_pick ?_
       refine m_pick ?_
       refine m_assign ?_
       refine hKK _ _ ?_
       clear hKK KK
       refine m_cond (fun hc => ?_) (fun hc => ?_)
       · rw [lessT] at hc
         rw [if_pos hc] at hres
         have FF := And.intro eA FF
         refine awp_seqL ?_
         refine awpl_op (by rfl) (by rfl) ?_
         refine m_move ?_
         refine run_nil ?_
         refine awpl_op (by rfl) (by rfl) ?_
         refine m_move ?_
         refine run_nil ?_
         refine awpl_op (by rfl) (by rfl) ?_
         refine m_move ?_
         refine run_nil ?_
         refine awpl_op (by rfl) (by rfl) ?_
         first | refine m_index ?_ | refine m_idxA ?_
         refine run_nil ?_
         refine awpl_callVI [8, 100] ((both_rem out x (by omega)).mono fun o1 h1 q => CallI.of_eq q (by simp [AV.refsw, AV.ref1w]) (outH_foot _) ?_) (by simp only [go_sem, reduceIte, Nat.reduceEqDiff, FF] <;> rfl) (by rfl) (by simp only [List.map, List.cons_append, List.nil_append, go_sem, reduceIte, Nat.reduceEqDiff, FF] <;> rfl) (outH_foot _) (by simp only [List.forall_mem_cons, List.forall_mem_nil, go_sem, reduceIte, Nat.reduceEqDiff, FF]; all_goals ((repeat' apply And.intro) <;> first | trivial | rfl)) (by simp [AV.refsw, AV.ref1w, AV.ref0])
         refine awpl_end ?_
         rw [thenQ_normal]
         dsimp only [updO, appL, id]
         have FF := And.intro wi FF
         refine awp_rlast (by decide) fun KK hKK => ?_
         refine m_move ?_
         refine m_bin ?_
         refine m_assign ?_
         refine hKK _ _ ?_
         clear hKK KK
         simp only [blockQ_normal, thenQ_normal]
         try rw [thenQ_normal]
         refine m_next ((i + 1, k, out ++ [⟨x.id, 1, 0, 0⟩])) ?_ ?_
         · refine ⟨hi2, hk, by simp only [List.length_append, List.length_cons, List.length_nil]; omega, by rw [← hres]; simp⟩
         · dsimp only
           omega
       rw [lessT] at hc
       rw [if_neg (by rw [hc]; decide)] at hres
       clear hc
       have FF := And.intro hA2 (And.intro eA (And.intro eB FF))
       refine awp_rseq_draw Tryz.mixed (by decide) (by kernel_rfl) fun KK hKK => ?_
       refine m_move ?_
       refine m_move ?_
       refine m_len ?_
       refine m_bin ?_
       refine m_move ?_
       refine g_move ?_
       refine g_move ?_
       refine g_move ?_
       first | refine g_index ?_ | refine g_idxA ?_
       refine g_load ?_
       refine g_callV (fun hG => key_ok _) ?_
       refine g_move ?_
       refine g_move ?_
       refine g_move ?_
       first | refine g_index ?_ | refine g_idxA ?_
       refine g_load ?_
       refine g_callV (fun hG => key_ok _) ?_
       refine g_bin ?_
       refine m_pick ?_
       refine m_assign ?_
       refine hKK _ _ ?_
       clear hKK KK
       refine m_cond (fun hc => ?_) (fun hc => ?_)
       · rw [lessT] at hc
         rw [if_pos hc] at hres
         have FF := And.intro eB FF
         refine awp_seqL ?_
         refine awpl_op (by rfl) (by rfl) ?_
         refine m_move ?_
         refine run_nil ?_
         refine awpl_op (by rfl) (by rfl) ?_
         refine m_move ?_
         refine run_nil ?_
         refine awpl_op (by rfl) (by rfl) ?_
         refine m_move ?_
         refine run_nil ?_
         refine awpl_op (by rfl) (by rfl) ?_
         first | refine m_index ?_ | refine m_idxA ?_
         refine run_nil ?_
         refine awpl_callVI [8, 100] ((both_add out y (by omega)).mono fun o1 h1 q => CallI.of_eq q (by simp [AV.refsw, AV.ref1w]) (outH_foot _) ?_) (by simp only [go_sem, reduceIte, Nat.reduceEqDiff, FF] <;> rfl) (by rfl) (by simp only [List.map, List.cons_append, List.nil_append, go_sem, reduceIte, Nat.reduceEqDiff, FF] <;> rfl) (outH_foot _) (by simp only [List.forall_mem_cons, List.forall_mem_nil, go_sem, reduceIte, Nat.reduceEqDiff, FF]; all_goals ((repeat' apply And.intro) <;> first | trivial | rfl)) (by simp [AV.refsw, AV.ref1w, AV.ref0])
         refine awpl_end ?_
         rw [thenQ_normal]
         dsimp only [updO, appL, id]
         have FF := And.intro wk FF
         refine awp_rlast (by decide) fun KK hKK => ?_
         refine m_move ?_
         refine m_bin ?_
         refine m_assign ?_
         refine hKK _ _ ?_
         clear hKK KK
         simp only [blockQ_normal, thenQ_normal]
         try rw [thenQ_normal]
         refine m_next ((i, k + 1, out ++ [⟨y.id, 0, 0, 0⟩])) ?_ ?_
         · refine ⟨hi, hk2, by simp only [List.length_append, List.length_cons, List.length_nil]; omega, by rw [← hres]; simp⟩
         · dsimp only
           omega
       rw [lessT] at hc
       rw [if_neg (by rw [hc]; decide)] at hres
       clear hc
       have FF := And.intro eA (And.intro eB FF)
       refine awp_rseq_drawX Tryz.mixed (by rfl) (by decide) (by kernel_rfl) (by decide) (by kernel_rfl) fun KK hKK => ?_
       refine m_move ?_
       refine m_move ?_
       refine m_move ?_
       first | refine m_index ?_ | refine m_idxA ?_
       refine m_move ?_
       refine m_move ?_
       first | refine m_index ?_ | refine m_idxA ?_
       refine hKK _ _ ?_
       clear hKK KK
       refine awpl_callVI [8, 100] ((both_diff out x y (by omega)).mono fun o1 h1 q => CallI.of_eq q (by simp [AV.refsw, AV.ref1w]) (outH_foot _) ?_) (by simp only [go_sem, reduceIte, Nat.reduceEqDiff, FF] <;> rfl) (by rfl) (by simp only [List.map, List.cons_append, List.nil_append, go_sem, reduceIte, Nat.reduceEqDiff, FF] <;> rfl) (outH_foot _) (by simp only [List.forall_mem_cons, List.forall_mem_nil, go_sem, reduceIte, Nat.reduceEqDiff, FF]; all_goals ((repeat' apply And.intro) <;> first | trivial | rfl)) (by simp [AV.refsw, AV.ref1w, AV.ref0])
       refine awpl_end ?_
       rw [thenQ_normal]
       dsimp only [updO, appL, id]
       have FF := And.intro wi FF
       refine awp_rseq (by decide) fun KK hKK => ?_
       refine m_move ?_
       refine m_bin ?_
       refine m_assign ?_
       refine hKK _ _ ?_
       clear hKK KK
       have FF := And.intro wk FF
       refine awp_rlast (by decide) fun KK hKK => ?_
       refine m_move ?_
       refine m_bin ?_
       refine m_assign ?_
       refine hKK _ _ ?_
       clear hKK KK
       simp only [blockQ_normal, thenQ_normal]
       try rw [thenQ_normal]
       refine m_next ((i + 1, k + 1, out ++ diffsF x y)) ?_ ?_
       · refine ⟨hi2, hk2, by simp only [List.length_append]; omega, by rw [← hres]; simp⟩
       · dsimp only
         omega
 · refine awp_exit ?_
   simp only [thenQ_exit, blockQ_exit, reduceIte, Nat.reduceEqDiff]
   try rw [thenQ_normal]
   simp only [Bool.or_eq_false_iff, decide_eq_false_iff_not] at hc
   rw [merge_nn (by omega) (by omega), List.append_nil] at hres
   subst hres
   refine ⟨rfl, [], trivial, .inl ⟨.tup [], by simp, CV.Sub.refl _, rfl, keepH_eq (l := [(8, .box 32 [.own 100 (mergeF a b).length]), (100, .row 45 4 (mergeF a b).length (dfR (mergeF a b)))]) fun p hp => ?_⟩⟩
   simp only [List.mem_cons, List.not_mem_nil, or_false] at hp
   rcases hp with rfl | rfl <;> rfl
end Go.Am
namespace Go.Am
open Go.Proofs
attribute [local go_sem ↓] ofL_cons ofH_cons upd_apply
set_option maxHeartbeats 1000000
set_option linter.unusedSimpArgs false
def ordE : Option ByteArray → ByteArray → Bool
 | some q, x => !lessS q x
 | none, _ => false
def itemE (p : Option ByteArray) (x : It) : Int :=
 if !namedB x.id false then 1 else if ordE p x.id then 3 else if !countB x.rd || !countB x.ed || !countB x.tk then 2 else 0
def chkItems : Option ByteArray → List It → Int
 | _, [] => 0
 | p, x :: r => if itemE p x = 0 then chkItems (some x.id) r else itemE p x
def checkF (r : Rn) : Int := if !namedB r.name false then 1 else if (256 : Int) < r.items.length then 7 else chkItems none r.items
def prevI (l : List It) : Nat → Option ByteArray
 | 0 => none
 | i + 1 => some (l.getD i default).id
theorem chk_drop {l : List It} {i : Nat} (h : i < l.length) : chkItems (prevI l i) (l.drop i) = if itemE (prevI l i) (l.getD i default) = 0 then chkItems (prevI l (i + 1)) (l.drop (i + 1)) else itemE (prevI l i) (l.getD i default) := by
 rw [show prevI l (i + 1) = some (l.getD i default).id from rfl, List.drop_eq_getElem_cons h, chkItems, getD_lt h]
variable [Glb]
theorem check_ok (r : Rn) (hl : r.items.length ≤ 9223372036854775807) : APure Tryz.prog 13 [.agg (rnC r)] (.int (checkF r)) := by
 have FF : True := trivial
 refine apure_of Tryz.func13 rfl (by kernel_rfl) (by simp [Tryz.ntmps13]) ?_
 rw [Tryz.ntmps13]
 unfold checkF
 refine awp_rseq (by decide) fun KK hKK => ?_
 refine m_box ?_
 refine m_assign ?_
 refine hKK _ _ ?_
 clear hKK KK
 refine awp_seq ?_
 refine awp_rseq (by decide) fun KK hKK => ?_
 refine m_field ?_
 refine m_load ?_
 refine m_call (fun hG => tname_ok r.name) ?_
 refine m_not ?_
 refine hKK _ _ ?_
 clear hKK KK
 refine m_cond (fun hc => ?_) (fun hc => ?_)
 · rw [if_pos hc]
   refine awp_rseq (by decide) fun KK hKK => ?_
   refine m_assign ?_
   refine hKK _ _ ?_
   clear hKK KK
   refine awp_ret ⟨[_], ⟨⟨(by simp only [go_sem, reduceIte, Nat.reduceEqDiff, FF]), (by simp only [go_sem, reduceIte, Nat.reduceEqDiff, FF] <;> rfl)⟩, trivial⟩, ?_⟩
   simp only [go_sem, reduceIte, Nat.reduceEqDiff, FF, tupled]
   exact CV.Sub.refl _
 rw [if_neg (by rw [hc]; decide)]
 clear hc
 refine awp_skip ?_
 first | rw [thenQ_normal] | rw [blockQ_normal, thenQ_normal]
 refine awp_seq ?_
 refine awp_rseq (by decide) fun KK hKK => ?_
 refine m_field ?_
 refine m_load ?_
 refine m_len ?_
 refine m_bin ?_
 refine hKK _ _ ?_
 clear hKK KK
 refine m_cond (fun hc => ?_) (fun hc => ?_)
 · rw [if_pos (by simpa using hc)]
   refine awp_rseq (by decide) fun KK hKK => ?_
   refine m_assign ?_
   refine hKK _ _ ?_
   clear hKK KK
   refine awp_ret ⟨[_], ⟨⟨(by simp only [go_sem, reduceIte, Nat.reduceEqDiff, FF]), (by simp only [go_sem, reduceIte, Nat.reduceEqDiff, FF] <;> rfl)⟩, trivial⟩, ?_⟩
   simp only [go_sem, reduceIte, Nat.reduceEqDiff, FF, tupled]
   exact CV.Sub.refl _
 rw [if_neg (by simpa using hc)]
 clear hc
 refine awp_skip ?_
 first | rw [thenQ_normal] | rw [blockQ_normal, thenQ_normal]
 refine awp_seq ?_
 refine awp_rseq (by decide) fun KK hKK => ?_
 refine m_field ?_
 refine m_load ?_
 refine m_len ?_
 refine m_move ?_
 refine hKK _ _ ?_
 clear hKK KK
 refine awp_block ?_
 refine m_for (ι := Nat) (fun i => [(1, .ptr 1 0), (14, .c (itL r.items)), (15, .int r.items.length), (16, .int i)]) (fun i => [(1, .box 24 ((rnC r).map .c))]) (fun i => r.items.length - i) (fun i => i ≤ r.items.length ∧ chkItems (prevI r.items i) (r.items.drop i) = chkItems none r.items) (0) ?_ ?_
 · exact ⟨Nat.zero_le _, rfl⟩
 rintro i ⟨hi, hres⟩
 refine awp_rseq (by decide) fun KK hKK => ?_
 refine m_bin ?_
 refine hKK _ _ ?_
 clear hKK KK
 refine awp_seq ?_
 refine m_cond (fun hc => ?_) (fun hc => ?_)
 · simp only [decide_eq_true_eq] at hc
   have hi' : i < r.items.length := by omega
   have w3 : IntKind.i64.wrap ((i : Int) + 1) = ((i + 1 : Nat) : Int) := wrap_in (by omega)
   have eK := itL_get hi'
   rw [chk_drop hi'] at hres
   generalize hx : r.items.getD i default = x at *
   refine awp_skip ?_
   first | rw [thenQ_normal] | rw [blockQ_normal, thenQ_normal]
   refine awp_seq (awp_block ?_)
   clear hc
   have FF := And.intro eK FF
   refine awp_rseq (by decide) fun KK hKK => ?_
   refine m_move ?_
   first | refine m_index ?_ | refine m_idxA ?_
   refine m_load ?_
   refine m_alloc ?_
   refine m_assign ?_
   first | refine m_stPtr ?_ | refine m_stRp ?_
   refine hKK _ _ ?_
   clear hKK KK
   refine m_cut [(1, .ptr 1 0), (3, .int i), (4, .ptr 4 0), (14, .c (itL r.items)), (15, .int r.items.length), (16, .int i)] [(1, .box 24 ((rnC r).map .c)), (4, .box 47 ((itC x).map .c))] ?_
   refine awp_seq ?_
   refine awp_rseq (by decide) fun KK hKK => ?_
   refine m_field ?_
   refine m_load ?_
   refine m_call (fun hG => tname_ok x.id) ?_
   refine m_not ?_
   refine hKK _ _ ?_
   clear hKK KK
   refine m_cond (fun hc => ?_) (fun hc => ?_)
   · refine awp_rseq (by decide) fun KK hKK => ?_
     refine m_assign ?_
     refine hKK _ _ ?_
     clear hKK KK
     refine awp_ret ⟨[_], ⟨⟨(by simp only [go_sem, reduceIte, Nat.reduceEqDiff, FF]), (by simp only [go_sem, reduceIte, Nat.reduceEqDiff, FF] <;> rfl)⟩, trivial⟩, ?_⟩
     simp only [go_sem, reduceIte, Nat.reduceEqDiff, FF, tupled]
     have e0 : itemE (prevI r.items i) x = 1 := by unfold itemE; rw [if_pos hc]
     rw [← hres, e0]
     exact CV.Sub.refl _
   have hnm := hc
   clear hc
   refine awp_skip ?_
   first | rw [thenQ_normal] | rw [blockQ_normal, thenQ_normal]
   refine m_join (ι := Unit) (fun u => [(1, .ptr 1 0), (3, .int i), (4, .ptr 4 0), (14, .c (itL r.items)), (15, .int r.items.length), (16, .int i)]) (fun u => [(1, .box 24 ((rnC r).map .c)), (4, .box 47 ((itC x).map .c))]) (fun u => ordE (prevI r.items i) x.id = false) ?_ ?_
   · cases hE : decide ((0 : Int) < (i : Nat)) with
     | false =>
       have hi0 : i = 0 := by simp only [decide_eq_false_iff_not] at hE; omega
       refine awp_rseq_draw Tryz.mixed (by decide) (by kernel_rfl) fun KK hKK => ?_
       refine st0 rfl (k_move (by simp only [go_sem, reduceIte, Nat.reduceEqDiff, FF, hE] <;> rfl)) ?_
       refine st0 rfl (k_bin (by simp only [go_sem, reduceIte, Nat.reduceEqDiff, FF, hE] <;> rfl) (by simp only [go_sem, reduceIte, Nat.reduceEqDiff, FF, hE] <;> rfl) (by rfl) (by rfl) (by simp only [go_sem, reduceIte, Nat.reduceEqDiff, FF, hE] <;> rfl) (by intro hG; simp only [go_sem])) ?_
       refine st0 rfl (k_move (by simp only [go_sem, reduceIte, Nat.reduceEqDiff, FF, hE] <;> rfl)) ?_
       refine sgF rfl (by simp only [go_sem, reduceIte, Nat.reduceEqDiff, FF, hE] <;> rfl) (by rfl) (by simp only [go_sem, reduceIte, Nat.reduceEqDiff, FF, hE, hE] <;> rfl) ?_
       refine sgF rfl (by simp only [go_sem, reduceIte, Nat.reduceEqDiff, FF, hE] <;> rfl) (by rfl) (by simp only [go_sem, reduceIte, Nat.reduceEqDiff, FF, hE, hE] <;> rfl) ?_
       refine sgF rfl (by simp only [go_sem, reduceIte, Nat.reduceEqDiff, FF, hE] <;> rfl) (by rfl) (by simp only [go_sem, reduceIte, Nat.reduceEqDiff, FF, hE, hE] <;> rfl) ?_
       refine sgF rfl (by simp only [go_sem, reduceIte, Nat.reduceEqDiff, FF, hE] <;> rfl) (by rfl) (by simp only [go_sem, reduceIte, Nat.reduceEqDiff, FF, hE, hE] <;> rfl) ?_
       refine sgF rfl (by simp only [go_sem, reduceIte, Nat.reduceEqDiff, FF, hE] <;> rfl) (by rfl) (by simp only [go_sem, reduceIte, Nat.reduceEqDiff, FF, hE, hE] <;> rfl) ?_
       refine sgF rfl (by simp only [go_sem, reduceIte, Nat.reduceEqDiff, FF, hE] <;> rfl) (by rfl) (by simp only [go_sem, reduceIte, Nat.reduceEqDiff, FF, hE, hE] <;> rfl) ?_
       refine sgF rfl (by simp only [go_sem, reduceIte, Nat.reduceEqDiff, FF, hE] <;> rfl) (by rfl) (by simp only [go_sem, reduceIte, Nat.reduceEqDiff, FF, hE, hE] <;> rfl) ?_
       refine sgF rfl (by simp only [go_sem, reduceIte, Nat.reduceEqDiff, FF, hE] <;> rfl) (by rfl) (by simp only [go_sem, reduceIte, Nat.reduceEqDiff, FF, hE, hE] <;> rfl) ?_
       refine sgF rfl (by simp only [go_sem, reduceIte, Nat.reduceEqDiff, FF, hE] <;> rfl) (by rfl) (by simp only [go_sem, reduceIte, Nat.reduceEqDiff, FF, hE, hE] <;> rfl) ?_
       refine sgF rfl (by simp only [go_sem, reduceIte, Nat.reduceEqDiff, FF, hE] <;> rfl) (by rfl) (by simp only [go_sem, reduceIte, Nat.reduceEqDiff, FF, hE, hE] <;> rfl) ?_
       refine st0 rfl (k_pick (by simp only [go_sem, reduceIte, Nat.reduceEqDiff, FF, hE] <;> rfl) (by simp only [go_sem, reduceIte, Nat.reduceEqDiff, FF, hE] <;> rfl) (by simp only [go_sem, reduceIte, Nat.reduceEqDiff, FF, hE] <;> rfl) (by rfl) (by rfl) (by rfl) (by intro hG; first | (simp only [go_sem, reduceIte, Nat.reduceEqDiff, FF, hE, hE]; done) | (simp [go_sem]; done) | (simp [go_sem] at hG ⊢ <;> simp [hG] <;> (intros; simp_all))) (by first | (simp only [go_sem, reduceIte, Nat.reduceEqDiff, FF, hE] <;> rfl) | rfl)) ?_
       refine hKK _ _ ?_
       clear hKK KK
       refine awp_cond (by simp only [go_sem, reduceIte, Nat.reduceEqDiff, FF, hE] <;> rfl) (fun hc => ?_) (fun hc => ?_)
       · cases hc
       refine awp_skip ?_
       try rw [thenQ_normal]
       refine ⟨(), ?_, (by simp only [List.forall_mem_cons, List.forall_mem_nil, go_sem, reduceIte, Nat.reduceEqDiff, FF]; all_goals ((repeat' apply And.intro) <;> first | trivial | rfl | exact objLe_refl _ | (intro _ _; exact Subs.refl _))), (by simp only [List.forall_mem_cons, List.forall_mem_nil, go_sem, reduceIte, Nat.reduceEqDiff, FF]; all_goals ((repeat' apply And.intro) <;> first | trivial | rfl | exact objLe_refl _ | (intro _ _; exact Subs.refl _)))⟩
       rw [hi0]
       rfl
     | true =>
       obtain ⟨j, rfl⟩ : ∃ j, i = j + 1 := ⟨i - 1, by simp only [decide_eq_true_eq] at hE; omega⟩
       have wP : IntKind.i64.wrap (((j + 1 : Nat) : Int) - 1) = (j : Int) := by rw [wrap_in (by omega)]; omega
       have eP := itL_get (l := r.items) (i := j) (by omega)
       have hp : prevI r.items (j + 1) = some (r.items.getD j default).id := rfl
       rw [hp] at hres ⊢
       generalize r.items.getD j default = y at *
       have FF := And.intro hE (And.intro wP (And.intro eP FF))
       refine awp_rseq_draw Tryz.mixed (by decide) (by kernel_rfl) fun KK hKK => ?_
       refine m_move ?_
       refine m_bin ?_
       refine m_move ?_
       refine g_field ?_
       refine g_load ?_
       refine g_move ?_
       refine g_bin ?_
       first | refine g_index ?_ | refine g_idxA ?_
       refine g_field ?_
       refine g_load ?_
       refine g_field ?_
       refine g_load ?_
       refine g_bin ?_
       refine m_pick ?_
       refine hKK _ _ ?_
       clear hKK KK
       refine m_cond (fun hc => ?_) (fun hc => ?_)
       · rw [lessT] at hc
         refine awp_rseq (by decide) fun KK hKK => ?_
         refine m_assign ?_
         refine hKK _ _ ?_
         clear hKK KK
         refine awp_ret ⟨[_], ⟨⟨(by simp only [go_sem, reduceIte, Nat.reduceEqDiff, FF]), (by simp only [go_sem, reduceIte, Nat.reduceEqDiff, FF] <;> rfl)⟩, trivial⟩, ?_⟩
         simp only [go_sem, reduceIte, Nat.reduceEqDiff, FF, tupled]
         have e0 : itemE (some y.id) x = 3 := by
           unfold itemE
           rw [hnm, if_neg (by decide)]
           exact if_pos hc
         rw [← hres, e0]
         exact CV.Sub.refl _
       rw [lessT] at hc
       refine awp_skip ?_
       try rw [thenQ_normal]
       refine ⟨(), ?_, (by simp only [List.forall_mem_cons, List.forall_mem_nil, go_sem, reduceIte, Nat.reduceEqDiff, FF]; all_goals ((repeat' apply And.intro) <;> first | trivial | rfl | exact objLe_refl _ | (intro _ _; exact Subs.refl _))), (by simp only [List.forall_mem_cons, List.forall_mem_nil, go_sem, reduceIte, Nat.reduceEqDiff, FF]; all_goals ((repeat' apply And.intro) <;> first | trivial | rfl | exact objLe_refl _ | (intro _ _; exact Subs.refl _)))⟩
       exact hc
   rintro - hb
   refine awp_rseq (by decide) fun KK hKK => ?_
   refine m_field ?_
   refine m_load ?_
   refine m_call (fun hG => counted_ok _) ?_
   refine m_not ?_
   refine m_move ?_
   refine g_field ?_
   refine g_load ?_
   refine g_call (fun hG => counted_ok _) ?_
   refine g_not ?_
   refine m_pick ?_
   refine m_move ?_
   refine g_field ?_
   refine g_load ?_
   refine g_call (fun hG => counted_ok _) ?_
   refine g_not ?_
   refine m_pick ?_
   refine hKK _ _ ?_
   clear hKK KK
   refine m_cond (fun hc => ?_) (fun hc => ?_)
   · refine awp_rseq (by decide) fun KK hKK => ?_
     refine m_assign ?_
     refine hKK _ _ ?_
     clear hKK KK
     refine awp_ret ⟨[_], ⟨⟨(by simp only [go_sem, reduceIte, Nat.reduceEqDiff, FF]), (by simp only [go_sem, reduceIte, Nat.reduceEqDiff, FF] <;> rfl)⟩, trivial⟩, ?_⟩
     simp only [go_sem, reduceIte, Nat.reduceEqDiff, FF, tupled]
     have e0 : itemE (prevI r.items i) x = 2 := by
       unfold itemE
       rw [hnm, hb, if_neg (by decide), if_neg (by decide), if_pos hc]
     rw [← hres, e0]
     exact CV.Sub.refl _
   refine awp_skip ?_
   first | rw [thenQ_normal] | rw [blockQ_normal, thenQ_normal]
   have e0 : itemE (prevI r.items i) x = 0 := by
     unfold itemE
     rw [hnm, hb, if_neg (by decide), if_neg (by decide), if_neg (by rw [hc]; decide)]
   rw [e0, if_pos rfl] at hres
   have FF := And.intro w3 FF
   refine awp_rlast (by decide) fun KK hKK => ?_
   refine m_bin ?_
   refine m_move ?_
   refine hKK _ _ ?_
   clear hKK KK
   try rw [thenQ_normal]
   refine m_next (i + 1) ?_ ?_
   · exact ⟨hi', hres⟩
   · omega
 · refine awp_exit ?_
   simp only [thenQ_exit, blockQ_exit, reduceIte, Nat.reduceEqDiff]
   try rw [thenQ_normal]
   have hi' : i = r.items.length := by simp only [decide_eq_false_iff_not] at hc; omega
   refine awp_rseq (by decide) fun KK hKK => ?_
   refine m_assign ?_
   refine hKK _ _ ?_
   clear hKK KK
   refine awp_ret ⟨[_], ⟨⟨(by simp only [go_sem, reduceIte, Nat.reduceEqDiff, FF]), (by simp only [go_sem, reduceIte, Nat.reduceEqDiff, FF] <;> rfl)⟩, trivial⟩, ?_⟩
   simp only [go_sem, reduceIte, Nat.reduceEqDiff, FF, tupled]
   rw [hi', List.drop_length] at hres
   rw [← hres]
   exact CV.Sub.refl _
end Go.Am
namespace Go.Am
open Go.Proofs
attribute [local go_sem ↓] ofL_cons ofH_cons upd_apply
set_option maxHeartbeats 2000000
set_option linter.unusedSimpArgs false
def compareF (a b : Rn) : List Df × Int := if checkF a ≠ 0 then ([], checkF a) else if checkF b ≠ 0 then ([], checkF b) else (mergeF a.items b.items, 0)
theorem check_len {r : Rn} (h : checkF r = 0) : r.items.length ≤ 256 := by
 unfold checkF at h
 split at h
 · cases h
 · split at h
   · cases h
   · omega
theorem sub_tup2 {a b c d : CV} (h : CV.Sub a c) (k : CV.Sub b d) : CV.Sub (.tup [a, b]) (.tup [c, d]) := CV.Sub.tup rfl fun i hi => match i, hi with | 0, _ => h | 1, _ => k
variable [Glb]
theorem compare_ok (a b : Rn) (ha : a.items.length ≤ 9223372036854775807) (hb : b.items.length ≤ 9223372036854775807) : APure Tryz.prog 16 [.agg (rnC a), .agg (rnC b)] (.tup [dfL (compareF a b).1, .int (compareF a b).2]) := by
 have FF : True := trivial
 refine apure_of Tryz.func16 rfl (by kernel_rfl) (by simp [Tryz.ntmps16]) ?_
 rw [Tryz.ntmps16]
 unfold compareF
 refine awp_rseq (by decide) fun KK hKK => ?_
 refine m_box ?_
 refine m_box ?_
 refine m_assign ?_
 refine m_assign ?_
 refine hKK _ _ ?_
 clear hKK KK
 refine awp_seq ?_
 refine awp_rseq (by decide) fun KK hKK => ?_
 refine m_load ?_
 refine m_call (fun hG => check_ok a ha) ?_
 refine m_assign ?_
 refine hKK _ _ ?_
 clear hKK KK
 refine awp_rseq (by decide) fun KK hKK => ?_
 refine m_move ?_
 refine m_bin ?_
 refine hKK _ _ ?_
 clear hKK KK
 refine m_cond (fun hc => ?_) (fun hc => ?_)
 · rw [if_pos (by simpa using hc)]
   refine awp_rseq (by decide) fun KK hKK => ?_
   refine m_move ?_
   refine m_assign ?_
   refine m_assign ?_
   refine hKK _ _ ?_
   clear hKK KK
   refine awp_ret ⟨[_, _], ⟨⟨(by simp only [go_sem, reduceIte, Nat.reduceEqDiff, FF]), (by simp only [go_sem, reduceIte, Nat.reduceEqDiff, FF] <;> rfl)⟩, ⟨(by simp only [go_sem, reduceIte, Nat.reduceEqDiff, FF]), (by simp only [go_sem, reduceIte, Nat.reduceEqDiff, FF] <;> rfl)⟩, trivial⟩, ?_⟩
   simp only [go_sem, reduceIte, Nat.reduceEqDiff, FF, tupled]
   exact sub_tup2 (CV.Sub.im0 rfl rfl) (CV.Sub.refl _)
 have ea : checkF a = 0 := by simpa using hc
 rw [if_neg (by simpa using hc)]
 clear hc
 refine awp_skip ?_
 first | rw [thenQ_normal] | rw [blockQ_normal, thenQ_normal]
 refine awp_seq ?_
 refine awp_rseq (by decide) fun KK hKK => ?_
 refine m_load ?_
 refine m_call (fun hG => check_ok b hb) ?_
 refine m_assign ?_
 refine hKK _ _ ?_
 clear hKK KK
 refine awp_rseq (by decide) fun KK hKK => ?_
 refine m_move ?_
 refine m_bin ?_
 refine hKK _ _ ?_
 clear hKK KK
 refine m_cond (fun hc => ?_) (fun hc => ?_)
 · rw [if_pos (by simpa using hc)]
   refine awp_rseq (by decide) fun KK hKK => ?_
   refine m_move ?_
   refine m_assign ?_
   refine m_assign ?_
   refine hKK _ _ ?_
   clear hKK KK
   refine awp_ret ⟨[_, _], ⟨⟨(by simp only [go_sem, reduceIte, Nat.reduceEqDiff, FF]), (by simp only [go_sem, reduceIte, Nat.reduceEqDiff, FF] <;> rfl)⟩, ⟨(by simp only [go_sem, reduceIte, Nat.reduceEqDiff, FF]), (by simp only [go_sem, reduceIte, Nat.reduceEqDiff, FF] <;> rfl)⟩, trivial⟩, ?_⟩
   simp only [go_sem, reduceIte, Nat.reduceEqDiff, FF, tupled]
   exact sub_tup2 (CV.Sub.im0 rfl rfl) (CV.Sub.refl _)
 have eb : checkF b = 0 := by simpa using hc
 rw [if_neg (by simpa using hc)]
 clear hc
 refine awp_skip ?_
 first | rw [thenQ_normal] | rw [blockQ_normal, thenQ_normal]
 have la := check_len ea
 have lb := check_len eb
 refine awp_rseq (by decide) fun KK hKK => ?_
 refine m_alloc ?_
 refine hKK _ _ ?_
 clear hKK KK
 refine AWp.weak (weak_adoptB 8 0 100 _ _ 45 4 (dfR []) (by simp only [go_sem, reduceIte, Nat.reduceEqDiff, FF] <;> rfl) (by rfl) (by simp only [go_sem, reduceIte, Nat.reduceEqDiff, FF])) ?_
 refine m_cut [(2, .ptr 2 0), (3, .ptr 3 0), (8, .ptr 8 0)] [(2, .box 24 ((rnC a).map .c)), (3, .box 24 ((rnC b).map .c)), (8, .box 32 [.own 100 ([] : List Df).length]), (100, .row 45 4 ([] : List Df).length (dfR []))] ?_
 refine awp_seqL ?_
 refine awpl_op (by rfl) (by rfl) ?_
 refine m_field ?_
 refine run_nil ?_
 refine awpl_op (by rfl) (by rfl) ?_
 refine m_load ?_
 refine run_nil ?_
 refine awpl_op (by rfl) (by rfl) ?_
 refine m_field ?_
 refine run_nil ?_
 refine awpl_op (by rfl) (by rfl) ?_
 refine m_load ?_
 refine run_nil ?_
 refine awpl_op (by rfl) (by rfl) ?_
 refine m_mkF ?_
 refine run_nil ?_
 refine awpl_callI [8, 100] ((merge_ok a.items b.items (by omega) (by omega)).mono fun o1 h1 q => CallI.of_eq q (by simp [AV.refsw, AV.ref1w]) (outH_foot _) ?_) (by rfl) (by simp only [List.map, go_sem, reduceIte, Nat.reduceEqDiff, FF] <;> rfl) (outH_foot _) (by simp only [List.forall_mem_cons, List.forall_mem_nil, go_sem, reduceIte, Nat.reduceEqDiff, FF]; all_goals ((repeat' apply And.intro) <;> first | trivial | rfl)) (by simp [AV.refsw, AV.ref1w, AV.ref0])
 refine awpl_end ?_
 rw [thenQ_normal]
 dsimp only [updO, appL, id]
 generalize mergeF a.items b.items = l
 refine m_frz 100 [(8, .ptr 8 0)] [(8, .box 32 [.c (dfL l)])] ?_
 refine awp_rseq (by decide) fun KK hKK => ?_
 refine m_load ?_
 refine m_assign ?_
 refine m_assign ?_
 refine hKK _ _ ?_
 clear hKK KK
 refine awp_ret ⟨[_, _], ⟨⟨(by simp only [go_sem, reduceIte, Nat.reduceEqDiff, FF]), (by simp only [go_sem, reduceIte, Nat.reduceEqDiff, FF] <;> rfl)⟩, ⟨(by simp only [go_sem, reduceIte, Nat.reduceEqDiff, FF]), (by simp only [go_sem, reduceIte, Nat.reduceEqDiff, FF] <;> rfl)⟩, trivial⟩, ?_⟩
 simp only [go_sem, reduceIte, Nat.reduceEqDiff, FF, tupled]
 exact CV.Sub.refl _
end Go.Am
namespace Go.Am
open Go.Proofs Go.RowKit
attribute [local go_sem ↓] ofL_cons ofH_cons upd_apply
set_option maxHeartbeats 2000000
set_option maxRecDepth 100000
set_option linter.unusedSimpArgs false
def headB (n : ByteArray) : ByteArray := ⟨#[114, 117, 110, 32]⟩ ++ n ++ ⟨#[10]⟩
def lineB (x : It) : ByteArray := x.id ++ ⟨#[32]⟩ ++ decB x.rd ++ ⟨#[32]⟩ ++ decB x.ed ++ ⟨#[32]⟩ ++ decB x.tk ++ ⟨#[32]⟩ ++ decB (bitI x.pt) ++ ⟨#[10]⟩
def linesB : List It → ByteArray
 | [] => ⟨#[]⟩
 | x :: r => lineB x ++ linesB r
def encodeF (r : Rn) : ByteArray × Int := if checkF r ≠ 0 then (⟨#[]⟩, checkF r) else (headB r.name ++ linesB r.items, 0)
theorem linesB_app : ∀ l m : List It, linesB (l ++ m) = linesB l ++ linesB m
 | [], m => ba_ext (by simp [linesB])
 | x :: l, m => by
   rw [List.cons_append, linesB, linesB, linesB_app l m, ba_assoc]
theorem linesB_next {l : List It} {i : Nat} (h : i < l.length) : linesB (l.take (i + 1)) = linesB (l.take i) ++ lineB (l.getD i default) := by
 rw [List.take_succ_eq_append_getElem h, linesB_app, getD_lt h, linesB, linesB, app_nil]
theorem named_size {s : ByteArray} (h : namedB s false = true) : s.size ≤ 32 := by
 unfold namedB at h
 split at h
 · cases h
 · rename_i hc
   simp only [Bool.or_eq_true, decide_eq_true_eq, not_or] at hc
   omega
theorem itemE_ok {p : Option ByteArray} {x : It} (h : itemE p x = 0) : namedB x.id false = true ∧ itIn x ∧ ordE p x.id = false := by
 unfold itemE at h
 split at h
 · cases h
 · rename_i h1
   split at h
   · cases h
   · rename_i h2
     split at h
     · cases h
     · rename_i h3
       have g1 : namedB x.id false = true := by simpa using h1
       have g2 : ordE p x.id = false := by simpa using h2
       simp only [Bool.or_eq_true, Bool.not_eq_true', not_or, Bool.not_eq_false, countB, Bool.and_eq_true, decide_eq_true_eq] at h3
       obtain ⟨⟨⟨a1, a2⟩, a3, a4⟩, a5, a6⟩ := h3
       exact ⟨g1, ⟨a1, a2, a3, a4, a5, a6⟩, g2⟩
theorem chkItems_ok : ∀ {l : List It} {p : Option ByteArray}, chkItems p l = 0 → ∀ x ∈ l, namedB x.id false = true ∧ itIn x
 | [], _, _, x, hx => by cases hx
 | y :: l, p, h, x, hx => by
   rw [chkItems] at h
   split at h
   · rename_i h1
     rcases List.mem_cons.1 hx with rfl | hx
     · exact ⟨(itemE_ok h1).1, (itemE_ok h1).2.1⟩
     · exact chkItems_ok h x hx
   · rename_i h1
     exact absurd h h1
theorem check_facts {r : Rn} (h : checkF r = 0) : namedB r.name false = true ∧ r.items.length ≤ 256 ∧ ∀ x ∈ r.items, namedB x.id false = true ∧ itIn x := by
 have hl := check_len h
 unfold checkF at h
 split at h
 · cases h
 · rename_i h1
   split at h
   · cases h
   · exact ⟨by simpa using h1, hl, chkItems_ok h⟩
theorem lineB_size {x : It} (h : namedB x.id false = true) (hx : itIn x) : (lineB x).size ≤ 200 := by
 have h1 := named_size h
 unfold itIn at hx
 have h2 := decB_size (n := x.rd) ⟨by omega, by omega⟩
 have h3 := decB_size (n := x.ed) ⟨by omega, by omega⟩
 have h4 := decB_size (n := x.tk) ⟨by omega, by omega⟩
 have h5 := decB_size (n := bitI x.pt) (by cases x.pt <;> exact ⟨by decide, by decide⟩)
 have e1 : (⟨#[32]⟩ : ByteArray).size = 1 := rfl
 have e2 : (⟨#[10]⟩ : ByteArray).size = 1 := rfl
 unfold lineB
 simp only [ByteArray.size_append, e1, e2]
 omega
theorem linesB_size : ∀ {l : List It}, (∀ x ∈ l, namedB x.id false = true ∧ itIn x) → (linesB l).size ≤ 200 * l.length
 | [], _ => by rw [linesB]; decide
 | x :: l, h => by
   have := lineB_size (h x (List.mem_cons_self ..)).1 (h x (List.mem_cons_self ..)).2
   have := linesB_size fun y hy => h y (List.mem_cons_of_mem _ hy)
   rw [linesB, ByteArray.size_append, List.length_cons]
   omega
def rho5 (k : Nat) : Nat := if k = 0 then 5 else 100
theorem Tryz.cellsByte : Tryz.prog.cellsOf 5 = 1 := by kernel_rfl
theorem Tryz.undPByte : Tryz.prog.underlying 154 = some (.pointer 5) := by kernel_rfl
theorem str_calls (q g cap : Nat) (p : Value) (cur : Array Value) (l : List UInt8) (w : World) (hbk : w.heap[q]? = some (.cells #[p, .slice (some ⟨g, 0, none⟩) l.length cap] 85 (0, 0))) (hg : w.heap[g]? = some (.cells cur 5 (0, 0))) (h0 : l ≠ []) (hnc : l.length ≤ cap) (hcm : cap ≤ maxLen) (hcs : cur.size = cap * 1)
   (hcell : ∀ j x, l[j]? = some x → cur.getD j undef = .int .u8 x.toNat) : Calls Tryz.prog 40 #[.pointer (some ⟨q, 0, none⟩)] w fun e w' => e = .returned (.string ⟨l.toArray⟩) ∧ ∃ n, w' = w.drew.freeze ⟨g, 0, none⟩ n := by
 have hl0 : l.length ≠ 0 := by simpa using h0
 have c1 : w.drew.cell? ⟨q, 1, none⟩ = some (.slice (some ⟨g, 0, none⟩) l.length cap) := by
   have : w.drew.heap[q]? = some (.cells #[p, .slice (some ⟨g, 0, none⟩) l.length cap] 85 (0, 0)) := hbk
   rw [Lib.cell_of_heap this]; rfl
 have hSD : (Builtin.unsafeSliceData_ #[83] 154 #[.slice (some ⟨g, 0, none⟩) l.length cap]).run Tryz.prog w.drew = .ok (.pointer (some ⟨g, 0, none⟩)) w.drew :=
   Lib.run_unsafeSliceData_row _ _ _ _ _ _ (by omega)
 have hUS : (Builtin.unsafeString_ #[154, 3] 9 #[.pointer (some ⟨g, 0, none⟩), .int .i64 l.length]).run Tryz.prog w.drew = .ok (.string ⟨l.toArray⟩) (w.drew.freeze ⟨g, 0, none⟩ l.length) := by
   refine Lib.run_unsafeString_row w.drew 154 3 9 5 Tryz.undPByte Tryz.cellsByte g cur.size (by have hg' : w.drew.heap[g]? = some (.cells cur 5 (0, 0)) := hg; simp [World.shape?, hg']) l h0 (by omega) (by unfold maxLen at hcm; omega) ?_
   intro j x hx
   have hj : j < l.length := (List.getElem?_eq_some_iff.1 hx).1
   have := cell_of_heap (w := w.drew) hg (j := j) (by omega)
   rw [hcell j x hx] at this
   have e : (⟨g, 0, none⟩ : Addr).add j = ⟨g, j, none⟩ := by unfold Addr.add; split <;> simp_all
   rw [e]
   exact this
 have mixed := Tryz.mixed
 go_enter Tryz.func40, Tryz.ntmps40
 go_wp2
 go_region_o
 all_goals (go_wp2; go_ret; exact ⟨rfl, _, rfl⟩)
theorem string_enters : Enters Tryz.prog 40 := ⟨_, Tryz.func40, by kernel_rfl, rfl⟩
variable [Glb]
theorem encode_ok [Tabs] (r : Rn) (hl : r.items.length ≤ 9223372036854775807) : APure Tryz.prog 19 [.agg (rnC r)] (.tup [.str (encodeF r).1, .int (encodeF r).2]) := by
 have FF : True := trivial
 refine apure_of Tryz.func19 rfl (by kernel_rfl) (by simp [Tryz.ntmps19]) ?_
 rw [Tryz.ntmps19]
 unfold encodeF
 refine awp_rseq (by decide) fun KK hKK => ?_
 refine m_box ?_
 refine m_assign ?_
 refine m_assign ?_
 refine hKK _ _ ?_
 clear hKK KK
 refine awp_seq ?_
 refine awp_rseq (by decide) fun KK hKK => ?_
 refine m_load ?_
 refine m_call (fun hG => check_ok r hl) ?_
 refine m_assign ?_
 refine hKK _ _ ?_
 clear hKK KK
 refine awp_rseq (by decide) fun KK hKK => ?_
 refine m_move ?_
 refine m_bin ?_
 refine hKK _ _ ?_
 clear hKK KK
 refine m_cond (fun hc => ?_) (fun hc => ?_)
 · rw [if_pos (by simpa using hc)]
   refine awp_rseq (by decide) fun KK hKK => ?_
   refine m_move ?_
   refine m_assign ?_
   refine m_assign ?_
   refine hKK _ _ ?_
   clear hKK KK
   refine awp_ret ⟨[_, _], ⟨⟨(by simp only [go_sem, reduceIte, Nat.reduceEqDiff, FF]), (by simp only [go_sem, reduceIte, Nat.reduceEqDiff, FF] <;> rfl)⟩, ⟨(by simp only [go_sem, reduceIte, Nat.reduceEqDiff, FF]), (by simp only [go_sem, reduceIte, Nat.reduceEqDiff, FF] <;> rfl)⟩, trivial⟩, ?_⟩
   simp only [go_sem, reduceIte, Nat.reduceEqDiff, FF, tupled]
   exact CV.Sub.refl _
 have ec : checkF r = 0 := by simpa using hc
 rw [if_neg (by simpa using hc)]
 clear hc
 obtain ⟨h1, h2, h3⟩ := check_facts ec
 have hs := named_size h1
 refine awp_skip ?_
 first | rw [thenQ_normal] | rw [blockQ_normal, thenQ_normal]
 refine awp_rseq (by decide) fun KK hKK => ?_
 refine m_alloc ?_
 refine hKK _ _ ?_
 clear hKK KK
 refine AWp.weak (weak_adoptB 5 1 100 _ _ 5 1 (strRow ⟨#[]⟩) (by simp only [go_sem, reduceIte, Nat.reduceEqDiff, FF] <;> rfl) (by rfl) (by simp only [go_sem, reduceIte, Nat.reduceEqDiff, FF])) ?_
 refine m_cut [(1, .ptr 1 0), (5, .ptr 5 0)] [(1, .box 24 ((rnC r).map .c)), (5, .box 85 [.c (.raw (.pointer none)), .own 100 0]), (100, .row 5 1 0 (strRow ⟨#[]⟩))] ?_
 have b0 : #[(114 : UInt8), 117, 110, 32].size + r.name.size ≤ 9223372036854775807 := by simp; omega
 have b1 : #[(114 : UInt8), 117, 110, 32].size + r.name.size + #[(10 : UInt8)].size ≤ 9223372036854775807 := by simp; omega
 have hh : (headB r.name).size ≤ 40 := by
   have e1 : (⟨#[114, 117, 110, 32]⟩ : ByteArray).size = 4 := rfl
   have e2 : (⟨#[10]⟩ : ByteArray).size = 1 := rfl
   unfold headB
   simp only [ByteArray.size_append, e1, e2]
   omega
 have FF := And.intro b0 (And.intro b1 FF)
 refine awp_seqL ?_
 refine awpl_op (by rfl) (by rfl) ?_
 refine m_field ?_
 refine run_nil ?_
 refine awpl_op (by rfl) (by rfl) ?_
 refine m_load ?_
 refine run_nil ?_
 refine awpl_op (by rfl) (by rfl) ?_
 refine m_bin ?_
 refine run_nil ?_
 refine awpl_op (by rfl) (by rfl) ?_
 refine m_bin ?_
 refine run_nil ?_
 refine awpl_call [0, 1] rho5 ((wStr_ok false ⟨#[]⟩ (headB r.name) (by decide) (by omega)).mono fun out h1 q => ?_) (by rfl) (by simp only [List.map, go_sem, reduceIte, Nat.reduceEqDiff, FF] <;> rfl) (by decide) (bld_foot false _ _) (by simp only [List.forall_mem_cons, List.forall_mem_nil, go_sem, reduceIte, Nat.reduceEqDiff]; all_goals ((repeat' apply And.intro) <;> first | trivial | rfl)) (by simp [AV.refsw, AV.ref1w])
 obtain ⟨rfl, rfl⟩ := q
 refine ⟨by simp [AV.refsw, AV.ref1w], bld_foot true _ _, ?_⟩
 refine awpl_end ?_
 rw [thenQ_normal]
 have e00 : (⟨#[]⟩ : ByteArray) ++ headB r.name = headB r.name ++ linesB (r.items.take 0) := by rw [List.take_zero, linesB, app_nil]; exact ba_ext (by simp)
 rw [e00]
 clear e00
 generalize hS0 : headB r.name ++ linesB (r.items.take 0) = S0
 refine m_cut [(1, .ptr 1 0), (5, .ptr 5 0)] [(1, .box 24 ((rnC r).map .c)), (5, .box 85 [.ptr 5 0, .own 100 S0.size]), (100, .row 5 1 S0.size (strRow S0))] ?_
 refine awp_seq ?_
 refine awp_rseq (by decide) fun KK hKK => ?_
 refine m_field ?_
 refine m_load ?_
 refine m_len ?_
 refine m_move ?_
 refine hKK _ _ ?_
 clear hKK KK
 refine awp_block ?_
 refine m_for (ι := Nat × ByteArray) (fun p => [(5, .ptr 5 0), (19, .c (itL r.items)), (20, .int r.items.length), (21, .int p.1)]) (fun p => [(5, .box 85 [.ptr 5 0, .own 100 p.2.size]), (100, .row 5 1 p.2.size (strRow p.2))]) (fun p => r.items.length - p.1) (fun p => p.1 ≤ r.items.length ∧ p.2 = headB r.name ++ linesB (r.items.take p.1)) ((0, S0)) ?_ ?_
 · exact ⟨Nat.zero_le _, hS0.symm⟩
 rintro ⟨i, S⟩ ⟨hi, hS⟩
 dsimp only at hi hS
 refine awp_rseq (by decide) fun KK hKK => ?_
 refine m_bin ?_
 refine hKK _ _ ?_
 clear hKK KK
 refine awp_seq ?_
 refine m_cond (fun hc => ?_) (fun hc => ?_)
 · simp only [decide_eq_true_eq] at hc
   have hi' : i < r.items.length := by omega
   have w3 : IntKind.i64.wrap ((i : Int) + 1) = ((i + 1 : Nat) : Int) := wrap_in (by omega)
   have eK := itL_get hi'
   have hx : namedB (r.items.getD i default).id false = true ∧ itIn (r.items.getD i default) := by rw [getD_lt hi']; exact h3 _ (List.getElem_mem hi')
   have hnx := linesB_next hi'
   have hsz : S.size ≤ 100000 := by
     rw [hS]
     have := linesB_size (l := r.items.take i) fun x hx => h3 x (List.mem_of_mem_take hx)
     rw [List.length_take] at this
     rw [ByteArray.size_append]
     omega
   have e9 : headB r.name ++ linesB (r.items.take (i + 1)) = S ++ lineB (r.items.getD i default) := by rw [hS, hnx, ba_assoc (headB r.name)]
   generalize r.items.getD i default = x at *
   have hid := named_size hx.1
   have hin := hx.2
   have hls := lineB_size hx.1 hx.2
   unfold itIn at hin
   have n1 : inI x.rd := ⟨by omega, by omega⟩
   have n2 : inI x.ed := ⟨by omega, by omega⟩
   have n3 : inI x.tk := ⟨by omega, by omega⟩
   have n4 : inI (bitI x.pt) := by cases x.pt <;> exact ⟨by decide, by decide⟩
   have d1 := decB_size n1
   have d2 := decB_size n2
   have d3 := decB_size n3
   have d4 := decB_size n4
   have e32 : #[(32 : UInt8)].size = 1 := rfl
   have e10 : #[(10 : UInt8)].size = 1 := rfl
   have c0 : x.id.size + #[(32 : UInt8)].size ≤ 9223372036854775807 := by omega
   have c1 : x.id.size + #[(32 : UInt8)].size + (decB x.rd).size ≤ 9223372036854775807 := by omega
   have c2 : x.id.size + #[(32 : UInt8)].size + (decB x.rd).size + #[(32 : UInt8)].size ≤ 9223372036854775807 := by omega
   have c3 : x.id.size + #[(32 : UInt8)].size + (decB x.rd).size + #[(32 : UInt8)].size + (decB x.ed).size ≤ 9223372036854775807 := by omega
   have c4 : x.id.size + #[(32 : UInt8)].size + (decB x.rd).size + #[(32 : UInt8)].size + (decB x.ed).size + #[(32 : UInt8)].size ≤ 9223372036854775807 := by omega
   have c5 : x.id.size + #[(32 : UInt8)].size + (decB x.rd).size + #[(32 : UInt8)].size + (decB x.ed).size + #[(32 : UInt8)].size + (decB x.tk).size ≤ 9223372036854775807 := by omega
   have c6 : x.id.size + #[(32 : UInt8)].size + (decB x.rd).size + #[(32 : UInt8)].size + (decB x.ed).size + #[(32 : UInt8)].size + (decB x.tk).size + #[(32 : UInt8)].size ≤ 9223372036854775807 := by omega
   have c7 : x.id.size + #[(32 : UInt8)].size + (decB x.rd).size + #[(32 : UInt8)].size + (decB x.ed).size + #[(32 : UInt8)].size + (decB x.tk).size + #[(32 : UInt8)].size + (decB (bitI x.pt)).size ≤ 9223372036854775807 := by omega
   have c8 : x.id.size + #[(32 : UInt8)].size + (decB x.rd).size + #[(32 : UInt8)].size + (decB x.ed).size + #[(32 : UInt8)].size + (decB x.tk).size + #[(32 : UInt8)].size + (decB (bitI x.pt)).size + #[(10 : UInt8)].size ≤ 9223372036854775807 := by omega
   refine awp_skip ?_
   first | rw [thenQ_normal] | rw [blockQ_normal, thenQ_normal]
   refine awp_seq (awp_block ?_)
   clear hc
   have FF := And.intro eK FF
   refine awp_rseq (by decide) fun KK hKK => ?_
   first | refine m_index ?_ | refine m_idxA ?_
   refine m_load ?_
   refine m_alloc ?_
   first | refine m_stPtr ?_ | refine m_stRp ?_
   refine hKK _ _ ?_
   clear hKK KK
   refine m_cut [(5, .ptr 5 0), (7, .ptr 7 0), (19, .c (itL r.items)), (20, .int r.items.length), (21, .int i)] [(5, .box 85 [.ptr 5 0, .own 100 S.size]), (7, .box 47 ((itC x).map .c)), (100, .row 5 1 S.size (strRow S))] ?_
   have FF := And.intro c0 (And.intro c1 (And.intro c2 (And.intro c3 (And.intro c4 (And.intro c5 (And.intro c6 (And.intro c7 (And.intro c8 FF))))))))
   refine awp_drawX Tryz.mixed (by rfl) (by decide) (by kernel_rfl) (by decide) (by kernel_rfl) fun KK hKK => ?_
   refine m_field ?_
   refine m_load ?_
   refine m_bin ?_
   refine m_field ?_
   refine m_load ?_
   refine m_call (fun hG => dec_ok n1) ?_
   refine m_bin ?_
   refine m_bin ?_
   refine m_field ?_
   refine m_load ?_
   refine m_call (fun hG => dec_ok n2) ?_
   refine m_bin ?_
   refine m_bin ?_
   refine m_field ?_
   refine m_load ?_
   refine m_call (fun hG => dec_ok n3) ?_
   refine m_bin ?_
   refine m_bin ?_
   refine m_field ?_
   refine m_load ?_
   refine m_call (fun hG => num01_ok _) ?_
   refine m_call (fun hG => dec_ok n4) ?_
   refine m_bin ?_
   refine m_bin ?_
   refine hKK _ _ ?_
   clear hKK KK
   refine awpl_call [0, 1] rho5 ((wStr_ok true S (lineB x) (by omega) (by omega)).mono fun out h1 q => ?_) (by rfl) (by simp only [List.map, go_sem, reduceIte, Nat.reduceEqDiff, FF] <;> rfl) (by decide) (bld_foot true _ _) (by simp only [List.forall_mem_cons, List.forall_mem_nil, go_sem, reduceIte, Nat.reduceEqDiff]; all_goals ((repeat' apply And.intro) <;> first | trivial | rfl)) (by simp [AV.refsw, AV.ref1w])
   obtain ⟨rfl, rfl⟩ := q
   refine ⟨by simp [AV.refsw, AV.ref1w], bld_foot true _ _, ?_⟩
   refine awpl_end ?_
   generalize hS2 : S ++ lineB x = S2
   first | rw [thenQ_normal] | rw [blockQ_normal, thenQ_normal]
   refine m_cut [(5, .ptr 5 0), (19, .c (itL r.items)), (20, .int r.items.length), (21, .int i)] [(5, .box 85 [.ptr 5 0, .own 100 S2.size]), (100, .row 5 1 S2.size (strRow S2))] ?_
   have FF := And.intro w3 FF
   refine awp_rlast (by decide) fun KK hKK => ?_
   refine m_bin ?_
   refine m_move ?_
   refine hKK _ _ ?_
   clear hKK KK
   try rw [thenQ_normal]
   refine m_next ((i + 1, S2)) ?_ ?_
   · exact ⟨hi', by rw [← hS2]; exact e9.symm⟩
   · dsimp only
     omega
 · refine awp_exit ?_
   simp only [thenQ_exit, blockQ_exit, reduceIte, Nat.reduceEqDiff]
   try rw [thenQ_normal]
   have hi' : i = r.items.length := by simp only [decide_eq_false_iff_not] at hc; omega
   subst hi'
   rw [List.take_length] at hS
   rw [← hS]
   refine m_cut [(5, .ptr 5 0)] [(5, .box 85 [.ptr 5 0, .own 100 S.size]), (100, .row 5 1 S.size (strRow S))] ?_
   refine awp_seqL ?_
   refine awpl_str str_calls string_enters (by rw [hS]; unfold headB; simp only [ByteArray.size_append]; have e1 : (⟨#[114, 117, 110, 32]⟩ : ByteArray).size = 4 := rfl; omega) rfl rfl rfl (by decide) ?_
   refine awpl_op (by rfl) (by rfl) ?_
   refine m_assign ?_
   refine run_nil ?_
   refine awpl_op (by rfl) (by rfl) ?_
   refine m_assign ?_
   refine run_nil ?_
   refine awpl_end ?_
   rw [thenQ_normal]
   refine awp_ret ⟨[_, _], ⟨⟨(by simp only [go_sem, reduceIte, Nat.reduceEqDiff, FF]), (by simp only [go_sem, reduceIte, Nat.reduceEqDiff, FF] <;> rfl)⟩, ⟨(by simp only [go_sem, reduceIte, Nat.reduceEqDiff, FF]), (by simp only [go_sem, reduceIte, Nat.reduceEqDiff, FF] <;> rfl)⟩, trivial⟩, ?_⟩
   simp only [go_sem, reduceIte, Nat.reduceEqDiff, FF, tupled]
   exact CV.Sub.refl _
end Go.Am
