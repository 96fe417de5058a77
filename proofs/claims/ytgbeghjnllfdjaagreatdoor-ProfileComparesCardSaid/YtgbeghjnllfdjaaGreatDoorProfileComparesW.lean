/- The walk of the law ProfileCompares. No condition. -/
import Derived.Test.YtgbeghjnllfdjaaGreatDoorM2
import Derived.Test.YtgbeghjnllfdjaaGreatDoorS1
import Derived.Test.YtgbeghjnllfdjaaGreatDoorS2
import Derived.Test.YtgbeghjnllfdjaaGreatDoorM3
import Derived.Test.YtgbeghjnllfdjaaGreatDoorT
set_option linter.unusedVariables false
set_option linter.unusedSimpArgs false
namespace Go.Am
open Go.RowKit
section
variable {E : Env} {w : World} {nt : Nat} {s : Slots} {h : AH} {gs : Gs} {a : Act}
theorem weak_adopt [Glb] {fo : List Nat} (t o : Nat) (ty : TypeId) (sz : Nat) (f : Nat → List CV) (hs : s t = .emp) (ho : h o = .gone) : Weak fo s h (upd s t (.own o 0)) (upd h o (.row ty sz 0 f)) := by
 intro E nt a w I ⟨gs, R⟩
 have hgo : gs o = none := by have := R.objs o; rw [ho] at this; exact this
 have R' := R.virt o ho ty sz f
 refine ⟨gs, { R' with slots := fun t' => ?_ }⟩
 rw [upd_apply]
 split
 · rename_i e
   subst e
   have := R'.slots t'
   rw [hs] at this
   exact this.emp_own (upd_same _ _ _) hgo
 · exact R'.slots t'
end
end Go.Am
namespace Go.Am
theorem less_irrefl : ∀ l : List UInt8, Op.bytesLess l l = false
 | [] => rfl
 | c :: l => by simp [Op.bytesLess, less_irrefl l]
theorem less_total : ∀ a b : List UInt8, Op.bytesLess a b = false → Op.bytesLess b a = false → a = b
 | [], [], _, _ => rfl
 | [], _ :: _, h, _ => by simp [Op.bytesLess] at h
 | _ :: _, [], _, h => by simp [Op.bytesLess] at h
 | c :: a, d :: b, h1, h2 => by
   simp only [Op.bytesLess] at h1 h2
   by_cases e : c = d
   · subst e
     simp at h1 h2
     rw [less_total a b h1 h2]
   · exfalso
     by_cases hlt : c < d
     · simp [hlt] at h1
     · have : d < c := by
         rcases UInt8.lt_or_lt_of_ne e with h | h
         · exact absurd h hlt
         · exact h
       simp [this] at h2
theorem lessS_total {a b : ByteArray} (h1 : lessS a b = false) (h2 : lessS b a = false) : a = b := by
 obtain ⟨⟨x⟩⟩ := a
 obtain ⟨⟨y⟩⟩ := b
 have := less_total x y h1 h2
 rw [this]
theorem lessS_irrefl (a : ByteArray) : lessS a a = false := less_irrefl _
theorem less_asymm : ∀ a b : List UInt8, Op.bytesLess a b = true → Op.bytesLess b a = false
 | [], [], h => by simp [Op.bytesLess] at h
 | [], _ :: _, _ => by simp [Op.bytesLess]
 | _ :: _, [], h => by simp [Op.bytesLess] at h
 | c :: a, d :: b, h => by
   simp only [Op.bytesLess, Bool.or_eq_true, decide_eq_true_eq, Bool.and_eq_true, beq_iff_eq] at h
   simp only [Op.bytesLess, Bool.or_eq_false_iff, decide_eq_false_iff_not, Bool.and_eq_false_iff]
   rcases h with h | ⟨rfl, h⟩
   · refine ⟨fun h2 => ?_, .inl ?_⟩
     · exact absurd (UInt8.lt_trans h h2) (UInt8.lt_irrefl _)
     · simp only [beq_eq_false_iff_ne, ne_eq]
       intro e
       subst e
       exact absurd h (UInt8.lt_irrefl _)
   · exact ⟨UInt8.lt_irrefl _, .inr (less_asymm a b h)⟩
theorem lessS_asymm {a b : ByteArray} (h : lessS a b = true) : lessS b a = false := less_asymm _ _ h
end Go.Am
namespace Go.Am
open Go.Proofs
attribute [local go_sem ↓] ofL_cons ofH_cons upd_apply
set_option maxHeartbeats 1000000
set_option linter.unusedSimpArgs false
variable [Glb]
theorem digit_ok (c : Int) : APure Tryz.prog 100 [.raw (.int .u8 c)] (.bool (digitB c)) := by
 have FF : True := trivial
 refine apure_of Tryz.func100 rfl (by kernel_rfl) (by simp [Tryz.ntmps100]) ?_
 rw [Tryz.ntmps100]
 refine awp_rseq (by decide) fun KK hKK => ?_
 refine m_assign ?_
 refine hKK _ _ ?_
 clear hKK KK
 refine awp_rseq (by decide) fun KK hKK => ?_
 refine m_move ?_
 refine m_bin ?_
 refine m_move ?_
 refine g_move ?_
 refine g_bin ?_
 refine m_pick ?_
 refine m_assign ?_
 refine hKK _ _ ?_
 clear hKK KK
 refine awp_ret ⟨[_], ⟨⟨(by simp only [go_sem, reduceIte, Nat.reduceEqDiff, FF]), (by simp only [go_sem, reduceIte, Nat.reduceEqDiff, FF] <;> rfl)⟩, trivial⟩, ?_⟩
 simp only [go_sem, reduceIte, Nat.reduceEqDiff, FF, tupled]
 exact CV.Sub.refl _
theorem lower_ok (c : Int) : APure Tryz.prog 201 [.raw (.int .u8 c)] (.bool (lowerB c)) := by
 have FF : True := trivial
 refine apure_of Tryz.func201 rfl (by kernel_rfl) (by simp [Tryz.ntmps201]) ?_
 rw [Tryz.ntmps201]
 refine awp_rseq (by decide) fun KK hKK => ?_
 refine m_assign ?_
 refine hKK _ _ ?_
 clear hKK KK
 refine awp_rseq (by decide) fun KK hKK => ?_
 refine m_move ?_
 refine m_bin ?_
 refine m_move ?_
 refine g_move ?_
 refine g_bin ?_
 refine m_pick ?_
 refine m_assign ?_
 refine hKK _ _ ?_
 clear hKK KK
 refine awp_ret ⟨[_], ⟨⟨(by simp only [go_sem, reduceIte, Nat.reduceEqDiff, FF]), (by simp only [go_sem, reduceIte, Nat.reduceEqDiff, FF] <;> rfl)⟩, trivial⟩, ?_⟩
 simp only [go_sem, reduceIte, Nat.reduceEqDiff, FF, tupled]
 exact CV.Sub.refl _
theorem upper_ok (c : Int) : APure Tryz.prog 200 [.raw (.int .u8 c)] (.bool (upperB c)) := by
 have FF : True := trivial
 refine apure_of Tryz.func200 rfl (by kernel_rfl) (by simp [Tryz.ntmps200]) ?_
 rw [Tryz.ntmps200]
 refine awp_rseq (by decide) fun KK hKK => ?_
 refine m_assign ?_
 refine hKK _ _ ?_
 clear hKK KK
 refine awp_rseq (by decide) fun KK hKK => ?_
 refine m_move ?_
 refine m_bin ?_
 refine m_move ?_
 refine g_move ?_
 refine g_bin ?_
 refine m_pick ?_
 refine m_assign ?_
 refine hKK _ _ ?_
 clear hKK KK
 refine awp_ret ⟨[_], ⟨⟨(by simp only [go_sem, reduceIte, Nat.reduceEqDiff, FF]), (by simp only [go_sem, reduceIte, Nat.reduceEqDiff, FF] <;> rfl)⟩, trivial⟩, ?_⟩
 simp only [go_sem, reduceIte, Nat.reduceEqDiff, FF, tupled]
 exact CV.Sub.refl _
theorem part_ok (c : Int) (big : Bool) : APure Tryz.prog 101 [.raw (.int .u8 c), .bool big] (.bool (partB c big)) := by
 have FF : True := trivial
 refine apure_of Tryz.func101 rfl (by kernel_rfl) (by simp [Tryz.ntmps101]) ?_
 rw [Tryz.ntmps101]
 cases big
 · refine awp_rseq (by decide) fun KK hKK => ?_
   refine m_assign ?_
   refine hKK _ _ ?_
   clear hKK KK
   refine awp_rseq (by decide) fun KK hKK => ?_
   refine m_move ?_
   refine m_call (fun hG => digit_ok c) ?_
   refine m_move ?_
   refine g_move ?_
   refine g_bin ?_
   refine m_pick ?_
   refine m_move ?_
   refine g_move ?_
   refine g_move ?_
   refine g_move ?_
   refine g_call (fun hG => upper_ok c) ?_
   refine g_pick ?_
   refine m_pick ?_
   refine m_move ?_
   refine g_move ?_
   refine g_not ?_
   refine g_move ?_
   refine g_move ?_
   refine g_call (fun hG => lower_ok c) ?_
   refine g_pick ?_
   refine m_pick ?_
   refine m_assign ?_
   refine hKK _ _ ?_
   clear hKK KK
   refine awp_ret ⟨[_], ⟨⟨(by simp only [go_sem, reduceIte, Nat.reduceEqDiff, FF]), (by simp only [go_sem, reduceIte, Nat.reduceEqDiff, FF] <;> rfl)⟩, trivial⟩, ?_⟩
   simp only [go_sem, reduceIte, Nat.reduceEqDiff, FF, tupled]
   exact CV.Sub.of_eq (by simp [partB])
 · refine awp_rseq (by decide) fun KK hKK => ?_
   refine m_assign ?_
   refine hKK _ _ ?_
   clear hKK KK
   refine awp_rseq (by decide) fun KK hKK => ?_
   refine m_move ?_
   refine m_call (fun hG => digit_ok c) ?_
   refine m_move ?_
   refine g_move ?_
   refine g_bin ?_
   refine m_pick ?_
   refine m_move ?_
   refine g_move ?_
   refine g_move ?_
   refine g_move ?_
   refine g_call (fun hG => upper_ok c) ?_
   refine g_pick ?_
   refine m_pick ?_
   refine m_move ?_
   refine g_move ?_
   refine g_not ?_
   refine g_move ?_
   refine g_move ?_
   refine g_call (fun hG => lower_ok c) ?_
   refine g_pick ?_
   refine m_pick ?_
   refine m_assign ?_
   refine hKK _ _ ?_
   clear hKK KK
   refine awp_ret ⟨[_], ⟨⟨(by simp only [go_sem, reduceIte, Nat.reduceEqDiff, FF]), (by simp only [go_sem, reduceIte, Nat.reduceEqDiff, FF] <;> rfl)⟩, trivial⟩, ?_⟩
   simp only [go_sem, reduceIte, Nat.reduceEqDiff, FF, tupled]
   exact CV.Sub.of_eq (by simp [partB])
theorem named_ok (s : ByteArray) (big : Bool) : APure Tryz.prog 64 [.str s, .bool big] (.bool (namedB s big)) := by
 have FF : True := trivial
 refine apure_of Tryz.func64 rfl (by kernel_rfl) (by simp [Tryz.ntmps64]) ?_
 rw [Tryz.ntmps64]
 unfold namedB
 refine awp_rseq (by decide) fun KK hKK => ?_
 refine m_assign ?_
 refine hKK _ _ ?_
 clear hKK KK
 refine awp_seq ?_
 refine awp_rseq (by decide) fun KK hKK => ?_
 refine m_move ?_
 refine m_len ?_
 refine m_bin ?_
 refine m_move ?_
 refine g_move ?_
 refine g_len ?_
 refine g_bin ?_
 refine m_pick ?_
 refine m_move ?_
 refine g_move ?_
 refine g_idx ?_
 refine g_call (fun hG => digit_ok _) ?_
 refine m_pick ?_
 refine m_move ?_
 refine g_move ?_
 refine g_idx ?_
 refine g_bin ?_
 refine m_pick ?_
 refine hKK _ _ ?_
 clear hKK KK
 refine m_cond (fun hc => ?_) (fun hc => ?_)
 · rw [if_pos hc]
   refine awp_rseq (by decide) fun KK hKK => ?_
   refine m_assign ?_
   refine hKK _ _ ?_
   clear hKK KK
   refine awp_ret ⟨[_], ⟨⟨(by simp only [go_sem, reduceIte, Nat.reduceEqDiff, FF]), (by simp only [go_sem, reduceIte, Nat.reduceEqDiff, FF] <;> rfl)⟩, trivial⟩, ?_⟩
   simp only [go_sem, reduceIte, Nat.reduceEqDiff, FF, tupled]
   exact CV.Sub.refl _
 rw [if_neg (by rw [hc]; decide)]
 have hsz : s.size ≤ 32 := by simp only [Bool.or_eq_false_iff, decide_eq_false_iff_not] at hc; omega
 clear hc
 refine awp_skip ?_
 first | rw [thenQ_normal] | rw [blockQ_normal, thenQ_normal]
 refine awp_seq ?_
 refine awp_rseq (by decide) fun KK hKK => ?_
 refine m_assign ?_
 refine hKK _ _ ?_
 clear hKK KK
 refine awp_block ?_
 refine m_for (ι := Nat) (fun i => [(0, .str s), (1, .bool big), (5, .int i)]) (fun i => []) (fun i => s.size - i) (fun i => i ≤ s.size ∧ allB (fun c => partB c big) s i = true) (0) ?_ ?_
 · exact ⟨Nat.zero_le _, rfl⟩
 rintro i ⟨hi, hres⟩
 refine awp_seq ?_
 refine awp_rseq (by decide) fun KK hKK => ?_
 refine m_move ?_
 refine m_move ?_
 refine m_len ?_
 refine m_bin ?_
 refine hKK _ _ ?_
 clear hKK KK
 refine m_cond (fun hc => ?_) (fun hc => ?_)
 · simp only [decide_eq_true_eq] at hc
   have hi' : i < s.size := by omega
   have w3 : IntKind.i64.wrap ((i : Int) + 1) = ((i + 1 : Nat) : Int) := wrap_in (by omega)
   refine awp_skip ?_
   first | rw [thenQ_normal] | rw [blockQ_normal, thenQ_normal]
   refine awp_seq (awp_block ?_)
   clear hc
   refine awp_rseq (by decide) fun KK hKK => ?_
   refine m_move ?_
   refine m_move ?_
   refine m_idx ?_
   refine m_move ?_
   refine m_call (fun hG => part_ok (byteAt s i) big) ?_
   refine m_not ?_
   refine hKK _ _ ?_
   clear hKK KK
   refine m_cond (fun hc => ?_) (fun hc => ?_)
   · refine awp_rseq (by decide) fun KK hKK => ?_
     refine m_assign ?_
     refine hKK _ _ ?_
     clear hKK KK
     refine awp_ret ⟨[_], ⟨⟨(by simp only [go_sem, reduceIte, Nat.reduceEqDiff, FF]), (by simp only [go_sem, reduceIte, Nat.reduceEqDiff, FF] <;> rfl)⟩, trivial⟩, ?_⟩
     simp only [go_sem, reduceIte, Nat.reduceEqDiff, FF, tupled]
     rw [allB_false (p := fun c => partB c big) (i := i) (by simpa using hc) s.size hi']
     exact CV.Sub.refl _
   refine awp_skip ?_
   first | rw [thenQ_normal] | rw [blockQ_normal, thenQ_normal]
   have FF := And.intro w3 FF
   refine awp_rlast (by decide) fun KK hKK => ?_
   refine m_move ?_
   refine m_bin ?_
   refine m_assign ?_
   refine hKK _ _ ?_
   clear hKK KK
   try rw [thenQ_normal]
   refine m_next (i + 1) ?_ ?_
   · exact ⟨hi', by rw [allB, hres, Bool.true_and]; simpa using hc⟩
   · omega
 · refine awp_exit ?_
   simp only [thenQ_exit, blockQ_exit, reduceIte, Nat.reduceEqDiff]
   try rw [thenQ_normal]
   have hi' : i = s.size := by simp only [decide_eq_false_iff_not] at hc; omega
   refine awp_rseq (by decide) fun KK hKK => ?_
   refine m_assign ?_
   refine hKK _ _ ?_
   clear hKK KK
   refine awp_ret ⟨[_], ⟨⟨(by simp only [go_sem, reduceIte, Nat.reduceEqDiff, FF]), (by simp only [go_sem, reduceIte, Nat.reduceEqDiff, FF] <;> rfl)⟩, trivial⟩, ?_⟩
   simp only [go_sem, reduceIte, Nat.reduceEqDiff, FF, tupled]
   rw [hi'] at hres
   rw [hres]
   exact CV.Sub.refl _
theorem rname_ok (s : ByteArray) : APure Tryz.prog 28 [.str s] (.bool (namedB s false)) := by
 have FF : True := trivial
 refine apure_of Tryz.func28 rfl (by kernel_rfl) (by simp [Tryz.ntmps28]) ?_
 rw [Tryz.ntmps28]
 refine awp_rseq (by decide) fun KK hKK => ?_
 refine m_assign ?_
 refine hKK _ _ ?_
 clear hKK KK
 refine awp_rseq (by decide) fun KK hKK => ?_
 refine m_move ?_
 refine m_call (fun hG => named_ok s false) ?_
 refine m_assign ?_
 refine hKK _ _ ?_
 clear hKK KK
 refine awp_ret ⟨[_], ⟨⟨(by simp only [go_sem, reduceIte, Nat.reduceEqDiff, FF]), (by simp only [go_sem, reduceIte, Nat.reduceEqDiff, FF] <;> rfl)⟩, trivial⟩, ?_⟩
 simp only [go_sem, reduceIte, Nat.reduceEqDiff, FF, tupled]
 exact CV.Sub.refl _
end Go.Am
namespace Go.Am
open Go.Proofs
attribute [local go_sem ↓] ofL_cons ofH_cons upd_apply
set_option maxHeartbeats 1000000
set_option linter.unusedSimpArgs false
theorem all_take {α : Type} [Inhabited α] {l : List α} {i : Nat} (h : i < l.length) (p : α → Bool) : (l.take (i + 1)).all p = ((l.take i).all p && p (l.getD i default)) := by
 rw [List.take_succ_eq_append_getElem h, List.all_append, getD_lt h]
 simp
theorem all_not {α : Type} [Inhabited α] {l : List α} {i : Nat} (h : i < l.length) {p : α → Bool} (hp : p (l.getD i default) = false) : l.all p = false := by
 rw [List.all_eq_false]
 refine ⟨l[i], List.getElem_mem h, ?_⟩
 rw [getD_lt h] at hp
 simp [hp]
def lightB (r : Rn) : Bool := !(decide ((100 : Int) < r.name.size) || decide ((270 : Int) < r.items.length)) && r.items.all fun x => !decide ((100 : Int) < x.id.size)
variable [Glb]
theorem rlight_ok (r : Rn) (hl : r.items.length ≤ 9223372036854775807) : APure Tryz.prog 10 [.agg (rnC r)] (.bool (lightB r)) := by
 have FF : True := trivial
 refine apure_of Tryz.func10 rfl (by kernel_rfl) (by simp [Tryz.ntmps10]) ?_
 rw [Tryz.ntmps10]
 refine awp_rseq (by decide) fun KK hKK => ?_
 refine m_box ?_
 refine m_assign ?_
 refine hKK _ _ ?_
 clear hKK KK
 refine awp_seq ?_
 refine awp_rseq (by decide) fun KK hKK => ?_
 refine m_field ?_
 refine m_load ?_
 refine m_len ?_
 refine m_bin ?_
 refine m_move ?_
 refine g_field ?_
 refine g_load ?_
 refine g_len ?_
 refine g_bin ?_
 refine m_pick ?_
 refine hKK _ _ ?_
 clear hKK KK
 refine m_cond (fun hc => ?_) (fun hc => ?_)
 · refine awp_rseq (by decide) fun KK hKK => ?_
   refine m_assign ?_
   refine hKK _ _ ?_
   clear hKK KK
   refine awp_ret ⟨[_], ⟨⟨(by simp only [go_sem, reduceIte, Nat.reduceEqDiff, FF]), (by simp only [go_sem, reduceIte, Nat.reduceEqDiff, FF] <;> rfl)⟩, trivial⟩, ?_⟩
   simp only [go_sem, reduceIte, Nat.reduceEqDiff, FF, tupled]
   have e0 : lightB r = false := by unfold lightB; rw [hc]; rfl
   rw [e0]
   exact CV.Sub.refl _
 refine awp_skip ?_
 first | rw [thenQ_normal] | rw [blockQ_normal, thenQ_normal]
 refine awp_seq ?_
 refine awp_rseq (by decide) fun KK hKK => ?_
 refine m_assign ?_
 refine hKK _ _ ?_
 clear hKK KK
 refine awp_block ?_
 refine m_for (ι := Nat) (fun i => [(1, .ptr 1 0), (3, .int i)]) (fun i => [(1, .box 24 ((rnC r).map .c))]) (fun i => r.items.length - i) (fun i => i ≤ r.items.length ∧ (r.items.take i).all (fun x => !decide ((100 : Int) < x.id.size)) = true) (0) ?_ ?_
 · exact ⟨Nat.zero_le _, rfl⟩
 rintro i ⟨hi, hres⟩
 have hc0 := hc
 clear hc
 refine awp_seq ?_
 refine awp_rseq (by decide) fun KK hKK => ?_
 refine m_move ?_
 refine m_field ?_
 refine m_load ?_
 refine m_len ?_
 refine m_bin ?_
 refine hKK _ _ ?_
 clear hKK KK
 refine m_cond (fun hc => ?_) (fun hc => ?_)
 · simp only [decide_eq_true_eq] at hc
   have hi' : i < r.items.length := by omega
   have w3 : IntKind.i64.wrap ((i : Int) + 1) = ((i + 1 : Nat) : Int) := wrap_in (by omega)
   have eK := itL_get hi'
   refine awp_skip ?_
   first | rw [thenQ_normal] | rw [blockQ_normal, thenQ_normal]
   refine awp_seq (awp_block ?_)
   clear hc
   have FF := And.intro eK FF
   refine awp_rseq (by decide) fun KK hKK => ?_
   refine m_field ?_
   refine m_load ?_
   refine m_move ?_
   first | refine m_index ?_ | refine m_idxA ?_
   refine m_field ?_
   refine m_load ?_
   refine m_len ?_
   refine m_bin ?_
   refine hKK _ _ ?_
   clear hKK KK
   refine m_cond (fun hc => ?_) (fun hc => ?_)
   · refine awp_rseq (by decide) fun KK hKK => ?_
     refine m_assign ?_
     refine hKK _ _ ?_
     clear hKK KK
     refine awp_ret ⟨[_], ⟨⟨(by simp only [go_sem, reduceIte, Nat.reduceEqDiff, FF]), (by simp only [go_sem, reduceIte, Nat.reduceEqDiff, FF] <;> rfl)⟩, trivial⟩, ?_⟩
     simp only [go_sem, reduceIte, Nat.reduceEqDiff, FF, tupled]
     have e0 : lightB r = false := by unfold lightB; rw [all_not hi' (by rw [hc]; rfl)]; simp
     rw [e0]
     exact CV.Sub.refl _
   refine awp_skip ?_
   first | rw [thenQ_normal] | rw [blockQ_normal, thenQ_normal]
   have FF := And.intro w3 FF
   refine awp_rlast (by decide) fun KK hKK => ?_
   refine m_move ?_
   refine m_bin ?_
   refine m_assign ?_
   refine hKK _ _ ?_
   clear hKK KK
   try rw [thenQ_normal]
   refine m_next (i + 1) ?_ ?_
   · exact ⟨hi', by rw [all_take hi', hres, hc]; rfl⟩
   · omega
 · refine awp_exit ?_
   simp only [thenQ_exit, blockQ_exit, reduceIte, Nat.reduceEqDiff]
   try rw [thenQ_normal]
   have hi' : i = r.items.length := by simp only [decide_eq_false_iff_not] at hc; omega
   refine awp_rseq (by decide) fun KK hKK => ?_
   refine m_assign ?_
   refine hKK _ _ ?_
   clear hKK KK
   refine awp_ret ⟨[_], ⟨⟨(by simp only [go_sem, reduceIte, Nat.reduceEqDiff, FF]), (by simp only [go_sem, reduceIte, Nat.reduceEqDiff, FF] <;> rfl)⟩, trivial⟩, ?_⟩
   simp only [go_sem, reduceIte, Nat.reduceEqDiff, FF, tupled]
   have e0 : lightB r = true := by
     unfold lightB
     rw [hi', List.take_length] at hres
     rw [hc0, hres]; rfl
   rw [e0]
   exact CV.Sub.refl _
theorem rcounted_ok (n : Int) : APure Tryz.prog 29 [.int n] (.bool (countB n)) := by
 have FF : True := trivial
 refine apure_of Tryz.func29 rfl (by kernel_rfl) (by simp [Tryz.ntmps29]) ?_
 rw [Tryz.ntmps29]
 refine awp_rseq (by decide) fun KK hKK => ?_
 refine m_assign ?_
 refine hKK _ _ ?_
 clear hKK KK
 refine awp_rseq (by decide) fun KK hKK => ?_
 refine m_move ?_
 refine m_bin ?_
 refine m_move ?_
 refine g_move ?_
 refine g_bin ?_
 refine m_pick ?_
 refine m_assign ?_
 refine hKK _ _ ?_
 clear hKK KK
 refine awp_ret ⟨[_], ⟨⟨(by simp only [go_sem, reduceIte, Nat.reduceEqDiff, FF]), (by simp only [go_sem, reduceIte, Nat.reduceEqDiff, FF] <;> rfl)⟩, trivial⟩, ?_⟩
 simp only [go_sem, reduceIte, Nat.reduceEqDiff, FF, tupled]
 exact CV.Sub.refl _
theorem bit01_ok (b : Bool) : APure Tryz.prog 42 [.bool b] (.int (bitI b)) := by
 have FF : True := trivial
 refine apure_of Tryz.func42 rfl (by kernel_rfl) (by simp [Tryz.ntmps42]) ?_
 rw [Tryz.ntmps42]
 refine awp_rseq (by decide) fun KK hKK => ?_
 refine m_assign ?_
 refine hKK _ _ ?_
 clear hKK KK
 refine awp_seq ?_
 refine awp_rseq (by decide) fun KK hKK => ?_
 refine m_move ?_
 refine hKK _ _ ?_
 clear hKK KK
 refine m_cond (fun hc => ?_) (fun hc => ?_)
 · refine awp_rseq (by decide) fun KK hKK => ?_
   refine m_assign ?_
   refine hKK _ _ ?_
   clear hKK KK
   refine awp_ret ⟨[_], ⟨⟨(by simp only [go_sem, reduceIte, Nat.reduceEqDiff, FF]), (by simp only [go_sem, reduceIte, Nat.reduceEqDiff, FF] <;> rfl)⟩, trivial⟩, ?_⟩
   simp only [go_sem, reduceIte, Nat.reduceEqDiff, FF, tupled]
   rw [hc]
   exact CV.Sub.refl _
 refine awp_skip ?_
 first | rw [thenQ_normal] | rw [blockQ_normal, thenQ_normal]
 refine awp_rseq (by decide) fun KK hKK => ?_
 refine m_assign ?_
 refine hKK _ _ ?_
 clear hKK KK
 refine awp_ret ⟨[_], ⟨⟨(by simp only [go_sem, reduceIte, Nat.reduceEqDiff, FF]), (by simp only [go_sem, reduceIte, Nat.reduceEqDiff, FF] <;> rfl)⟩, trivial⟩, ?_⟩
 simp only [go_sem, reduceIte, Nat.reduceEqDiff, FF, tupled]
 rw [hc]
 exact CV.Sub.refl _
end Go.Am
namespace Go.Am
open Go.Proofs
attribute [local go_sem ↓] ofL_cons ofH_cons upd_apply
set_option maxHeartbeats 2000000
set_option linter.unusedSimpArgs false
attribute [go_sem] const_pnil
theorem btwN_four (x y : It) : btwN x y 4 = diffsF x y := rfl
abbrev btwC (x y : It) : CV := .im 2 4 fun i => ((btwL x y).map fun p => [CV.int p.1, CV.int p.2]).getD i []
theorem btwC_get (x y : It) {i : Nat} (h : i < 4) : ((btwL x y).map fun p => [CV.int p.1, CV.int p.2]).getD i [] = [.int ((btwL x y).getD i (0, 0)).1, .int ((btwL x y).getD i (0, 0)).2] := by
 have hl : (btwL x y).length = 4 := rfl
 rw [getD_lt (by simpa using by omega), getD_lt (by omega), List.getElem_map]
variable [Glb]
theorem between_ok (x y : It) : APure Tryz.prog 37 [.agg (itC x), .agg (itC y)] (dfL (diffsF x y)) := by
 have FF : True := trivial
 refine apure_of Tryz.func37 rfl (by kernel_rfl) (by simp [Tryz.ntmps37]) ?_
 rw [Tryz.ntmps37]
 refine awp_rseq (by decide) fun KK hKK => ?_
 refine m_box ?_
 refine m_box ?_
 refine m_assign ?_
 refine hKK _ _ ?_
 clear hKK KK
 refine awp_rseq (by decide) fun KK hKK => ?_
 refine m_assign ?_
 refine hKK _ _ ?_
 clear hKK KK
 refine awp_rseq_draw Tryz.mixed (by decide) (by kernel_rfl) fun KK hKK => ?_
 refine m_field ?_
 refine m_load ?_
 refine m_field ?_
 refine m_load ?_
 first | refine m_build ?_ | refine m_buildA ?_
 refine m_field ?_
 refine m_load ?_
 refine m_field ?_
 refine m_load ?_
 first | refine m_build ?_ | refine m_buildA ?_
 refine m_field ?_
 refine m_load ?_
 refine m_field ?_
 refine m_load ?_
 first | refine m_build ?_ | refine m_buildA ?_
 refine m_field ?_
 refine m_load ?_
 refine m_call (fun hG => bit01_ok _) ?_
 refine m_field ?_
 refine m_load ?_
 refine m_call (fun hG => bit01_ok _) ?_
 first | refine m_build ?_ | refine m_buildA ?_
 refine m_sliceN ?_
 refine m_assign ?_
 refine hKK _ _ ?_
 clear hKK KK
 refine awp_seq ?_
 refine awp_rseq (by decide) fun KK hKK => ?_
 refine m_assign ?_
 refine hKK _ _ ?_
 clear hKK KK
 refine awp_block ?_
 refine AWp.weak (weak_adopt 5 100 45 4 (dfR []) (by simp only [go_sem, reduceIte, Nat.reduceEqDiff, FF]) (by simp only [go_sem, reduceIte, Nat.reduceEqDiff, FF])) ?_
 refine m_for (ι := Nat) (fun i => [(2, .ptr 2 0), (5, .own 100 (btwN x y i).length), (6, .c (btwC x y)), (7, .int i)]) (fun i => [(2, .box 47 ((itC x).map .c)), (100, .row 45 4 (btwN x y i).length (dfR (btwN x y i)))]) (fun i => 4 - i) (fun i => i ≤ 4) (0) ?_ ?_
 · exact Nat.zero_le _
 intro i hi
 refine awp_seq ?_
 refine awp_rseq (by decide) fun KK hKK => ?_
 refine m_move ?_
 refine m_move ?_
 refine m_len ?_
 refine m_bin ?_
 refine hKK _ _ ?_
 clear hKK KK
 refine m_cond (fun hc => ?_) (fun hc => ?_)
 · simp only [decide_eq_true_eq] at hc
   have hi' : i < 4 := by omega
   have w3 : IntKind.i64.wrap ((i : Int) + 1) = ((i + 1 : Nat) : Int) := wrap_in (by omega)
   have w2 : IntKind.i64.wrap (2 + (i : Int)) = 2 + (i : Int) := wrap_in (by omega)
   have eK := btwC_get x y hi'
   have hn : btwN x y (i + 1) = differF (btwN x y i) x.id (2 + i) ((btwL x y).getD i (0, 0)).1 ((btwL x y).getD i (0, 0)).2 := rfl
   have hln := btwN_len x y i
   generalize (btwL x y).getD i (0, 0) = p at *
   generalize btwN x y i = O at *
   refine awp_skip ?_
   first | rw [thenQ_normal] | rw [blockQ_normal, thenQ_normal]
   refine awp_seq (awp_block ?_)
   clear hc
   have FF := And.intro eK FF
   refine awp_rseq_draw Tryz.mixed (by decide) (by kernel_rfl) fun KK hKK => ?_
   refine m_move ?_
   refine m_move ?_
   first | refine m_index ?_ | refine m_idxA ?_
   first | refine m_index ?_ | refine m_idxA ?_
   refine m_load ?_
   refine m_move ?_
   refine m_move ?_
   first | refine m_index ?_ | refine m_idxA ?_
   first | refine m_index ?_ | refine m_idxA ?_
   refine m_load ?_
   refine m_bin ?_
   refine hKK _ _ ?_
   clear hKK KK
   refine m_cond (fun hc => ?_) (fun hc => ?_)
   · have FF := And.intro eK (And.intro w2 FF)
     refine awp_rlast_draw Tryz.mixed (by decide) (by kernel_rfl) fun KK hKK => ?_
     refine m_move ?_
     refine m_field ?_
     refine m_load ?_
     refine m_move ?_
     refine m_bin ?_
     refine m_move ?_
     refine m_move ?_
     first | refine m_index ?_ | refine m_idxA ?_
     first | refine m_index ?_ | refine m_idxA ?_
     refine m_load ?_
     refine m_move ?_
     refine m_move ?_
     first | refine m_index ?_ | refine m_idxA ?_
     first | refine m_index ?_ | refine m_idxA ?_
     refine m_load ?_
     first | refine m_build ?_ | refine m_buildA ?_
     refine m_sliceN ?_
     first | refine m_appOwn ?_ | refine m_appEmp ?_
     refine m_assign ?_
     refine hKK _ _ ?_
     clear hKK KK
     first | rw [thenQ_normal] | rw [blockQ_normal, thenQ_normal]
     have FF := And.intro w3 FF
     refine awp_rlast (by decide) fun KK hKK => ?_
     refine m_move ?_
     refine m_bin ?_
     refine m_assign ?_
     refine hKK _ _ ?_
     clear hKK KK
     have e0 : btwN x y (i + 1) = O ++ [⟨x.id, 2 + i, p.1, p.2⟩] := by
       rw [hn, differF, if_neg (by simpa using hc)]
     try rw [thenQ_normal]
     refine ⟨i + 1, ?_, ?_, (by simp only [List.forall_mem_cons, List.forall_mem_nil, go_sem, reduceIte, Nat.reduceEqDiff, FF, e0, List.length_append, List.length_cons, List.length_nil]; all_goals ((repeat' apply And.intro) <;> first | trivial | rfl | exact objLe_refl _ | (intro _ _; exact Subs.refl _))), ?_⟩
     · exact hi'
     · omega
     · simp only [List.forall_mem_cons, List.forall_mem_nil, go_sem, reduceIte, Nat.reduceEqDiff, and_true]
       refine ⟨objLe_refl _, ?_⟩
       rw [e0, List.length_append]
       exact objLe_rown rfl (dfR_app O [⟨x.id, 2 + i, p.1, p.2⟩])
   · refine awp_skip ?_
     first | rw [thenQ_normal] | rw [blockQ_normal, thenQ_normal]
     have FF := And.intro w3 FF
     refine awp_rlast (by decide) fun KK hKK => ?_
     refine m_move ?_
     refine m_bin ?_
     refine m_assign ?_
     refine hKK _ _ ?_
     clear hKK KK
     have e0 : btwN x y (i + 1) = O := by
       rw [hn, differF, if_pos (by simpa using hc)]
     have FF := And.intro e0 FF
     try rw [thenQ_normal]
     refine m_next (i + 1) ?_ ?_
     · exact hi'
     · omega
 · refine awp_exit ?_
   simp only [thenQ_exit, blockQ_exit, reduceIte, Nat.reduceEqDiff]
   try rw [thenQ_normal]
   have hi' : i = 4 := by simp only [decide_eq_false_iff_not] at hc; omega
   subst hi'
   rw [btwN_four]
   refine m_frz 100 [(5, .c (dfL (diffsF x y)))] [] ?_
   refine awp_rseq (by decide) fun KK hKK => ?_
   refine m_move ?_
   refine m_assign ?_
   refine hKK _ _ ?_
   clear hKK KK
   refine awp_ret ⟨[_], ⟨⟨(by simp only [go_sem, reduceIte, Nat.reduceEqDiff, FF]), (by simp only [go_sem, reduceIte, Nat.reduceEqDiff, FF] <;> rfl)⟩, trivial⟩, ?_⟩
   simp only [go_sem, reduceIte, Nat.reduceEqDiff, FF, tupled]
   exact CV.Sub.refl _
end Go.Am
namespace Go.Am
open Go.Proofs
attribute [local go_sem ↓] ofL_cons ofH_cons upd_apply
set_option maxHeartbeats 1000000
set_option linter.unusedSimpArgs false
theorem le_not (x q : ByteArray) : (lessS x q || x.toList == q.toList) = !lessS q x := by
 rw [str_beq]
 cases h : lessS q x with
 | true =>
   rw [lessS_asymm h]
   have : x ≠ q := fun e => by
     rw [e, lessS_irrefl] at h
     cases h
   simp [this]
 | false =>
   cases h2 : lessS x q with
   | true => rfl
   | false => simp [lessS_total h2 h]
variable [Glb]
theorem rcheck_ok (r : Rn) (hl : r.items.length ≤ 9223372036854775807) : APure Tryz.prog 12 [.agg (rnC r)] (.int (checkF r)) := by
 have FF : True := trivial
 refine apure_of Tryz.func12 rfl (by kernel_rfl) (by simp [Tryz.ntmps12]) ?_
 rw [Tryz.ntmps12]
 unfold checkF
 refine awp_rseq (by decide) fun KK hKK => ?_
 refine m_box ?_
 refine m_assign ?_
 refine hKK _ _ ?_
 clear hKK KK
 refine awp_seq ?_
 refine awp_rseq (by decide) fun KK hKK => ?_
 refine m_field ?_
 refine m_load ?_
 refine m_call (fun hG => rname_ok r.name) ?_
 refine m_not ?_
 refine hKK _ _ ?_
 clear hKK KK
 refine m_cond (fun hc => ?_) (fun hc => ?_)
 · rw [if_pos hc]
   refine awp_rseq (by decide) fun KK hKK => ?_
   refine m_assign ?_
   refine hKK _ _ ?_
   clear hKK KK
   refine awp_ret ⟨[_], ⟨⟨(by simp only [go_sem, reduceIte, Nat.reduceEqDiff, FF]), (by simp only [go_sem, reduceIte, Nat.reduceEqDiff, FF] <;> rfl)⟩, trivial⟩, ?_⟩
   simp only [go_sem, reduceIte, Nat.reduceEqDiff, FF, tupled]
   exact CV.Sub.refl _
 rw [if_neg (by rw [hc]; decide)]
 clear hc
 refine awp_skip ?_
 first | rw [thenQ_normal] | rw [blockQ_normal, thenQ_normal]
 refine awp_seq ?_
 refine awp_rseq (by decide) fun KK hKK => ?_
 refine m_field ?_
 refine m_load ?_
 refine m_len ?_
 refine m_bin ?_
 refine hKK _ _ ?_
 clear hKK KK
 refine m_cond (fun hc => ?_) (fun hc => ?_)
 · rw [if_pos (by simpa using hc)]
   refine awp_rseq (by decide) fun KK hKK => ?_
   refine m_assign ?_
   refine hKK _ _ ?_
   clear hKK KK
   refine awp_ret ⟨[_], ⟨⟨(by simp only [go_sem, reduceIte, Nat.reduceEqDiff, FF]), (by simp only [go_sem, reduceIte, Nat.reduceEqDiff, FF] <;> rfl)⟩, trivial⟩, ?_⟩
   simp only [go_sem, reduceIte, Nat.reduceEqDiff, FF, tupled]
   exact CV.Sub.refl _
 rw [if_neg (by simpa using hc)]
 clear hc
 refine awp_skip ?_
 first | rw [thenQ_normal] | rw [blockQ_normal, thenQ_normal]
 refine awp_seq ?_
 refine awp_rseq (by decide) fun KK hKK => ?_
 refine m_assign ?_
 refine hKK _ _ ?_
 clear hKK KK
 refine awp_block ?_
 refine m_for (ι := Nat) (fun i => [(1, .ptr 1 0), (3, .int i)]) (fun i => [(1, .box 24 ((rnC r).map .c))]) (fun i => r.items.length - i) (fun i => i ≤ r.items.length ∧ chkItems (prevI r.items i) (r.items.drop i) = chkItems none r.items) (0) ?_ ?_
 · exact ⟨Nat.zero_le _, rfl⟩
 rintro i ⟨hi, hres⟩
 refine awp_seq ?_
 refine awp_rseq (by decide) fun KK hKK => ?_
 refine m_move ?_
 refine m_field ?_
 refine m_load ?_
 refine m_len ?_
 refine m_bin ?_
 refine hKK _ _ ?_
 clear hKK KK
 refine m_cond (fun hc => ?_) (fun hc => ?_)
 · simp only [decide_eq_true_eq] at hc
   have hi' : i < r.items.length := by omega
   have w3 : IntKind.i64.wrap ((i : Int) + 1) = ((i + 1 : Nat) : Int) := wrap_in (by omega)
   have eK := itL_get hi'
   rw [chk_drop hi'] at hres
   generalize hx : r.items.getD i default = x at *
   refine awp_skip ?_
   first | rw [thenQ_normal] | rw [blockQ_normal, thenQ_normal]
   refine awp_seq (awp_block ?_)
   clear hc
   have FF := And.intro eK FF
   refine awp_rseq (by decide) fun KK hKK => ?_
   refine m_field ?_
   refine m_load ?_
   refine m_move ?_
   first | refine m_index ?_ | refine m_idxA ?_
   refine m_load ?_
   refine m_alloc ?_
   first | refine m_stPtr ?_ | refine m_stRp ?_
   refine hKK _ _ ?_
   clear hKK KK
   refine m_cut [(1, .ptr 1 0), (3, .int i), (4, .ptr 4 0)] [(1, .box 24 ((rnC r).map .c)), (4, .box 47 ((itC x).map .c))] ?_
   refine awp_seq ?_
   refine awp_rseq (by decide) fun KK hKK => ?_
   refine m_field ?_
   refine m_load ?_
   refine m_call (fun hG => rname_ok x.id) ?_
   refine m_not ?_
   refine hKK _ _ ?_
   clear hKK KK
   refine m_cond (fun hc => ?_) (fun hc => ?_)
   · refine awp_rseq (by decide) fun KK hKK => ?_
     refine m_assign ?_
     refine hKK _ _ ?_
     clear hKK KK
     refine awp_ret ⟨[_], ⟨⟨(by simp only [go_sem, reduceIte, Nat.reduceEqDiff, FF]), (by simp only [go_sem, reduceIte, Nat.reduceEqDiff, FF] <;> rfl)⟩, trivial⟩, ?_⟩
     simp only [go_sem, reduceIte, Nat.reduceEqDiff, FF, tupled]
     have e0 : itemE (prevI r.items i) x = 1 := by unfold itemE; rw [if_pos hc]
     rw [← hres, e0]
     exact CV.Sub.refl _
   have hnm := hc
   clear hc
   refine awp_skip ?_
   first | rw [thenQ_normal] | rw [blockQ_normal, thenQ_normal]
   refine m_join (ι := Unit) (fun u => [(1, .ptr 1 0), (3, .int i), (4, .ptr 4 0)]) (fun u => [(1, .box 24 ((rnC r).map .c)), (4, .box 47 ((itC x).map .c))]) (fun u => ordE (prevI r.items i) x.id = false) ?_ ?_
   · cases hE : decide ((0 : Int) < (i : Nat)) with
     | false =>
       have hi0 : i = 0 := by simp only [decide_eq_false_iff_not] at hE; omega
       refine awp_rseq_draw Tryz.mixed (by decide) (by kernel_rfl) fun KK hKK => ?_
       refine st0 rfl (k_move (by simp only [go_sem, reduceIte, Nat.reduceEqDiff, FF, hE] <;> rfl)) ?_
       refine st0 rfl (k_bin (by simp only [go_sem, reduceIte, Nat.reduceEqDiff, FF, hE] <;> rfl) (by simp only [go_sem, reduceIte, Nat.reduceEqDiff, FF, hE] <;> rfl) (by rfl) (by rfl) (by simp only [go_sem, reduceIte, Nat.reduceEqDiff, FF, hE] <;> rfl) (by intro hG; simp only [go_sem])) ?_
       refine st0 rfl (k_move (by simp only [go_sem, reduceIte, Nat.reduceEqDiff, FF, hE] <;> rfl)) ?_
       refine sgF rfl (by simp only [go_sem, reduceIte, Nat.reduceEqDiff, FF, hE] <;> rfl) (by rfl) (by simp only [go_sem, reduceIte, Nat.reduceEqDiff, FF, hE, hE] <;> rfl) ?_
       refine sgF rfl (by simp only [go_sem, reduceIte, Nat.reduceEqDiff, FF, hE] <;> rfl) (by rfl) (by simp only [go_sem, reduceIte, Nat.reduceEqDiff, FF, hE, hE] <;> rfl) ?_
       refine sgF rfl (by simp only [go_sem, reduceIte, Nat.reduceEqDiff, FF, hE] <;> rfl) (by rfl) (by simp only [go_sem, reduceIte, Nat.reduceEqDiff, FF, hE, hE] <;> rfl) ?_
       refine sgF rfl (by simp only [go_sem, reduceIte, Nat.reduceEqDiff, FF, hE] <;> rfl) (by rfl) (by simp only [go_sem, reduceIte, Nat.reduceEqDiff, FF, hE, hE] <;> rfl) ?_
       refine sgF rfl (by simp only [go_sem, reduceIte, Nat.reduceEqDiff, FF, hE] <;> rfl) (by rfl) (by simp only [go_sem, reduceIte, Nat.reduceEqDiff, FF, hE, hE] <;> rfl) ?_
       refine sgF rfl (by simp only [go_sem, reduceIte, Nat.reduceEqDiff, FF, hE] <;> rfl) (by rfl) (by simp only [go_sem, reduceIte, Nat.reduceEqDiff, FF, hE, hE] <;> rfl) ?_
       refine sgF rfl (by simp only [go_sem, reduceIte, Nat.reduceEqDiff, FF, hE] <;> rfl) (by rfl) (by simp only [go_sem, reduceIte, Nat.reduceEqDiff, FF, hE, hE] <;> rfl) ?_
       refine sgF rfl (by simp only [go_sem, reduceIte, Nat.reduceEqDiff, FF, hE] <;> rfl) (by rfl) (by simp only [go_sem, reduceIte, Nat.reduceEqDiff, FF, hE, hE] <;> rfl) ?_
       refine sgF rfl (by simp only [go_sem, reduceIte, Nat.reduceEqDiff, FF, hE] <;> rfl) (by rfl) (by simp only [go_sem, reduceIte, Nat.reduceEqDiff, FF, hE, hE] <;> rfl) ?_
       refine sgF rfl (by simp only [go_sem, reduceIte, Nat.reduceEqDiff, FF, hE] <;> rfl) (by rfl) (by simp only [go_sem, reduceIte, Nat.reduceEqDiff, FF, hE, hE] <;> rfl) ?_
       refine st0 rfl (k_pick (by simp only [go_sem, reduceIte, Nat.reduceEqDiff, FF, hE] <;> rfl) (by simp only [go_sem, reduceIte, Nat.reduceEqDiff, FF, hE] <;> rfl) (by simp only [go_sem, reduceIte, Nat.reduceEqDiff, FF, hE] <;> rfl) (by rfl) (by rfl) (by rfl) (by intro hG; first | (simp only [go_sem, reduceIte, Nat.reduceEqDiff, FF, hE, hE]; done) | (simp [go_sem]; done) | (simp [go_sem] at hG ⊢ <;> simp [hG] <;> (intros; simp_all))) (by first | (simp only [go_sem, reduceIte, Nat.reduceEqDiff, FF, hE] <;> rfl) | rfl)) ?_
       refine hKK _ _ ?_
       clear hKK KK
       refine awp_cond (by simp only [go_sem, reduceIte, Nat.reduceEqDiff, FF, hE] <;> rfl) (fun hc => ?_) (fun hc => ?_)
       · cases hc
       refine awp_skip ?_
       try rw [thenQ_normal]
       refine ⟨(), ?_, (by simp only [List.forall_mem_cons, List.forall_mem_nil, go_sem, reduceIte, Nat.reduceEqDiff, FF]; all_goals ((repeat' apply And.intro) <;> first | trivial | rfl | exact objLe_refl _ | (intro _ _; exact Subs.refl _))), (by simp only [List.forall_mem_cons, List.forall_mem_nil, go_sem, reduceIte, Nat.reduceEqDiff, FF]; all_goals ((repeat' apply And.intro) <;> first | trivial | rfl | exact objLe_refl _ | (intro _ _; exact Subs.refl _)))⟩
       rw [hi0]
       rfl
     | true =>
       obtain ⟨j, rfl⟩ : ∃ j, i = j + 1 := ⟨i - 1, by simp only [decide_eq_true_eq] at hE; omega⟩
       have wP : IntKind.i64.wrap (((j + 1 : Nat) : Int) - 1) = (j : Int) := by rw [wrap_in (by omega)]; omega
       have eP := itL_get (l := r.items) (i := j) (by omega)
       have hp : prevI r.items (j + 1) = some (r.items.getD j default).id := rfl
       rw [hp] at hres ⊢
       generalize r.items.getD j default = y at *
       have FF := And.intro hE (And.intro wP (And.intro eP FF))
       refine awp_rseq_draw Tryz.mixed (by decide) (by kernel_rfl) fun KK hKK => ?_
       refine m_move ?_
       refine m_bin ?_
       refine m_move ?_
       refine g_field ?_
       refine g_load ?_
       refine g_field ?_
       refine g_load ?_
       refine g_move ?_
       refine g_bin ?_
       first | refine g_index ?_ | refine g_idxA ?_
       refine g_field ?_
       refine g_load ?_
       refine g_bin ?_
       refine m_pick ?_
       refine hKK _ _ ?_
       clear hKK KK
       refine m_cond (fun hc => ?_) (fun hc => ?_)
       · rw [lessT, le_not] at hc
         refine awp_rseq (by decide) fun KK hKK => ?_
         refine m_assign ?_
         refine hKK _ _ ?_
         clear hKK KK
         refine awp_ret ⟨[_], ⟨⟨(by simp only [go_sem, reduceIte, Nat.reduceEqDiff, FF]), (by simp only [go_sem, reduceIte, Nat.reduceEqDiff, FF] <;> rfl)⟩, trivial⟩, ?_⟩
         simp only [go_sem, reduceIte, Nat.reduceEqDiff, FF, tupled]
         have e0 : itemE (some y.id) x = 3 := by
           unfold itemE
           rw [hnm, if_neg (by decide)]
           exact if_pos hc
         rw [← hres, e0]
         exact CV.Sub.refl _
       rw [lessT, le_not] at hc
       refine awp_skip ?_
       try rw [thenQ_normal]
       refine ⟨(), ?_, (by simp only [List.forall_mem_cons, List.forall_mem_nil, go_sem, reduceIte, Nat.reduceEqDiff, FF]; all_goals ((repeat' apply And.intro) <;> first | trivial | rfl | exact objLe_refl _ | (intro _ _; exact Subs.refl _))), (by simp only [List.forall_mem_cons, List.forall_mem_nil, go_sem, reduceIte, Nat.reduceEqDiff, FF]; all_goals ((repeat' apply And.intro) <;> first | trivial | rfl | exact objLe_refl _ | (intro _ _; exact Subs.refl _)))⟩
       exact hc
   rintro - hb
   refine awp_rseq (by decide) fun KK hKK => ?_
   refine m_field ?_
   refine m_load ?_
   refine m_call (fun hG => rcounted_ok _) ?_
   refine m_not ?_
   refine m_move ?_
   refine g_field ?_
   refine g_load ?_
   refine g_call (fun hG => rcounted_ok _) ?_
   refine g_not ?_
   refine m_pick ?_
   refine m_move ?_
   refine g_field ?_
   refine g_load ?_
   refine g_call (fun hG => rcounted_ok _) ?_
   refine g_not ?_
   refine m_pick ?_
   refine hKK _ _ ?_
   clear hKK KK
   refine m_cond (fun hc => ?_) (fun hc => ?_)
   · refine awp_rseq (by decide) fun KK hKK => ?_
     refine m_assign ?_
     refine hKK _ _ ?_
     clear hKK KK
     refine awp_ret ⟨[_], ⟨⟨(by simp only [go_sem, reduceIte, Nat.reduceEqDiff, FF]), (by simp only [go_sem, reduceIte, Nat.reduceEqDiff, FF] <;> rfl)⟩, trivial⟩, ?_⟩
     simp only [go_sem, reduceIte, Nat.reduceEqDiff, FF, tupled]
     have e0 : itemE (prevI r.items i) x = 2 := by
       unfold itemE
       rw [hnm, hb, if_neg (by decide), if_neg (by decide), if_pos hc]
     rw [← hres, e0]
     exact CV.Sub.refl _
   refine awp_skip ?_
   first | rw [thenQ_normal] | rw [blockQ_normal, thenQ_normal]
   have e0 : itemE (prevI r.items i) x = 0 := by
     unfold itemE
     rw [hnm, hb, if_neg (by decide), if_neg (by decide), if_neg (by rw [hc]; decide)]
   rw [e0, if_pos rfl] at hres
   have FF := And.intro w3 FF
   refine awp_rlast (by decide) fun KK hKK => ?_
   refine m_move ?_
   refine m_bin ?_
   refine m_assign ?_
   refine hKK _ _ ?_
   clear hKK KK
   try rw [thenQ_normal]
   refine m_next (i + 1) ?_ ?_
   · exact ⟨hi', hres⟩
   · omega
 · refine awp_exit ?_
   simp only [thenQ_exit, blockQ_exit, reduceIte, Nat.reduceEqDiff]
   try rw [thenQ_normal]
   have hi' : i = r.items.length := by simp only [decide_eq_false_iff_not] at hc; omega
   refine awp_rseq (by decide) fun KK hKK => ?_
   refine m_assign ?_
   refine hKK _ _ ?_
   clear hKK KK
   refine awp_ret ⟨[_], ⟨⟨(by simp only [go_sem, reduceIte, Nat.reduceEqDiff, FF]), (by simp only [go_sem, reduceIte, Nat.reduceEqDiff, FF] <;> rfl)⟩, trivial⟩, ?_⟩
   simp only [go_sem, reduceIte, Nat.reduceEqDiff, FF, tupled]
   rw [hi', List.drop_length] at hres
   rw [← hres]
   exact CV.Sub.refl _
end Go.Am
namespace Go.Am
open Go.Proofs
attribute [local go_sem ↓] ofL_cons ofH_cons upd_apply
set_option maxHeartbeats 2000000
set_option linter.unusedSimpArgs false
variable [Glb]
theorem rcompare_ok (a b : Rn) (ha : a.items.length ≤ 9223372036854775807) (hb : b.items.length ≤ 9223372036854775807) : APure Tryz.prog 17 [.agg (rnC a), .agg (rnC b)] (.tup [dfL (compareF a b).1, .int (compareF a b).2]) := by
 have FF : True := trivial
 refine apure_of Tryz.func17 rfl (by kernel_rfl) (by simp [Tryz.ntmps17]) ?_
 rw [Tryz.ntmps17]
 unfold compareF
 refine awp_rseq (by decide) fun KK hKK => ?_
 refine m_box ?_
 refine m_box ?_
 refine m_assign ?_
 refine m_assign ?_
 refine hKK _ _ ?_
 clear hKK KK
 refine awp_rseq (by decide) fun KK hKK => ?_
 refine m_load ?_
 refine m_call (fun hG => rcheck_ok a ha) ?_
 refine m_assign ?_
 refine hKK _ _ ?_
 clear hKK KK
 refine m_join (ι := Int) (fun e => [(2, .ptr 2 0), (3, .ptr 3 0), (6, .int e)]) (fun e => [(2, .box 24 ((rnC a).map .c)), (3, .box 24 ((rnC b).map .c))]) (fun e => e = if checkF a ≠ 0 then checkF a else checkF b) ?_ ?_
 · refine awp_rseq (by decide) fun KK hKK => ?_
   refine m_move ?_
   refine m_bin ?_
   refine hKK _ _ ?_
   clear hKK KK
   refine m_cond (fun hc => ?_) (fun hc => ?_)
   · refine awp_rlast (by decide) fun KK hKK => ?_
     refine m_load ?_
     refine m_call (fun hG => rcheck_ok b hb) ?_
     refine m_assign ?_
     refine hKK _ _ ?_
     clear hKK KK
     try rw [thenQ_normal]
     refine ⟨checkF b, ?_, (by simp only [List.forall_mem_cons, List.forall_mem_nil, go_sem, reduceIte, Nat.reduceEqDiff, FF]; all_goals ((repeat' apply And.intro) <;> first | trivial | rfl | exact objLe_refl _ | (intro _ _; exact Subs.refl _))), (by simp only [List.forall_mem_cons, List.forall_mem_nil, go_sem, reduceIte, Nat.reduceEqDiff, FF]; all_goals ((repeat' apply And.intro) <;> first | trivial | rfl | exact objLe_refl _ | (intro _ _; exact Subs.refl _)))⟩
     rw [if_neg (by simpa using hc)]
   refine awp_skip ?_
   try rw [thenQ_normal]
   refine ⟨checkF a, ?_, (by simp only [List.forall_mem_cons, List.forall_mem_nil, go_sem, reduceIte, Nat.reduceEqDiff, FF]; all_goals ((repeat' apply And.intro) <;> first | trivial | rfl | exact objLe_refl _ | (intro _ _; exact Subs.refl _))), (by simp only [List.forall_mem_cons, List.forall_mem_nil, go_sem, reduceIte, Nat.reduceEqDiff, FF]; all_goals ((repeat' apply And.intro) <;> first | trivial | rfl | exact objLe_refl _ | (intro _ _; exact Subs.refl _)))⟩
   rw [if_pos (by simpa using hc)]
 rintro e he
 refine awp_seq ?_
 refine awp_rseq (by decide) fun KK hKK => ?_
 refine m_move ?_
 refine m_bin ?_
 refine hKK _ _ ?_
 clear hKK KK
 refine m_cond (fun hc => ?_) (fun hc => ?_)
 · have e0 : (if checkF a ≠ 0 then (([] : List Df), checkF a) else if checkF b ≠ 0 then ([], checkF b) else (mergeF a.items b.items, 0)) = ([], e) := by
     have hc' : e ≠ 0 := by simpa using hc
     rw [he] at hc' ⊢
     by_cases h : checkF a = 0
     · simp only [h, ne_eq, not_true, if_false] at hc' ⊢
       rw [if_pos hc']
     · simp [h]
   rw [e0]
   refine awp_rseq (by decide) fun KK hKK => ?_
   refine m_move ?_
   refine m_assign ?_
   refine m_assign ?_
   refine hKK _ _ ?_
   clear hKK KK
   refine awp_ret ⟨[_, _], ⟨⟨(by simp only [go_sem, reduceIte, Nat.reduceEqDiff, FF]), (by simp only [go_sem, reduceIte, Nat.reduceEqDiff, FF] <;> rfl)⟩, ⟨(by simp only [go_sem, reduceIte, Nat.reduceEqDiff, FF]), (by simp only [go_sem, reduceIte, Nat.reduceEqDiff, FF] <;> rfl)⟩, trivial⟩, ?_⟩
   simp only [go_sem, reduceIte, Nat.reduceEqDiff, FF, tupled]
   exact sub_tup2 (CV.Sub.im0 rfl rfl) (CV.Sub.refl _)
 have ez : checkF a = 0 ∧ checkF b = 0 := by
   have hc' : e = 0 := by simpa using hc
   rw [he] at hc'
   by_cases h : checkF a = 0
   · simp only [h, ne_eq, not_true, if_false] at hc'
     exact ⟨h, hc'⟩
   · simp only [h, ne_eq, not_false_eq_true, if_true] at hc'
 obtain ⟨ea, eb⟩ := ez
 have la := check_len ea
 have lb := check_len eb
 rw [if_neg (by simp [ea]), if_neg (by simp [eb])]
 clear hc he
 refine awp_skip ?_
 first | rw [thenQ_normal] | rw [blockQ_normal, thenQ_normal]
 refine awp_rseq (by decide) fun KK hKK => ?_
 refine m_assign ?_
 refine hKK _ _ ?_
 clear hKK KK
 refine awp_rseq (by decide) fun KK hKK => ?_
 refine m_assign ?_
 refine hKK _ _ ?_
 clear hKK KK
 refine awp_rseq (by decide) fun KK hKK => ?_
 refine m_assign ?_
 refine hKK _ _ ?_
 clear hKK KK
 refine awp_seq ?_
 refine awp_block ?_
 refine AWp.weak (weak_adopt 7 100 45 4 (dfR []) (by simp only [go_sem, reduceIte, Nat.reduceEqDiff, FF]) (by simp only [go_sem, reduceIte, Nat.reduceEqDiff, FF])) ?_
 refine m_for (ι := Nat × Nat × List Df) (fun p => [(2, .ptr 2 0), (3, .ptr 3 0), (7, .own 100 p.2.2.length), (8, .int p.1), (9, .int p.2.1)]) (fun p => [(2, .box 24 ((rnC a).map .c)), (3, .box 24 ((rnC b).map .c)), (100, .row 45 4 p.2.2.length (dfR p.2.2))]) (fun p => (a.items.length - p.1) + (b.items.length - p.2.1)) (fun p => p.1 ≤ a.items.length ∧ p.2.1 ≤ b.items.length ∧ p.2.2.length ≤ 4 * (p.1 + p.2.1) ∧ p.2.2 ++ mergeF (a.items.drop p.1) (b.items.drop p.2.1) = mergeF a.items b.items) ((0, 0, [])) ?_ ?_
 · exact ⟨Nat.zero_le _, Nat.zero_le _, Nat.zero_le _, rfl⟩
 rintro ⟨i, k, out⟩ ⟨hi, hk, hlen, hres⟩
 dsimp only at hi hk hlen hres
 refine awp_seq ?_
 refine awp_rseq (by decide) fun KK hKK => ?_
 refine m_move ?_
 refine m_field ?_
 refine m_load ?_
 refine m_len ?_
 refine m_bin ?_
 refine m_move ?_
 refine g_move ?_
 refine g_field ?_
 refine g_load ?_
 refine g_len ?_
 refine g_bin ?_
 refine m_pick ?_
 refine hKK _ _ ?_
 clear hKK KK
 refine m_cond (fun hc => ?_) (fun hc => ?_)
 · simp only [Bool.or_eq_true, decide_eq_true_eq] at hc
   have wi : IntKind.i64.wrap ((i : Int) + 1) = ((i + 1 : Nat) : Int) := wrap_in (by omega)
   have wk : IntKind.i64.wrap ((k : Int) + 1) = ((k + 1 : Nat) : Int) := wrap_in (by omega)
   refine awp_skip ?_
   first | rw [thenQ_normal] | rw [blockQ_normal, thenQ_normal]
   refine awp_block (awp_block ?_)
   by_cases hk1 : k = b.items.length
   · have hi1 : i < a.items.length := by omega
     have eA := itL_get hi1
     have hB : ((k : Int) == (b.items.length : Int)) = true := by simp only [beq_iff_eq]; omega
     rw [merge_l hi1 hk1] at hres
     generalize a.items.getD i default = x at *
     clear hc
     refine awp_rseq_draw Tryz.mixed (by decide) (by kernel_rfl) fun KK hKK => ?_
     refine st0 rfl (k_move (by simp only [go_sem, reduceIte, Nat.reduceEqDiff, FF, hB] <;> rfl)) ?_
     refine st0 rfl (k_field (by simp only [go_sem, reduceIte, Nat.reduceEqDiff, FF, hB] <;> rfl) (by simp only [go_sem] <;> rfl) (by rfl) (by rfl) (by simp only [go_sem, reduceIte, Nat.reduceEqDiff, FF, hB, Nat.reduceAdd, Nat.reduceSub, Nat.reduceMul, Nat.reduceLeDiff] <;> rfl) (by intro hG; simp only [go_sem])) ?_
     refine st1 rfl (k_load (by simp only [go_sem, reduceIte, Nat.reduceEqDiff, FF, hB] <;> rfl) (by simp only [go_sem] <;> rfl) (by rfl) (by intro hG; simp only [go_sem]) (by first | exact lm_ptr (by simp only [go_sem, reduceIte, Nat.reduceEqDiff, FF, hB] <;> rfl) (by simp only [go_sem, reduceIte, Nat.reduceEqDiff, FF, hB, Nat.reduceAdd, Nat.reduceSub, Nat.reduceMul, Nat.reduceLeDiff] <;> rfl) (fun _ => Nat.le_of_ble_eq_true rfl) | exact lm_pim (by simp only [go_sem, reduceIte, Nat.reduceEqDiff, FF, hB, Nat.reduceAdd, Nat.reduceSub, Nat.reduceMul, Nat.reduceLeDiff] <;> rfl) (fun _ => Nat.le_of_ble_eq_true rfl) | exact lm_rp (by simp only [go_sem, reduceIte, Nat.reduceEqDiff, FF, hB] <;> rfl) (by simp only [go_sem, reduceIte, Nat.reduceEqDiff, FF, hB, Nat.reduceAdd, Nat.reduceSub, Nat.reduceMul, Nat.reduceLeDiff] <;> rfl) (by intro hG; (repeat' apply And.intro) <;> first | rfl | omega | (dsimp only; omega) | (simp; done)))) ?_
     refine st1 rfl (k_len (by simp only [go_sem, reduceIte, Nat.reduceEqDiff, FF, hB] <;> rfl) (by intro hG; simp only [go_sem]) (by first | exact nm_im (by simp only [go_sem] <;> rfl) | exact nm_own (by simp only [go_sem] <;> rfl) (by simp only [go_sem, reduceIte, Nat.reduceEqDiff, FF, hB] <;> rfl) (by intro hG; (repeat' apply And.intro) <;> first | rfl | omega | (dsimp only; omega) | (simp; done)) | exact nm_emp (by simp only [go_sem] <;> rfl) | exact nm_osub (by simp only [go_sem] <;> rfl) (by simp only [go_sem, reduceIte, Nat.reduceEqDiff, FF, hB] <;> rfl) (by intro hG; (repeat' apply And.intro) <;> first | rfl | omega | (dsimp only; omega) | (simp; done)) | exact nm_str (by simp only [go_sem] <;> rfl))) ?_
     refine st0 rfl (k_bin (by simp only [go_sem, reduceIte, Nat.reduceEqDiff, FF, hB] <;> rfl) (by simp only [go_sem, reduceIte, Nat.reduceEqDiff, FF, hB] <;> rfl) (by rfl) (by rfl) (by simp only [go_sem, reduceIte, Nat.reduceEqDiff, FF, hB] <;> rfl) (by intro hG; simp only [go_sem])) ?_
     refine st0 rfl (k_move (by simp only [go_sem, reduceIte, Nat.reduceEqDiff, FF, hB] <;> rfl)) ?_
     refine sgF rfl (by simp only [go_sem, reduceIte, Nat.reduceEqDiff, FF, hB] <;> rfl) (by rfl) (by simp only [go_sem, reduceIte, Nat.reduceEqDiff, FF, hB, hB] <;> rfl) ?_
     refine sgF rfl (by simp only [go_sem, reduceIte, Nat.reduceEqDiff, FF, hB] <;> rfl) (by rfl) (by simp only [go_sem, reduceIte, Nat.reduceEqDiff, FF, hB, hB] <;> rfl) ?_
     refine sgF rfl (by simp only [go_sem, reduceIte, Nat.reduceEqDiff, FF, hB] <;> rfl) (by rfl) (by simp only [go_sem, reduceIte, Nat.reduceEqDiff, FF, hB, hB] <;> rfl) ?_
     refine sgF rfl (by simp only [go_sem, reduceIte, Nat.reduceEqDiff, FF, hB] <;> rfl) (by rfl) (by simp only [go_sem, reduceIte, Nat.reduceEqDiff, FF, hB, hB] <;> rfl) ?_
     refine sgF rfl (by simp only [go_sem, reduceIte, Nat.reduceEqDiff, FF, hB] <;> rfl) (by rfl) (by simp only [go_sem, reduceIte, Nat.reduceEqDiff, FF, hB, hB] <;> rfl) ?_
     refine sgF rfl (by simp only [go_sem, reduceIte, Nat.reduceEqDiff, FF, hB] <;> rfl) (by rfl) (by simp only [go_sem, reduceIte, Nat.reduceEqDiff, FF, hB, hB] <;> rfl) ?_
     refine sgF rfl (by simp only [go_sem, reduceIte, Nat.reduceEqDiff, FF, hB] <;> rfl) (by rfl) (by simp only [go_sem, reduceIte, Nat.reduceEqDiff, FF, hB, hB] <;> rfl) ?_
     refine sgF rfl (by simp only [go_sem, reduceIte, Nat.reduceEqDiff, FF, hB] <;> rfl) (by rfl) (by simp only [go_sem, reduceIte, Nat.reduceEqDiff, FF, hB, hB] <;> rfl) ?_
     refine sgF rfl (by simp only [go_sem, reduceIte, Nat.reduceEqDiff, FF, hB] <;> rfl) (by rfl) (by simp only [go_sem, reduceIte, Nat.reduceEqDiff, FF, hB, hB] <;> rfl) ?_
     refine sgF rfl (by simp only [go_sem, reduceIte, Nat.reduceEqDiff, FF, hB] <;> rfl) (by rfl) (by simp only [go_sem, reduceIte, Nat.reduceEqDiff, FF, hB, hB] <;> rfl) ?_
     refine sgF rfl (by simp only [go_sem, reduceIte, Nat.reduceEqDiff, FF, hB] <;> rfl) (by rfl) (by simp only [go_sem, reduceIte, Nat.reduceEqDiff, FF, hB, hB] <;> rfl) ?_
     refine sgF rfl (by simp only [go_sem, reduceIte, Nat.reduceEqDiff, FF, hB] <;> rfl) (by rfl) (by simp only [go_sem, reduceIte, Nat.reduceEqDiff, FF, hB, hB] <;> rfl) ?_
     refine sgF rfl (by simp only [go_sem, reduceIte, Nat.reduceEqDiff, FF, hB] <;> rfl) (by rfl) (by simp only [go_sem, reduceIte, Nat.reduceEqDiff, FF, hB, hB] <;> rfl) ?_
     refine sgF rfl (by simp only [go_sem, reduceIte, Nat.reduceEqDiff, FF, hB] <;> rfl) (by rfl) (by simp only [go_sem, reduceIte, Nat.reduceEqDiff, FF, hB, hB] <;> rfl) ?_
     refine sgF rfl (by simp only [go_sem, reduceIte, Nat.reduceEqDiff, FF, hB] <;> rfl) (by rfl) (by simp only [go_sem, reduceIte, Nat.reduceEqDiff, FF, hB, hB] <;> rfl) ?_
     refine sgF rfl (by simp only [go_sem, reduceIte, Nat.reduceEqDiff, FF, hB] <;> rfl) (by rfl) (by simp only [go_sem, reduceIte, Nat.reduceEqDiff, FF, hB, hB] <;> rfl) ?_
     refine sgF rfl (by simp only [go_sem, reduceIte, Nat.reduceEqDiff, FF, hB] <;> rfl) (by rfl) (by simp only [go_sem, reduceIte, Nat.reduceEqDiff, FF, hB, hB] <;> rfl) ?_
     refine sgF rfl (by simp only [go_sem, reduceIte, Nat.reduceEqDiff, FF, hB] <;> rfl) (by rfl) (by simp only [go_sem, reduceIte, Nat.reduceEqDiff, FF, hB, hB] <;> rfl) ?_
     refine sgF rfl (by simp only [go_sem, reduceIte, Nat.reduceEqDiff, FF, hB] <;> rfl) (by rfl) (by simp only [go_sem, reduceIte, Nat.reduceEqDiff, FF, hB, hB] <;> rfl) ?_
     refine sgF rfl (by simp only [go_sem, reduceIte, Nat.reduceEqDiff, FF, hB] <;> rfl) (by rfl) (by simp only [go_sem, reduceIte, Nat.reduceEqDiff, FF, hB, hB] <;> rfl) ?_
     refine st0 rfl (k_pick (by simp only [go_sem, reduceIte, Nat.reduceEqDiff, FF, hB] <;> rfl) (by simp only [go_sem, reduceIte, Nat.reduceEqDiff, FF, hB] <;> rfl) (by simp only [go_sem, reduceIte, Nat.reduceEqDiff, FF, hB] <;> rfl) (by rfl) (by rfl) (by rfl) (by intro hG; first | (simp only [go_sem, reduceIte, Nat.reduceEqDiff, FF, hB, hB]; done) | (simp [go_sem]; done) | (simp [go_sem] at hG ⊢ <;> simp [hG] <;> (intros; simp_all))) (by first | (simp only [go_sem, reduceIte, Nat.reduceEqDiff, FF, hB] <;> rfl) | rfl)) ?_
     refine st0 rfl (k_assign (by simp only [go_sem, reduceIte, Nat.reduceEqDiff, FF, hB] <;> rfl)) ?_
     refine hKK _ _ ?_
     clear hKK KK
     refine awp_cond (by simp only [go_sem, reduceIte, Nat.reduceEqDiff, FF, hB] <;> rfl) (fun hc => ?_) (fun hc => ?_)
     · have FF := And.intro eA FF
       refine awp_rseq (by decide) fun KK hKK => ?_
       refine m_move ?_
       refine m_field ?_
       refine m_load ?_
       refine m_move ?_
       first | refine m_index ?_ | refine m_idxA ?_
       refine m_field ?_
       refine m_load ?_
       first | refine m_build ?_ | refine m_buildA ?_
       refine m_sliceN ?_
       first | refine m_appOwn ?_ | refine m_appEmp ?_
       refine m_assign ?_
       refine hKK _ _ ?_
       clear hKK KK
       have FF := And.intro wi FF
       refine awp_rlast (by decide) fun KK hKK => ?_
       refine m_move ?_
       refine m_bin ?_
       refine m_assign ?_
       refine hKK _ _ ?_
       clear hKK KK
       simp only [blockQ_normal, thenQ_normal]
       try rw [thenQ_normal]
       refine ⟨(i + 1, k, out ++ [⟨x.id, 1, 0, 0⟩]), ?_, ?_, (by simp only [List.forall_mem_cons, List.forall_mem_nil, go_sem, reduceIte, Nat.reduceEqDiff, FF, List.length_append, List.length_cons, List.length_nil]; all_goals ((repeat' apply And.intro) <;> first | trivial | rfl | exact objLe_refl _ | (intro _ _; exact Subs.refl _))), ?_⟩
       · refine ⟨hi1, hk, by simp only [List.length_append, List.length_cons, List.length_nil]; omega, by rw [← hres]; simp⟩
       · dsimp only
         omega
       · dsimp only
         simp only [List.forall_mem_cons, List.forall_mem_nil, go_sem, reduceIte, Nat.reduceEqDiff, and_true]
         refine ⟨objLe_refl _, objLe_refl _, ?_⟩
         rw [List.length_append]
         exact objLe_rown rfl (dfR_app out [(⟨x.id, 1, 0, 0⟩ : Df)])
     · cases hc
   · by_cases hi1 : i = a.items.length
     · have hk2 : k < b.items.length := by omega
       have eB := itL_get hk2
       have hB : ((k : Int) == (b.items.length : Int)) = false := by rw [beq_eq_false_iff_ne]; omega
       have hA : decide ((i : Int) < (a.items.length : Int)) = false := by rw [decide_eq_false_iff_not]; omega
       have hA2 : ((i : Int) == (a.items.length : Int)) = true := by simp only [beq_iff_eq]; omega
       rw [merge_r hi1 hk2] at hres
       generalize b.items.getD k default = y at *
       clear hc
       refine awp_rseq_draw Tryz.mixed (by decide) (by kernel_rfl) fun KK hKK => ?_
       refine st0 rfl (k_move (by simp only [go_sem, reduceIte, Nat.reduceEqDiff, FF, hB, hA] <;> rfl)) ?_
       refine st0 rfl (k_field (by simp only [go_sem, reduceIte, Nat.reduceEqDiff, FF, hB, hA] <;> rfl) (by simp only [go_sem] <;> rfl) (by rfl) (by rfl) (by simp only [go_sem, reduceIte, Nat.reduceEqDiff, FF, hB, hA, Nat.reduceAdd, Nat.reduceSub, Nat.reduceMul, Nat.reduceLeDiff] <;> rfl) (by intro hG; simp only [go_sem])) ?_
       refine st1 rfl (k_load (by simp only [go_sem, reduceIte, Nat.reduceEqDiff, FF, hB, hA] <;> rfl) (by simp only [go_sem] <;> rfl) (by rfl) (by intro hG; simp only [go_sem]) (by first | exact lm_ptr (by simp only [go_sem, reduceIte, Nat.reduceEqDiff, FF, hB, hA] <;> rfl) (by simp only [go_sem, reduceIte, Nat.reduceEqDiff, FF, hB, hA, Nat.reduceAdd, Nat.reduceSub, Nat.reduceMul, Nat.reduceLeDiff] <;> rfl) (fun _ => Nat.le_of_ble_eq_true rfl) | exact lm_pim (by simp only [go_sem, reduceIte, Nat.reduceEqDiff, FF, hB, hA, Nat.reduceAdd, Nat.reduceSub, Nat.reduceMul, Nat.reduceLeDiff] <;> rfl) (fun _ => Nat.le_of_ble_eq_true rfl) | exact lm_rp (by simp only [go_sem, reduceIte, Nat.reduceEqDiff, FF, hB, hA] <;> rfl) (by simp only [go_sem, reduceIte, Nat.reduceEqDiff, FF, hB, hA, Nat.reduceAdd, Nat.reduceSub, Nat.reduceMul, Nat.reduceLeDiff] <;> rfl) (by intro hG; (repeat' apply And.intro) <;> first | rfl | omega | (dsimp only; omega) | (simp; done)))) ?_
       refine st1 rfl (k_len (by simp only [go_sem, reduceIte, Nat.reduceEqDiff, FF, hB, hA] <;> rfl) (by intro hG; simp only [go_sem]) (by first | exact nm_im (by simp only [go_sem] <;> rfl) | exact nm_own (by simp only [go_sem] <;> rfl) (by simp only [go_sem, reduceIte, Nat.reduceEqDiff, FF, hB, hA] <;> rfl) (by intro hG; (repeat' apply And.intro) <;> first | rfl | omega | (dsimp only; omega) | (simp; done)) | exact nm_emp (by simp only [go_sem] <;> rfl) | exact nm_osub (by simp only [go_sem] <;> rfl) (by simp only [go_sem, reduceIte, Nat.reduceEqDiff, FF, hB, hA] <;> rfl) (by intro hG; (repeat' apply And.intro) <;> first | rfl | omega | (dsimp only; omega) | (simp; done)) | exact nm_str (by simp only [go_sem] <;> rfl))) ?_
       refine st0 rfl (k_bin (by simp only [go_sem, reduceIte, Nat.reduceEqDiff, FF, hB, hA] <;> rfl) (by simp only [go_sem, reduceIte, Nat.reduceEqDiff, FF, hB, hA] <;> rfl) (by rfl) (by rfl) (by simp only [go_sem, reduceIte, Nat.reduceEqDiff, FF, hB, hA] <;> rfl) (by intro hG; simp only [go_sem])) ?_
       refine st0 rfl (k_move (by simp only [go_sem, reduceIte, Nat.reduceEqDiff, FF, hB, hA] <;> rfl)) ?_
       refine sg0 rfl rfl (by simp only [go_sem, reduceIte, Nat.reduceEqDiff, FF, hB, hA] <;> rfl) (by rfl) (by simp only [go_sem, reduceIte, Nat.reduceEqDiff, FF, hB, hA] <;> rfl) (k_move (by simp only [go_sem, reduceIte, Nat.reduceEqDiff, FF, hB, hA] <;> rfl)) ?_
       refine sg0 rfl rfl (by simp only [go_sem, reduceIte, Nat.reduceEqDiff, FF, hB, hA] <;> rfl) (by rfl) (by simp only [go_sem, reduceIte, Nat.reduceEqDiff, FF, hB, hA] <;> rfl) (k_field (by simp only [go_sem, reduceIte, Nat.reduceEqDiff, FF, hB, hA] <;> rfl) (by simp only [go_sem] <;> rfl) (by rfl) (by rfl) (by simp only [go_sem, reduceIte, Nat.reduceEqDiff, FF, hB, hA, Nat.reduceAdd, Nat.reduceSub, Nat.reduceMul, Nat.reduceLeDiff] <;> rfl) (by intro hG; simp only [go_sem, hG])) ?_
       refine sg1 rfl rfl (by simp only [go_sem, reduceIte, Nat.reduceEqDiff, FF, hB, hA] <;> rfl) (by rfl) (by simp only [go_sem, reduceIte, Nat.reduceEqDiff, FF, hB, hA] <;> rfl) (k_load (by simp only [go_sem, reduceIte, Nat.reduceEqDiff, FF, hB, hA] <;> rfl) (by simp only [go_sem] <;> rfl) (by rfl) (by intro hG; simp only [go_sem, hG]) (by first | exact lm_ptr (by simp only [go_sem, reduceIte, Nat.reduceEqDiff, FF, hB, hA] <;> rfl) (by simp only [go_sem, reduceIte, Nat.reduceEqDiff, FF, hB, hA, Nat.reduceAdd, Nat.reduceSub, Nat.reduceMul, Nat.reduceLeDiff] <;> rfl) (fun _ => Nat.le_of_ble_eq_true rfl) | exact lm_pim (by simp only [go_sem, reduceIte, Nat.reduceEqDiff, FF, hB, hA, Nat.reduceAdd, Nat.reduceSub, Nat.reduceMul, Nat.reduceLeDiff] <;> rfl) (fun _ => Nat.le_of_ble_eq_true rfl) | exact lm_rp (by simp only [go_sem, reduceIte, Nat.reduceEqDiff, FF, hB, hA] <;> rfl) (by simp only [go_sem, reduceIte, Nat.reduceEqDiff, FF, hB, hA, Nat.reduceAdd, Nat.reduceSub, Nat.reduceMul, Nat.reduceLeDiff] <;> rfl) (by intro hG; (repeat' apply And.intro) <;> first | rfl | omega | (simp only [Bool.not_eq_true', Bool.or_eq_false_iff, Bool.and_eq_true, decide_eq_true_eq, decide_eq_false_iff_not, beq_iff_eq] at hG; omega) | (dsimp only; omega) | (simp; done)))) ?_
       refine sg1 rfl rfl (by simp only [go_sem, reduceIte, Nat.reduceEqDiff, FF, hB, hA] <;> rfl) (by rfl) (by simp only [go_sem, reduceIte, Nat.reduceEqDiff, FF, hB, hA] <;> rfl) (k_len (by simp only [go_sem, reduceIte, Nat.reduceEqDiff, FF, hB, hA] <;> rfl) (by intro hG; simp only [go_sem, hG]) (by first | exact nm_im (by simp only [go_sem] <;> rfl) | exact nm_own (by simp only [go_sem] <;> rfl) (by simp only [go_sem, reduceIte, Nat.reduceEqDiff, FF, hB, hA] <;> rfl) (by intro hG; (repeat' apply And.intro) <;> first | rfl | omega | (simp only [Bool.not_eq_true', Bool.or_eq_false_iff, Bool.and_eq_true, decide_eq_true_eq, decide_eq_false_iff_not, beq_iff_eq] at hG; omega) | (dsimp only; omega) | (simp; done)) | exact nm_emp (by simp only [go_sem] <;> rfl) | exact nm_osub (by simp only [go_sem] <;> rfl) (by simp only [go_sem, reduceIte, Nat.reduceEqDiff, FF, hB, hA] <;> rfl) (by intro hG; (repeat' apply And.intro) <;> first | rfl | omega | (simp only [Bool.not_eq_true', Bool.or_eq_false_iff, Bool.and_eq_true, decide_eq_true_eq, decide_eq_false_iff_not, beq_iff_eq] at hG; omega) | (dsimp only; omega) | (simp; done)) | exact nm_str (by simp only [go_sem] <;> rfl))) ?_
       refine sg0 rfl rfl (by simp only [go_sem, reduceIte, Nat.reduceEqDiff, FF, hB, hA] <;> rfl) (by rfl) (by simp only [go_sem, reduceIte, Nat.reduceEqDiff, FF, hB, hA] <;> rfl) (k_bin (by simp only [go_sem, reduceIte, Nat.reduceEqDiff, FF, hB, hA] <;> rfl) (by simp only [go_sem, reduceIte, Nat.reduceEqDiff, FF, hB, hA] <;> rfl) (by rfl) (by rfl) (by simp only [go_sem, reduceIte, Nat.reduceEqDiff, FF, hB, hA] <;> rfl) (by intro hG; simp only [go_sem, hG])) ?_
       refine sg0 rfl rfl (by simp only [go_sem, reduceIte, Nat.reduceEqDiff, FF, hB, hA] <;> rfl) (by rfl) (by simp only [go_sem, reduceIte, Nat.reduceEqDiff, FF, hB, hA] <;> rfl) (k_move (by simp only [go_sem, reduceIte, Nat.reduceEqDiff, FF, hB, hA] <;> rfl)) ?_
       refine sgF rfl (by simp only [go_sem, reduceIte, Nat.reduceEqDiff, FF, hB, hA] <;> rfl) (by rfl) (by simp only [go_sem, reduceIte, Nat.reduceEqDiff, FF, hB, hA, hA] <;> rfl) ?_
       refine sgF rfl (by simp only [go_sem, reduceIte, Nat.reduceEqDiff, FF, hB, hA] <;> rfl) (by rfl) (by simp only [go_sem, reduceIte, Nat.reduceEqDiff, FF, hB, hA, hA] <;> rfl) ?_
       refine sgF rfl (by simp only [go_sem, reduceIte, Nat.reduceEqDiff, FF, hB, hA] <;> rfl) (by rfl) (by simp only [go_sem, reduceIte, Nat.reduceEqDiff, FF, hB, hA, hA] <;> rfl) ?_
       refine sgF rfl (by simp only [go_sem, reduceIte, Nat.reduceEqDiff, FF, hB, hA] <;> rfl) (by rfl) (by simp only [go_sem, reduceIte, Nat.reduceEqDiff, FF, hB, hA, hA] <;> rfl) ?_
       refine sgF rfl (by simp only [go_sem, reduceIte, Nat.reduceEqDiff, FF, hB, hA] <;> rfl) (by rfl) (by simp only [go_sem, reduceIte, Nat.reduceEqDiff, FF, hB, hA, hA] <;> rfl) ?_
       refine sgF rfl (by simp only [go_sem, reduceIte, Nat.reduceEqDiff, FF, hB, hA] <;> rfl) (by rfl) (by simp only [go_sem, reduceIte, Nat.reduceEqDiff, FF, hB, hA, hA] <;> rfl) ?_
       refine sgF rfl (by simp only [go_sem, reduceIte, Nat.reduceEqDiff, FF, hB, hA] <;> rfl) (by rfl) (by simp only [go_sem, reduceIte, Nat.reduceEqDiff, FF, hB, hA, hA] <;> rfl) ?_
       refine sgF rfl (by simp only [go_sem, reduceIte, Nat.reduceEqDiff, FF, hB, hA] <;> rfl) (by rfl) (by simp only [go_sem, reduceIte, Nat.reduceEqDiff, FF, hB, hA, hA] <;> rfl) ?_
       refine sgF rfl (by simp only [go_sem, reduceIte, Nat.reduceEqDiff, FF, hB, hA] <;> rfl) (by rfl) (by simp only [go_sem, reduceIte, Nat.reduceEqDiff, FF, hB, hA, hA] <;> rfl) ?_
       refine sgF rfl (by simp only [go_sem, reduceIte, Nat.reduceEqDiff, FF, hB, hA] <;> rfl) (by rfl) (by simp only [go_sem, reduceIte, Nat.reduceEqDiff, FF, hB, hA, hA] <;> rfl) ?_
       refine sgF rfl (by simp only [go_sem, reduceIte, Nat.reduceEqDiff, FF, hB, hA] <;> rfl) (by rfl) (by simp only [go_sem, reduceIte, Nat.reduceEqDiff, FF, hB, hA, hA] <;> rfl) ?_
       refine sgF rfl (by simp only [go_sem, reduceIte, Nat.reduceEqDiff, FF, hB, hA] <;> rfl) (by rfl) (by simp only [go_sem, reduceIte, Nat.reduceEqDiff, FF, hB, hA, hA] <;> rfl) ?_
       refine sgF rfl (by simp only [go_sem, reduceIte, Nat.reduceEqDiff, FF, hB, hA] <;> rfl) (by rfl) (by simp only [go_sem, reduceIte, Nat.reduceEqDiff, FF, hB, hA, hA] <;> rfl) ?_
       refine sg0 rfl rfl (by simp only [go_sem, reduceIte, Nat.reduceEqDiff, FF, hB, hA] <;> rfl) (by rfl) (by simp only [go_sem, reduceIte, Nat.reduceEqDiff, FF, hB, hA] <;> rfl) (k_pick (by simp only [go_sem, reduceIte, Nat.reduceEqDiff, FF, hB, hA] <;> rfl) (by simp only [go_sem, reduceIte, Nat.reduceEqDiff, FF, hB, hA] <;> rfl) (by simp only [go_sem, reduceIte, Nat.reduceEqDiff, FF, hB, hA] <;> rfl) (by rfl) (by rfl) (by rfl) (by intro hG; first | (simp only [go_sem, reduceIte, Nat.reduceEqDiff, FF, hB, hA, hA]; done) | (simp [go_sem]; done) | (simp [go_sem] at hG ⊢ <;> simp [hG] <;> (intros; simp_all))) (by first | (simp only [go_sem, reduceIte, Nat.reduceEqDiff, FF, hB, hA] <;> rfl) | rfl)) ?_
       refine st0 rfl (k_pick (by simp only [go_sem, reduceIte, Nat.reduceEqDiff, FF, hB, hA] <;> rfl) (by simp only [go_sem, reduceIte, Nat.reduceEqDiff, FF, hB, hA] <;> rfl) (by simp only [go_sem, reduceIte, Nat.reduceEqDiff, FF, hB, hA] <;> rfl) (by rfl) (by rfl) (by rfl) (by intro hG; first | (simp only [go_sem, reduceIte, Nat.reduceEqDiff, FF, hB, hA, hA]; done) | (simp [go_sem]; done) | (simp [go_sem] at hG ⊢ <;> simp [hG] <;> (intros; simp_all))) (by first | (simp only [go_sem, reduceIte, Nat.reduceEqDiff, FF, hB, hA] <;> rfl) | rfl)) ?_
       refine st0 rfl (k_assign (by simp only [go_sem, reduceIte, Nat.reduceEqDiff, FF, hB, hA] <;> rfl)) ?_
       refine hKK _ _ ?_
       clear hKK KK
       refine awp_cond (by simp only [go_sem, reduceIte, Nat.reduceEqDiff, FF, hB, hA] <;> rfl) (fun hc => ?_) (fun hc => ?_)
       · cases hc
       clear hc
       refine awp_rseq_draw Tryz.mixed (by decide) (by kernel_rfl) fun KK hKK => ?_
       refine st0 rfl (k_move (by simp only [go_sem, reduceIte, Nat.reduceEqDiff, FF, hA2] <;> rfl)) ?_
       refine st0 rfl (k_field (by simp only [go_sem, reduceIte, Nat.reduceEqDiff, FF, hA2] <;> rfl) (by simp only [go_sem] <;> rfl) (by rfl) (by rfl) (by simp only [go_sem, reduceIte, Nat.reduceEqDiff, FF, hA2, Nat.reduceAdd, Nat.reduceSub, Nat.reduceMul, Nat.reduceLeDiff] <;> rfl) (by intro hG; simp only [go_sem])) ?_
       refine st1 rfl (k_load (by simp only [go_sem, reduceIte, Nat.reduceEqDiff, FF, hA2] <;> rfl) (by simp only [go_sem] <;> rfl) (by rfl) (by intro hG; simp only [go_sem]) (by first | exact lm_ptr (by simp only [go_sem, reduceIte, Nat.reduceEqDiff, FF, hA2] <;> rfl) (by simp only [go_sem, reduceIte, Nat.reduceEqDiff, FF, hA2, Nat.reduceAdd, Nat.reduceSub, Nat.reduceMul, Nat.reduceLeDiff] <;> rfl) (fun _ => Nat.le_of_ble_eq_true rfl) | exact lm_pim (by simp only [go_sem, reduceIte, Nat.reduceEqDiff, FF, hA2, Nat.reduceAdd, Nat.reduceSub, Nat.reduceMul, Nat.reduceLeDiff] <;> rfl) (fun _ => Nat.le_of_ble_eq_true rfl) | exact lm_rp (by simp only [go_sem, reduceIte, Nat.reduceEqDiff, FF, hA2] <;> rfl) (by simp only [go_sem, reduceIte, Nat.reduceEqDiff, FF, hA2, Nat.reduceAdd, Nat.reduceSub, Nat.reduceMul, Nat.reduceLeDiff] <;> rfl) (by intro hG; (repeat' apply And.intro) <;> first | rfl | omega | (dsimp only; omega) | (simp; done)))) ?_
       refine st1 rfl (k_len (by simp only [go_sem, reduceIte, Nat.reduceEqDiff, FF, hA2] <;> rfl) (by intro hG; simp only [go_sem]) (by first | exact nm_im (by simp only [go_sem] <;> rfl) | exact nm_own (by simp only [go_sem] <;> rfl) (by simp only [go_sem, reduceIte, Nat.reduceEqDiff, FF, hA2] <;> rfl) (by intro hG; (repeat' apply And.intro) <;> first | rfl | omega | (dsimp only; omega) | (simp; done)) | exact nm_emp (by simp only [go_sem] <;> rfl) | exact nm_osub (by simp only [go_sem] <;> rfl) (by simp only [go_sem, reduceIte, Nat.reduceEqDiff, FF, hA2] <;> rfl) (by intro hG; (repeat' apply And.intro) <;> first | rfl | omega | (dsimp only; omega) | (simp; done)) | exact nm_str (by simp only [go_sem] <;> rfl))) ?_
       refine st0 rfl (k_bin (by simp only [go_sem, reduceIte, Nat.reduceEqDiff, FF, hA2] <;> rfl) (by simp only [go_sem, reduceIte, Nat.reduceEqDiff, FF, hA2] <;> rfl) (by rfl) (by rfl) (by simp only [go_sem, reduceIte, Nat.reduceEqDiff, FF, hA2] <;> rfl) (by intro hG; simp only [go_sem])) ?_
       refine st0 rfl (k_move (by simp only [go_sem, reduceIte, Nat.reduceEqDiff, FF, hA2] <;> rfl)) ?_
       refine sgF rfl (by simp only [go_sem, reduceIte, Nat.reduceEqDiff, FF, hA2] <;> rfl) (by rfl) (by simp only [go_sem, reduceIte, Nat.reduceEqDiff, FF, hA2, hA2] <;> rfl) ?_
       refine sgF rfl (by simp only [go_sem, reduceIte, Nat.reduceEqDiff, FF, hA2] <;> rfl) (by rfl) (by simp only [go_sem, reduceIte, Nat.reduceEqDiff, FF, hA2, hA2] <;> rfl) ?_
       refine sgF rfl (by simp only [go_sem, reduceIte, Nat.reduceEqDiff, FF, hA2] <;> rfl) (by rfl) (by simp only [go_sem, reduceIte, Nat.reduceEqDiff, FF, hA2, hA2] <;> rfl) ?_
       refine sgF rfl (by simp only [go_sem, reduceIte, Nat.reduceEqDiff, FF, hA2] <;> rfl) (by rfl) (by simp only [go_sem, reduceIte, Nat.reduceEqDiff, FF, hA2, hA2] <;> rfl) ?_
       refine sgF rfl (by simp only [go_sem, reduceIte, Nat.reduceEqDiff, FF, hA2] <;> rfl) (by rfl) (by simp only [go_sem, reduceIte, Nat.reduceEqDiff, FF, hA2, hA2] <;> rfl) ?_
       refine sgF rfl (by simp only [go_sem, reduceIte, Nat.reduceEqDiff, FF, hA2] <;> rfl) (by rfl) (by simp only [go_sem, reduceIte, Nat.reduceEqDiff, FF, hA2, hA2] <;> rfl) ?_
       refine sgF rfl (by simp only [go_sem, reduceIte, Nat.reduceEqDiff, FF, hA2] <;> rfl) (by rfl) (by simp only [go_sem, reduceIte, Nat.reduceEqDiff, FF, hA2, hA2] <;> rfl) ?_
       refine sgF rfl (by simp only [go_sem, reduceIte, Nat.reduceEqDiff, FF, hA2] <;> rfl) (by rfl) (by simp only [go_sem, reduceIte, Nat.reduceEqDiff, FF, hA2, hA2] <;> rfl) ?_
       refine sgF rfl (by simp only [go_sem, reduceIte, Nat.reduceEqDiff, FF, hA2] <;> rfl) (by rfl) (by simp only [go_sem, reduceIte, Nat.reduceEqDiff, FF, hA2, hA2] <;> rfl) ?_
       refine sgF rfl (by simp only [go_sem, reduceIte, Nat.reduceEqDiff, FF, hA2] <;> rfl) (by rfl) (by simp only [go_sem, reduceIte, Nat.reduceEqDiff, FF, hA2, hA2] <;> rfl) ?_
       refine sgF rfl (by simp only [go_sem, reduceIte, Nat.reduceEqDiff, FF, hA2] <;> rfl) (by rfl) (by simp only [go_sem, reduceIte, Nat.reduceEqDiff, FF, hA2, hA2] <;> rfl) ?_
       refine sgF rfl (by simp only [go_sem, reduceIte, Nat.reduceEqDiff, FF, hA2] <;> rfl) (by rfl) (by simp only [go_sem, reduceIte, Nat.reduceEqDiff, FF, hA2, hA2] <;> rfl) ?_
       refine sgF rfl (by simp only [go_sem, reduceIte, Nat.reduceEqDiff, FF, hA2] <;> rfl) (by rfl) (by simp only [go_sem, reduceIte, Nat.reduceEqDiff, FF, hA2, hA2] <;> rfl) ?_
       refine st0 rfl (k_pick (by simp only [go_sem, reduceIte, Nat.reduceEqDiff, FF, hA2] <;> rfl) (by simp only [go_sem, reduceIte, Nat.reduceEqDiff, FF, hA2] <;> rfl) (by simp only [go_sem, reduceIte, Nat.reduceEqDiff, FF, hA2] <;> rfl) (by rfl) (by rfl) (by rfl) (by intro hG; first | (simp only [go_sem, reduceIte, Nat.reduceEqDiff, FF, hA2, hA2]; done) | (simp [go_sem]; done) | (simp [go_sem] at hG ⊢ <;> simp [hG] <;> (intros; simp_all))) (by first | (simp only [go_sem, reduceIte, Nat.reduceEqDiff, FF, hA2] <;> rfl) | rfl)) ?_
       refine st0 rfl (k_assign (by simp only [go_sem, reduceIte, Nat.reduceEqDiff, FF, hA2] <;> rfl)) ?_
       refine hKK _ _ ?_
       clear hKK KK
       refine awp_cond (by simp only [go_sem, reduceIte, Nat.reduceEqDiff, FF, hA2] <;> rfl) (fun hc => ?_) (fun hc => ?_)
       · have FF := And.intro eB FF
         refine awp_rseq (by decide) fun KK hKK => ?_
         refine m_move ?_
         refine m_field ?_
         refine m_load ?_
         refine m_move ?_
         first | refine m_index ?_ | refine m_idxA ?_
         refine m_field ?_
         refine m_load ?_
         first | refine m_build ?_ | refine m_buildA ?_
         refine m_sliceN ?_
         first | refine m_appOwn ?_ | refine m_appEmp ?_
         refine m_assign ?_
         refine hKK _ _ ?_
         clear hKK KK
         have FF := And.intro wk FF
         refine awp_rlast (by decide) fun KK hKK => ?_
         refine m_move ?_
         refine m_bin ?_
         refine m_assign ?_
         refine hKK _ _ ?_
         clear hKK KK
         simp only [blockQ_normal, thenQ_normal]
         try rw [thenQ_normal]
         refine ⟨(i, k + 1, out ++ [⟨y.id, 0, 0, 0⟩]), ?_, ?_, (by simp only [List.forall_mem_cons, List.forall_mem_nil, go_sem, reduceIte, Nat.reduceEqDiff, FF, List.length_append, List.length_cons, List.length_nil]; all_goals ((repeat' apply And.intro) <;> first | trivial | rfl | exact objLe_refl _ | (intro _ _; exact Subs.refl _))), ?_⟩
         · refine ⟨hi, hk2, by simp only [List.length_append, List.length_cons, List.length_nil]; omega, by rw [← hres]; simp⟩
         · dsimp only
           omega
         · dsimp only
           simp only [List.forall_mem_cons, List.forall_mem_nil, go_sem, reduceIte, Nat.reduceEqDiff, and_true]
           refine ⟨objLe_refl _, objLe_refl _, ?_⟩
           rw [List.length_append]
           exact objLe_rown rfl (dfR_app out [(⟨y.id, 0, 0, 0⟩ : Df)])
       · cases hc
     · have hi2 : i < a.items.length := by omega
       have hk2 : k < b.items.length := by omega
       have eA := itL_get hi2
       have eB := itL_get hk2
       have hB : ((k : Int) == (b.items.length : Int)) = false := by rw [beq_eq_false_iff_ne]; omega
       have hA : decide ((i : Int) < (a.items.length : Int)) = true := by rw [decide_eq_true_eq]; omega
       have hA2 : ((i : Int) == (a.items.length : Int)) = false := by rw [beq_eq_false_iff_ne]; omega
       rw [merge_c hi2 hk2] at hres
       have dl := diffs_len (a.items.getD i default) (b.items.getD k default)
       generalize a.items.getD i default = x at *
       generalize b.items.getD k default = y at *
       clear hc
       have FF := And.intro hB (And.intro hA (And.intro eA (And.intro eB FF)))
       refine awp_rseq_draw Tryz.mixed (by decide) (by kernel_rfl) fun KK hKK => ?_
       refine m_move ?_
       refine m_field ?_
       refine m_load ?_
       refine m_len ?_
       refine m_bin ?_
       refine m_move ?_
       refine g_move ?_
       refine g_field ?_
       refine g_load ?_
       refine g_len ?_
       refine g_bin ?_
       refine g_move ?_
       refine g_field ?_
       refine g_load ?_
       refine g_move ?_
       first | refine g_index ?_ | refine g_idxA ?_
       refine g_field ?_
       refine g_load ?_
       refine g_field ?_
       refine g_load ?_
       refine g_move ?_
       first | refine g_index ?_ | refine g_idxA ?_
       refine g_field ?_
       refine g_load ?_
       refine g_bin ?_
       refine g_pick ?_
       refine m_pick ?_
       refine m_assign ?_
       refine hKK _ _ ?_
       clear hKK KK
       refine m_cond (fun hc => ?_) (fun hc => ?_)
       · rw [lessT] at hc
         rw [if_pos hc] at hres
         have FF := And.intro eA FF
         refine awp_rseq (by decide) fun KK hKK => ?_
         refine m_move ?_
         refine m_field ?_
         refine m_load ?_
         refine m_move ?_
         first | refine m_index ?_ | refine m_idxA ?_
         refine m_field ?_
         refine m_load ?_
         first | refine m_build ?_ | refine m_buildA ?_
         refine m_sliceN ?_
         first | refine m_appOwn ?_ | refine m_appEmp ?_
         refine m_assign ?_
         refine hKK _ _ ?_
         clear hKK KK
         have FF := And.intro wi FF
         refine awp_rlast (by decide) fun KK hKK => ?_
         refine m_move ?_
         refine m_bin ?_
         refine m_assign ?_
         refine hKK _ _ ?_
         clear hKK KK
         simp only [blockQ_normal, thenQ_normal]
         try rw [thenQ_normal]
         refine ⟨(i + 1, k, out ++ [⟨x.id, 1, 0, 0⟩]), ?_, ?_, (by simp only [List.forall_mem_cons, List.forall_mem_nil, go_sem, reduceIte, Nat.reduceEqDiff, FF, List.length_append, List.length_cons, List.length_nil]; all_goals ((repeat' apply And.intro) <;> first | trivial | rfl | exact objLe_refl _ | (intro _ _; exact Subs.refl _))), ?_⟩
         · refine ⟨hi2, hk, by simp only [List.length_append, List.length_cons, List.length_nil]; omega, by rw [← hres]; simp⟩
         · dsimp only
           omega
         · dsimp only
           simp only [List.forall_mem_cons, List.forall_mem_nil, go_sem, reduceIte, Nat.reduceEqDiff, and_true]
           refine ⟨objLe_refl _, objLe_refl _, ?_⟩
           rw [List.length_append]
           exact objLe_rown rfl (dfR_app out [(⟨x.id, 1, 0, 0⟩ : Df)])
       rw [lessT] at hc
       rw [if_neg (by rw [hc]; decide)] at hres
       clear hc
       have FF := And.intro hA2 (And.intro eA (And.intro eB FF))
       refine awp_rseq_draw Tryz.mixed (by decide) (by kernel_rfl) fun KK hKK => ?_
       refine m_move ?_
       refine m_field ?_
       refine m_load ?_
       refine m_len ?_
       refine m_bin ?_
       refine m_move ?_
       refine g_field ?_
       refine g_load ?_
       refine g_move ?_
       first | refine g_index ?_ | refine g_idxA ?_
       refine g_field ?_
       refine g_load ?_
       refine g_field ?_
       refine g_load ?_
       refine g_move ?_
       first | refine g_index ?_ | refine g_idxA ?_
       refine g_field ?_
       refine g_load ?_
       refine g_bin ?_
       refine m_pick ?_
       refine m_assign ?_
       refine hKK _ _ ?_
       clear hKK KK
       refine m_cond (fun hc => ?_) (fun hc => ?_)
       · rw [lessT] at hc
         rw [if_pos hc] at hres
         have FF := And.intro eB FF
         refine awp_rseq (by decide) fun KK hKK => ?_
         refine m_move ?_
         refine m_field ?_
         refine m_load ?_
         refine m_move ?_
         first | refine m_index ?_ | refine m_idxA ?_
         refine m_field ?_
         refine m_load ?_
         first | refine m_build ?_ | refine m_buildA ?_
         refine m_sliceN ?_
         first | refine m_appOwn ?_ | refine m_appEmp ?_
         refine m_assign ?_
         refine hKK _ _ ?_
         clear hKK KK
         have FF := And.intro wk FF
         refine awp_rlast (by decide) fun KK hKK => ?_
         refine m_move ?_
         refine m_bin ?_
         refine m_assign ?_
         refine hKK _ _ ?_
         clear hKK KK
         simp only [blockQ_normal, thenQ_normal]
         try rw [thenQ_normal]
         refine ⟨(i, k + 1, out ++ [⟨y.id, 0, 0, 0⟩]), ?_, ?_, (by simp only [List.forall_mem_cons, List.forall_mem_nil, go_sem, reduceIte, Nat.reduceEqDiff, FF, List.length_append, List.length_cons, List.length_nil]; all_goals ((repeat' apply And.intro) <;> first | trivial | rfl | exact objLe_refl _ | (intro _ _; exact Subs.refl _))), ?_⟩
         · refine ⟨hi, hk2, by simp only [List.length_append, List.length_cons, List.length_nil]; omega, by rw [← hres]; simp⟩
         · dsimp only
           omega
         · dsimp only
           simp only [List.forall_mem_cons, List.forall_mem_nil, go_sem, reduceIte, Nat.reduceEqDiff, and_true]
           refine ⟨objLe_refl _, objLe_refl _, ?_⟩
           rw [List.length_append]
           exact objLe_rown rfl (dfR_app out [(⟨y.id, 0, 0, 0⟩ : Df)])
       rw [lessT] at hc
       rw [if_neg (by rw [hc]; decide)] at hres
       clear hc
       have FF := And.intro eA (And.intro eB FF)
       refine awp_rseq_draw Tryz.mixed (by decide) (by kernel_rfl) fun KK hKK => ?_
       refine m_move ?_
       refine m_field ?_
       refine m_load ?_
       refine m_move ?_
       first | refine m_index ?_ | refine m_idxA ?_
       refine m_load ?_
       refine m_field ?_
       refine m_load ?_
       refine m_move ?_
       first | refine m_index ?_ | refine m_idxA ?_
       refine m_load ?_
       refine m_call (fun hG => between_ok _ _) ?_
       first | refine m_appOwn ?_ | refine m_appEmp ?_
       refine m_assign ?_
       refine hKK _ _ ?_
       clear hKK KK
       have FF := And.intro wi FF
       refine awp_rseq (by decide) fun KK hKK => ?_
       refine m_move ?_
       refine m_bin ?_
       refine m_assign ?_
       refine hKK _ _ ?_
       clear hKK KK
       have FF := And.intro wk FF
       refine awp_rlast (by decide) fun KK hKK => ?_
       refine m_move ?_
       refine m_bin ?_
       refine m_assign ?_
       refine hKK _ _ ?_
       clear hKK KK
       simp only [blockQ_normal, thenQ_normal]
       try rw [thenQ_normal]
       refine ⟨(i + 1, k + 1, out ++ diffsF x y), ?_, ?_, (by simp only [List.forall_mem_cons, List.forall_mem_nil, go_sem, reduceIte, Nat.reduceEqDiff, FF, List.length_append, List.length_cons, List.length_nil]; all_goals ((repeat' apply And.intro) <;> first | trivial | rfl | exact objLe_refl _ | (intro _ _; exact Subs.refl _))), ?_⟩
       · refine ⟨hi2, hk2, by simp only [List.length_append]; omega, by rw [← hres]; simp⟩
       · dsimp only
         omega
       · dsimp only
         simp only [List.forall_mem_cons, List.forall_mem_nil, go_sem, reduceIte, Nat.reduceEqDiff, and_true]
         refine ⟨objLe_refl _, objLe_refl _, ?_⟩
         rw [List.length_append]
         exact objLe_rown rfl (dfR_app out (diffsF x y))
 · refine awp_exit ?_
   simp only [thenQ_exit, blockQ_exit, reduceIte, Nat.reduceEqDiff]
   try rw [thenQ_normal]
   simp only [Bool.or_eq_false_iff, decide_eq_false_iff_not] at hc
   rw [merge_nn (by omega) (by omega), List.append_nil] at hres
   subst hres
   refine m_frz 100 [(7, .c (dfL (mergeF a.items b.items)))] [] ?_
   refine awp_rseq (by decide) fun KK hKK => ?_
   refine m_move ?_
   refine m_assign ?_
   refine m_assign ?_
   refine hKK _ _ ?_
   clear hKK KK
   refine awp_ret ⟨[_, _], ⟨⟨(by simp only [go_sem, reduceIte, Nat.reduceEqDiff, FF]), (by simp only [go_sem, reduceIte, Nat.reduceEqDiff, FF] <;> rfl)⟩, ⟨(by simp only [go_sem, reduceIte, Nat.reduceEqDiff, FF]), (by simp only [go_sem, reduceIte, Nat.reduceEqDiff, FF] <;> rfl)⟩, trivial⟩, ?_⟩
   simp only [go_sem, reduceIte, Nat.reduceEqDiff, FF, tupled]
   exact CV.Sub.refl _
end Go.Am
namespace Go.Am
open Go.Proofs
attribute [local go_sem ↓] ofL_cons ofH_cons upd_apply
set_option maxHeartbeats 4000000
set_option linter.unusedSimpArgs false
theorem mergeF_len : ∀ a b : List It, (mergeF a b).length ≤ 4 * (a.length + b.length)
 | [], [] => by simp [mergeF]
 | x :: a, [] => by
   have := mergeF_len a []
   rw [mergeF, List.length_cons, List.length_cons]
   simp only [List.length_nil] at this ⊢
   omega
 | [], y :: b => by
   have := mergeF_len [] b
   rw [mergeF, List.length_cons, List.length_cons]
   simp only [List.length_nil] at this ⊢
   omega
 | x :: a, y :: b => by
   have h1 := mergeF_len a (y :: b)
   have h2 := mergeF_len (x :: a) b
   have h3 := mergeF_len a b
   have h4 := diffs_len x y
   rw [mergeF]
   split
   · simp only [List.length_cons] at h1 ⊢
     omega
   · split
     · simp only [List.length_cons] at h2 ⊢
       omega
     · simp only [List.length_append, List.length_cons] at h3 ⊢
       omega
 termination_by a b => a.length + b.length
theorem compare_len (a b : Rn) : (compareF a b).1.length ≤ 2048 := by
 unfold compareF
 split
 · exact Nat.zero_le _
 · split
   · exact Nat.zero_le _
   · rename_i h1 h2
     have := mergeF_len a.items b.items
     have := check_len (by simpa using h1 : checkF a = 0)
     have := check_len (by simpa using h2 : checkF b = 0)
     dsimp only
     omega
variable [Glb] [NoDr] [Tabs] [TabM]
theorem compares_ok (a b : Rn) (ha : a.items.length ≤ 9223372036854775807) (hb : b.items.length ≤ 9223372036854775807) : APure Tryz.prog 4 [.agg (rnC a), .agg (rnC b)] (.bool true) := by
 have FF : True := trivial
 refine apure_of Tryz.func4 rfl (by kernel_rfl) (by simp [Tryz.ntmps4]) ?_
 rw [Tryz.ntmps4]
 refine awp_rseq (by decide) fun KK hKK => ?_
 refine m_box ?_
 refine m_box ?_
 refine m_assign ?_
 refine hKK _ _ ?_
 clear hKK KK
 refine awp_seq ?_
 refine awp_rseq (by decide) fun KK hKK => ?_
 refine m_load ?_
 refine m_call (fun hG => rlight_ok a ha) ?_
 refine m_not ?_
 refine m_move ?_
 refine g_load ?_
 refine g_call (fun hG => rlight_ok b hb) ?_
 refine g_not ?_
 refine m_pick ?_
 refine hKK _ _ ?_
 clear hKK KK
 refine m_cond (fun hc => ?_) (fun hc => ?_)
 · refine awp_rseq (by decide) fun KK hKK => ?_
   refine m_call (fun hG => ex_ok) ?_
   refine m_assign ?_
   refine hKK _ _ ?_
   clear hKK KK
   refine awp_ret ⟨[_], ⟨⟨(by simp only [go_sem, reduceIte, Nat.reduceEqDiff, FF]), (by simp only [go_sem, reduceIte, Nat.reduceEqDiff, FF] <;> rfl)⟩, trivial⟩, ?_⟩
   simp only [go_sem, reduceIte, Nat.reduceEqDiff, FF, tupled]
   exact CV.Sub.refl _
 clear hc
 refine awp_skip ?_
 first | rw [thenQ_normal] | rw [blockQ_normal, thenQ_normal]
 refine awp_rseq (by decide) fun KK hKK => ?_
 refine m_load ?_
 refine m_load ?_
 refine m_call (fun hG => compare_ok a b ha hb) ?_
 refine m_move ?_
 refine m_extract ?_
 refine m_extract ?_
 refine m_assign ?_
 refine m_assign ?_
 refine hKK _ _ ?_
 clear hKK KK
 refine awp_rseq (by decide) fun KK hKK => ?_
 refine m_load ?_
 refine m_load ?_
 refine m_call (fun hG => rcompare_ok a b ha hb) ?_
 refine m_move ?_
 refine m_extract ?_
 refine m_extract ?_
 refine m_assign ?_
 refine m_assign ?_
 refine hKK _ _ ?_
 clear hKK KK
 have hlen := compare_len a b
 generalize compareF a b = p at *
 refine awp_rseq (by decide) fun KK hKK => ?_
 refine m_move ?_
 refine m_move ?_
 refine m_bin ?_
 refine m_move ?_
 refine g_move ?_
 refine g_move ?_
 refine g_call (fun hG => rsameD_ok p.1 p.1 (by omega)) ?_
 refine m_pick ?_
 refine m_move ?_
 refine g_call (fun hG => ex_ok) ?_
 refine m_pick ?_
 refine m_assign ?_
 refine hKK _ _ ?_
 clear hKK KK
 refine awp_ret ⟨[_], ⟨⟨(by simp only [go_sem, reduceIte, Nat.reduceEqDiff, FF]), (by simp only [go_sem, reduceIte, Nat.reduceEqDiff, FF] <;> rfl)⟩, trivial⟩, ?_⟩
 simp only [go_sem, reduceIte, Nat.reduceEqDiff, FF, tupled]
 refine CV.Sub.of_eq ?_
 simp
end Go.Am
