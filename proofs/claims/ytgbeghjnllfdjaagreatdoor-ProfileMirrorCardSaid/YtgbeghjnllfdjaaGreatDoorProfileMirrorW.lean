/- The walk of the law ProfileMirror. No condition. -/
import Derived.Test.YtgbeghjnllfdjaaGreatDoorS1
import Derived.Test.YtgbeghjnllfdjaaGreatDoorS2
import Derived.Test.YtgbeghjnllfdjaaGreatDoorT
set_option linter.unusedVariables false
set_option linter.unusedSimpArgs false
namespace Go.Am
theorem less_irrefl : ∀ l : List UInt8, Op.bytesLess l l = false
 | [] => rfl
 | c :: l => by simp [Op.bytesLess, less_irrefl l]
theorem less_total : ∀ a b : List UInt8, Op.bytesLess a b = false → Op.bytesLess b a = false → a = b
 | [], [], _, _ => rfl
 | [], _ :: _, h, _ => by simp [Op.bytesLess] at h
 | _ :: _, [], _, h => by simp [Op.bytesLess] at h
 | c :: a, d :: b, h1, h2 => by
   simp only [Op.bytesLess] at h1 h2
   by_cases e : c = d
   · subst e
     simp at h1 h2
     rw [less_total a b h1 h2]
   · exfalso
     by_cases hlt : c < d
     · simp [hlt] at h1
     · have : d < c := by
         rcases UInt8.lt_or_lt_of_ne e with h | h
         · exact absurd h hlt
         · exact h
       simp [this] at h2
theorem lessS_total {a b : ByteArray} (h1 : lessS a b = false) (h2 : lessS b a = false) : a = b := by
 obtain ⟨⟨x⟩⟩ := a
 obtain ⟨⟨y⟩⟩ := b
 have := less_total x y h1 h2
 rw [this]
theorem lessS_irrefl (a : ByteArray) : lessS a a = false := less_irrefl _
def mirK (k : Int) : Int := if k == 0 then 1 else if k == 1 then 0 else k
def mirD (d : Df) : Df := ⟨d.id, mirK d.kind, d.new, d.old⟩
theorem one1_mir (id : ByteArray) (k a b : Int) (hk : mirK k = k) : one1 id k b a = (one1 id k a b).map mirD := by
 unfold one1
 by_cases h : a = b
 · subst h; simp
 · rw [if_neg (by simpa using fun e => h e.symm), if_neg (by simpa using h)]
   simp [mirD, hk]
theorem diffsF_mir {x y : It} (h : x.id = y.id) : diffsF y x = (diffsF x y).map mirD := by
 rw [diffsF_eq, diffsF_eq, ← h]
 simp only [List.map_append]
 rw [one1_mir x.id 2 x.rd y.rd rfl, one1_mir x.id 3 x.ed y.ed rfl, one1_mir x.id 4 x.tk y.tk rfl, one1_mir x.id 5 _ _ rfl]
theorem less_asymm : ∀ a b : List UInt8, Op.bytesLess a b = true → Op.bytesLess b a = false
 | [], [], h => by simp [Op.bytesLess] at h
 | [], _ :: _, _ => by simp [Op.bytesLess]
 | _ :: _, [], h => by simp [Op.bytesLess] at h
 | c :: a, d :: b, h => by
   simp only [Op.bytesLess, Bool.or_eq_true, decide_eq_true_eq, Bool.and_eq_true, beq_iff_eq] at h
   simp only [Op.bytesLess, Bool.or_eq_false_iff, decide_eq_false_iff_not, Bool.and_eq_false_iff]
   rcases h with h | ⟨rfl, h⟩
   · refine ⟨fun h2 => ?_, .inl ?_⟩
     · exact absurd (UInt8.lt_trans h h2) (UInt8.lt_irrefl _)
     · simp only [beq_eq_false_iff_ne, ne_eq]
       intro e
       subst e
       exact absurd h (UInt8.lt_irrefl _)
   · exact ⟨UInt8.lt_irrefl _, .inr (less_asymm a b h)⟩
theorem lessS_asymm {a b : ByteArray} (h : lessS a b = true) : lessS b a = false := less_asymm _ _ h
theorem mergeF_mir : ∀ a b : List It, mergeF b a = (mergeF a b).map mirD
 | [], [] => by simp [mergeF]
 | x :: a, [] => by
   rw [mergeF, mergeF, mergeF_mir a []]
   simp [mirD, mirK]
 | [], y :: b => by
   rw [mergeF, mergeF, mergeF_mir [] b]
   simp [mirD, mirK]
 | x :: a, y :: b => by
   rw [mergeF, mergeF]
   by_cases h1 : lessS x.id y.id = true
   · have h2 := lessS_asymm h1
     rw [if_neg (by rw [h2]; decide), if_pos h1, if_pos h1, mergeF_mir a (y :: b)]
     simp [mirD, mirK]
   · have h1' : lessS x.id y.id = false := by simpa using h1
     by_cases h2 : lessS y.id x.id = true
     · rw [if_pos h2, if_neg h1, if_pos h2, mergeF_mir (x :: a) b]
       simp [mirD, mirK]
     · have h2' : lessS y.id x.id = false := by simpa using h2
       rw [if_neg h2, if_neg h1, if_neg h1, if_neg h2, diffsF_mir (lessS_total h1' h2'), mergeF_mir a b, List.map_append]
 termination_by a b => a.length + b.length
end Go.Am
namespace Go.Am
open Go.Proofs
attribute [local go_sem ↓] ofL_cons ofH_cons upd_apply
set_option maxHeartbeats 1000000
set_option linter.unusedSimpArgs false
variable [Glb]
theorem digit_ok (c : Int) : APure Tryz.prog 100 [.raw (.int .u8 c)] (.bool (digitB c)) := by
 have FF : True := trivial
 refine apure_of Tryz.func100 rfl (by kernel_rfl) (by simp [Tryz.ntmps100]) ?_
 rw [Tryz.ntmps100]
 refine awp_rseq (by decide) fun KK hKK => ?_
 refine m_assign ?_
 refine hKK _ _ ?_
 clear hKK KK
 refine awp_rseq (by decide) fun KK hKK => ?_
 refine m_move ?_
 refine m_bin ?_
 refine m_move ?_
 refine g_move ?_
 refine g_bin ?_
 refine m_pick ?_
 refine m_assign ?_
 refine hKK _ _ ?_
 clear hKK KK
 refine awp_ret ⟨[_], ⟨⟨(by simp only [go_sem, reduceIte, Nat.reduceEqDiff, FF]), (by simp only [go_sem, reduceIte, Nat.reduceEqDiff, FF] <;> rfl)⟩, trivial⟩, ?_⟩
 simp only [go_sem, reduceIte, Nat.reduceEqDiff, FF, tupled]
 exact CV.Sub.refl _
theorem lower_ok (c : Int) : APure Tryz.prog 201 [.raw (.int .u8 c)] (.bool (lowerB c)) := by
 have FF : True := trivial
 refine apure_of Tryz.func201 rfl (by kernel_rfl) (by simp [Tryz.ntmps201]) ?_
 rw [Tryz.ntmps201]
 refine awp_rseq (by decide) fun KK hKK => ?_
 refine m_assign ?_
 refine hKK _ _ ?_
 clear hKK KK
 refine awp_rseq (by decide) fun KK hKK => ?_
 refine m_move ?_
 refine m_bin ?_
 refine m_move ?_
 refine g_move ?_
 refine g_bin ?_
 refine m_pick ?_
 refine m_assign ?_
 refine hKK _ _ ?_
 clear hKK KK
 refine awp_ret ⟨[_], ⟨⟨(by simp only [go_sem, reduceIte, Nat.reduceEqDiff, FF]), (by simp only [go_sem, reduceIte, Nat.reduceEqDiff, FF] <;> rfl)⟩, trivial⟩, ?_⟩
 simp only [go_sem, reduceIte, Nat.reduceEqDiff, FF, tupled]
 exact CV.Sub.refl _
theorem upper_ok (c : Int) : APure Tryz.prog 200 [.raw (.int .u8 c)] (.bool (upperB c)) := by
 have FF : True := trivial
 refine apure_of Tryz.func200 rfl (by kernel_rfl) (by simp [Tryz.ntmps200]) ?_
 rw [Tryz.ntmps200]
 refine awp_rseq (by decide) fun KK hKK => ?_
 refine m_assign ?_
 refine hKK _ _ ?_
 clear hKK KK
 refine awp_rseq (by decide) fun KK hKK => ?_
 refine m_move ?_
 refine m_bin ?_
 refine m_move ?_
 refine g_move ?_
 refine g_bin ?_
 refine m_pick ?_
 refine m_assign ?_
 refine hKK _ _ ?_
 clear hKK KK
 refine awp_ret ⟨[_], ⟨⟨(by simp only [go_sem, reduceIte, Nat.reduceEqDiff, FF]), (by simp only [go_sem, reduceIte, Nat.reduceEqDiff, FF] <;> rfl)⟩, trivial⟩, ?_⟩
 simp only [go_sem, reduceIte, Nat.reduceEqDiff, FF, tupled]
 exact CV.Sub.refl _
theorem part_ok (c : Int) (big : Bool) : APure Tryz.prog 101 [.raw (.int .u8 c), .bool big] (.bool (partB c big)) := by
 have FF : True := trivial
 refine apure_of Tryz.func101 rfl (by kernel_rfl) (by simp [Tryz.ntmps101]) ?_
 rw [Tryz.ntmps101]
 cases big
 · refine awp_rseq (by decide) fun KK hKK => ?_
   refine m_assign ?_
   refine hKK _ _ ?_
   clear hKK KK
   refine awp_rseq (by decide) fun KK hKK => ?_
   refine m_move ?_
   refine m_call (fun hG => digit_ok c) ?_
   refine m_move ?_
   refine g_move ?_
   refine g_bin ?_
   refine m_pick ?_
   refine m_move ?_
   refine g_move ?_
   refine g_move ?_
   refine g_move ?_
   refine g_call (fun hG => upper_ok c) ?_
   refine g_pick ?_
   refine m_pick ?_
   refine m_move ?_
   refine g_move ?_
   refine g_not ?_
   refine g_move ?_
   refine g_move ?_
   refine g_call (fun hG => lower_ok c) ?_
   refine g_pick ?_
   refine m_pick ?_
   refine m_assign ?_
   refine hKK _ _ ?_
   clear hKK KK
   refine awp_ret ⟨[_], ⟨⟨(by simp only [go_sem, reduceIte, Nat.reduceEqDiff, FF]), (by simp only [go_sem, reduceIte, Nat.reduceEqDiff, FF] <;> rfl)⟩, trivial⟩, ?_⟩
   simp only [go_sem, reduceIte, Nat.reduceEqDiff, FF, tupled]
   exact CV.Sub.of_eq (by simp [partB])
 · refine awp_rseq (by decide) fun KK hKK => ?_
   refine m_assign ?_
   refine hKK _ _ ?_
   clear hKK KK
   refine awp_rseq (by decide) fun KK hKK => ?_
   refine m_move ?_
   refine m_call (fun hG => digit_ok c) ?_
   refine m_move ?_
   refine g_move ?_
   refine g_bin ?_
   refine m_pick ?_
   refine m_move ?_
   refine g_move ?_
   refine g_move ?_
   refine g_move ?_
   refine g_call (fun hG => upper_ok c) ?_
   refine g_pick ?_
   refine m_pick ?_
   refine m_move ?_
   refine g_move ?_
   refine g_not ?_
   refine g_move ?_
   refine g_move ?_
   refine g_call (fun hG => lower_ok c) ?_
   refine g_pick ?_
   refine m_pick ?_
   refine m_assign ?_
   refine hKK _ _ ?_
   clear hKK KK
   refine awp_ret ⟨[_], ⟨⟨(by simp only [go_sem, reduceIte, Nat.reduceEqDiff, FF]), (by simp only [go_sem, reduceIte, Nat.reduceEqDiff, FF] <;> rfl)⟩, trivial⟩, ?_⟩
   simp only [go_sem, reduceIte, Nat.reduceEqDiff, FF, tupled]
   exact CV.Sub.of_eq (by simp [partB])
theorem named_ok (s : ByteArray) (big : Bool) : APure Tryz.prog 64 [.str s, .bool big] (.bool (namedB s big)) := by
 have FF : True := trivial
 refine apure_of Tryz.func64 rfl (by kernel_rfl) (by simp [Tryz.ntmps64]) ?_
 rw [Tryz.ntmps64]
 unfold namedB
 refine awp_rseq (by decide) fun KK hKK => ?_
 refine m_assign ?_
 refine hKK _ _ ?_
 clear hKK KK
 refine awp_seq ?_
 refine awp_rseq (by decide) fun KK hKK => ?_
 refine m_move ?_
 refine m_len ?_
 refine m_bin ?_
 refine m_move ?_
 refine g_move ?_
 refine g_len ?_
 refine g_bin ?_
 refine m_pick ?_
 refine m_move ?_
 refine g_move ?_
 refine g_idx ?_
 refine g_call (fun hG => digit_ok _) ?_
 refine m_pick ?_
 refine m_move ?_
 refine g_move ?_
 refine g_idx ?_
 refine g_bin ?_
 refine m_pick ?_
 refine hKK _ _ ?_
 clear hKK KK
 refine m_cond (fun hc => ?_) (fun hc => ?_)
 · rw [if_pos hc]
   refine awp_rseq (by decide) fun KK hKK => ?_
   refine m_assign ?_
   refine hKK _ _ ?_
   clear hKK KK
   refine awp_ret ⟨[_], ⟨⟨(by simp only [go_sem, reduceIte, Nat.reduceEqDiff, FF]), (by simp only [go_sem, reduceIte, Nat.reduceEqDiff, FF] <;> rfl)⟩, trivial⟩, ?_⟩
   simp only [go_sem, reduceIte, Nat.reduceEqDiff, FF, tupled]
   exact CV.Sub.refl _
 rw [if_neg (by rw [hc]; decide)]
 have hsz : s.size ≤ 32 := by simp only [Bool.or_eq_false_iff, decide_eq_false_iff_not] at hc; omega
 clear hc
 refine awp_skip ?_
 first | rw [thenQ_normal] | rw [blockQ_normal, thenQ_normal]
 refine awp_seq ?_
 refine awp_rseq (by decide) fun KK hKK => ?_
 refine m_assign ?_
 refine hKK _ _ ?_
 clear hKK KK
 refine awp_block ?_
 refine m_for (ι := Nat) (fun i => [(0, .str s), (1, .bool big), (5, .int i)]) (fun i => []) (fun i => s.size - i) (fun i => i ≤ s.size ∧ allB (fun c => partB c big) s i = true) (0) ?_ ?_
 · exact ⟨Nat.zero_le _, rfl⟩
 rintro i ⟨hi, hres⟩
 refine awp_seq ?_
 refine awp_rseq (by decide) fun KK hKK => ?_
 refine m_move ?_
 refine m_move ?_
 refine m_len ?_
 refine m_bin ?_
 refine hKK _ _ ?_
 clear hKK KK
 refine m_cond (fun hc => ?_) (fun hc => ?_)
 · simp only [decide_eq_true_eq] at hc
   have hi' : i < s.size := by omega
   have w3 : IntKind.i64.wrap ((i : Int) + 1) = ((i + 1 : Nat) : Int) := wrap_in (by omega)
   refine awp_skip ?_
   first | rw [thenQ_normal] | rw [blockQ_normal, thenQ_normal]
   refine awp_seq (awp_block ?_)
   clear hc
   refine awp_rseq (by decide) fun KK hKK => ?_
   refine m_move ?_
   refine m_move ?_
   refine m_idx ?_
   refine m_move ?_
   refine m_call (fun hG => part_ok (byteAt s i) big) ?_
   refine m_not ?_
   refine hKK _ _ ?_
   clear hKK KK
   refine m_cond (fun hc => ?_) (fun hc => ?_)
   · refine awp_rseq (by decide) fun KK hKK => ?_
     refine m_assign ?_
     refine hKK _ _ ?_
     clear hKK KK
     refine awp_ret ⟨[_], ⟨⟨(by simp only [go_sem, reduceIte, Nat.reduceEqDiff, FF]), (by simp only [go_sem, reduceIte, Nat.reduceEqDiff, FF] <;> rfl)⟩, trivial⟩, ?_⟩
     simp only [go_sem, reduceIte, Nat.reduceEqDiff, FF, tupled]
     rw [allB_false (p := fun c => partB c big) (i := i) (by simpa using hc) s.size hi']
     exact CV.Sub.refl _
   refine awp_skip ?_
   first | rw [thenQ_normal] | rw [blockQ_normal, thenQ_normal]
   have FF := And.intro w3 FF
   refine awp_rlast (by decide) fun KK hKK => ?_
   refine m_move ?_
   refine m_bin ?_
   refine m_assign ?_
   refine hKK _ _ ?_
   clear hKK KK
   try rw [thenQ_normal]
   refine m_next (i + 1) ?_ ?_
   · exact ⟨hi', by rw [allB, hres, Bool.true_and]; simpa using hc⟩
   · omega
 · refine awp_exit ?_
   simp only [thenQ_exit, blockQ_exit, reduceIte, Nat.reduceEqDiff]
   try rw [thenQ_normal]
   have hi' : i = s.size := by simp only [decide_eq_false_iff_not] at hc; omega
   refine awp_rseq (by decide) fun KK hKK => ?_
   refine m_assign ?_
   refine hKK _ _ ?_
   clear hKK KK
   refine awp_ret ⟨[_], ⟨⟨(by simp only [go_sem, reduceIte, Nat.reduceEqDiff, FF]), (by simp only [go_sem, reduceIte, Nat.reduceEqDiff, FF] <;> rfl)⟩, trivial⟩, ?_⟩
   simp only [go_sem, reduceIte, Nat.reduceEqDiff, FF, tupled]
   rw [hi'] at hres
   rw [hres]
   exact CV.Sub.refl _
theorem rname_ok (s : ByteArray) : APure Tryz.prog 28 [.str s] (.bool (namedB s false)) := by
 have FF : True := trivial
 refine apure_of Tryz.func28 rfl (by kernel_rfl) (by simp [Tryz.ntmps28]) ?_
 rw [Tryz.ntmps28]
 refine awp_rseq (by decide) fun KK hKK => ?_
 refine m_assign ?_
 refine hKK _ _ ?_
 clear hKK KK
 refine awp_rseq (by decide) fun KK hKK => ?_
 refine m_move ?_
 refine m_call (fun hG => named_ok s false) ?_
 refine m_assign ?_
 refine hKK _ _ ?_
 clear hKK KK
 refine awp_ret ⟨[_], ⟨⟨(by simp only [go_sem, reduceIte, Nat.reduceEqDiff, FF]), (by simp only [go_sem, reduceIte, Nat.reduceEqDiff, FF] <;> rfl)⟩, trivial⟩, ?_⟩
 simp only [go_sem, reduceIte, Nat.reduceEqDiff, FF, tupled]
 exact CV.Sub.refl _
end Go.Am
namespace Go.Am
open Go.Proofs
attribute [local go_sem ↓] ofL_cons ofH_cons upd_apply
set_option maxHeartbeats 1000000
set_option linter.unusedSimpArgs false
theorem all_take {α : Type} [Inhabited α] {l : List α} {i : Nat} (h : i < l.length) (p : α → Bool) : (l.take (i + 1)).all p = ((l.take i).all p && p (l.getD i default)) := by
 rw [List.take_succ_eq_append_getElem h, List.all_append, getD_lt h]
 simp
theorem all_not {α : Type} [Inhabited α] {l : List α} {i : Nat} (h : i < l.length) {p : α → Bool} (hp : p (l.getD i default) = false) : l.all p = false := by
 rw [List.all_eq_false]
 refine ⟨l[i], List.getElem_mem h, ?_⟩
 rw [getD_lt h] at hp
 simp [hp]
def lightB (r : Rn) : Bool := !(decide ((100 : Int) < r.name.size) || decide ((270 : Int) < r.items.length)) && r.items.all fun x => !decide ((100 : Int) < x.id.size)
variable [Glb]
theorem rlight_ok (r : Rn) (hl : r.items.length ≤ 9223372036854775807) : APure Tryz.prog 10 [.agg (rnC r)] (.bool (lightB r)) := by
 have FF : True := trivial
 refine apure_of Tryz.func10 rfl (by kernel_rfl) (by simp [Tryz.ntmps10]) ?_
 rw [Tryz.ntmps10]
 refine awp_rseq (by decide) fun KK hKK => ?_
 refine m_box ?_
 refine m_assign ?_
 refine hKK _ _ ?_
 clear hKK KK
 refine awp_seq ?_
 refine awp_rseq (by decide) fun KK hKK => ?_
 refine m_field ?_
 refine m_load ?_
 refine m_len ?_
 refine m_bin ?_
 refine m_move ?_
 refine g_field ?_
 refine g_load ?_
 refine g_len ?_
 refine g_bin ?_
 refine m_pick ?_
 refine hKK _ _ ?_
 clear hKK KK
 refine m_cond (fun hc => ?_) (fun hc => ?_)
 · refine awp_rseq (by decide) fun KK hKK => ?_
   refine m_assign ?_
   refine hKK _ _ ?_
   clear hKK KK
   refine awp_ret ⟨[_], ⟨⟨(by simp only [go_sem, reduceIte, Nat.reduceEqDiff, FF]), (by simp only [go_sem, reduceIte, Nat.reduceEqDiff, FF] <;> rfl)⟩, trivial⟩, ?_⟩
   simp only [go_sem, reduceIte, Nat.reduceEqDiff, FF, tupled]
   have e0 : lightB r = false := by unfold lightB; rw [hc]; rfl
   rw [e0]
   exact CV.Sub.refl _
 refine awp_skip ?_
 first | rw [thenQ_normal] | rw [blockQ_normal, thenQ_normal]
 refine awp_seq ?_
 refine awp_rseq (by decide) fun KK hKK => ?_
 refine m_assign ?_
 refine hKK _ _ ?_
 clear hKK KK
 refine awp_block ?_
 refine m_for (ι := Nat) (fun i => [(1, .ptr 1 0), (3, .int i)]) (fun i => [(1, .box 24 ((rnC r).map .c))]) (fun i => r.items.length - i) (fun i => i ≤ r.items.length ∧ (r.items.take i).all (fun x => !decide ((100 : Int) < x.id.size)) = true) (0) ?_ ?_
 · exact ⟨Nat.zero_le _, rfl⟩
 rintro i ⟨hi, hres⟩
 have hc0 := hc
 clear hc
 refine awp_seq ?_
 refine awp_rseq (by decide) fun KK hKK => ?_
 refine m_move ?_
 refine m_field ?_
 refine m_load ?_
 refine m_len ?_
 refine m_bin ?_
 refine hKK _ _ ?_
 clear hKK KK
 refine m_cond (fun hc => ?_) (fun hc => ?_)
 · simp only [decide_eq_true_eq] at hc
   have hi' : i < r.items.length := by omega
   have w3 : IntKind.i64.wrap ((i : Int) + 1) = ((i + 1 : Nat) : Int) := wrap_in (by omega)
   have eK := itL_get hi'
   refine awp_skip ?_
   first | rw [thenQ_normal] | rw [blockQ_normal, thenQ_normal]
   refine awp_seq (awp_block ?_)
   clear hc
   have FF := And.intro eK FF
   refine awp_rseq (by decide) fun KK hKK => ?_
   refine m_field ?_
   refine m_load ?_
   refine m_move ?_
   first | refine m_index ?_ | refine m_idxA ?_
   refine m_field ?_
   refine m_load ?_
   refine m_len ?_
   refine m_bin ?_
   refine hKK _ _ ?_
   clear hKK KK
   refine m_cond (fun hc => ?_) (fun hc => ?_)
   · refine awp_rseq (by decide) fun KK hKK => ?_
     refine m_assign ?_
     refine hKK _ _ ?_
     clear hKK KK
     refine awp_ret ⟨[_], ⟨⟨(by simp only [go_sem, reduceIte, Nat.reduceEqDiff, FF]), (by simp only [go_sem, reduceIte, Nat.reduceEqDiff, FF] <;> rfl)⟩, trivial⟩, ?_⟩
     simp only [go_sem, reduceIte, Nat.reduceEqDiff, FF, tupled]
     have e0 : lightB r = false := by unfold lightB; rw [all_not hi' (by rw [hc]; rfl)]; simp
     rw [e0]
     exact CV.Sub.refl _
   refine awp_skip ?_
   first | rw [thenQ_normal] | rw [blockQ_normal, thenQ_normal]
   have FF := And.intro w3 FF
   refine awp_rlast (by decide) fun KK hKK => ?_
   refine m_move ?_
   refine m_bin ?_
   refine m_assign ?_
   refine hKK _ _ ?_
   clear hKK KK
   try rw [thenQ_normal]
   refine m_next (i + 1) ?_ ?_
   · exact ⟨hi', by rw [all_take hi', hres, hc]; rfl⟩
   · omega
 · refine awp_exit ?_
   simp only [thenQ_exit, blockQ_exit, reduceIte, Nat.reduceEqDiff]
   try rw [thenQ_normal]
   have hi' : i = r.items.length := by simp only [decide_eq_false_iff_not] at hc; omega
   refine awp_rseq (by decide) fun KK hKK => ?_
   refine m_assign ?_
   refine hKK _ _ ?_
   clear hKK KK
   refine awp_ret ⟨[_], ⟨⟨(by simp only [go_sem, reduceIte, Nat.reduceEqDiff, FF]), (by simp only [go_sem, reduceIte, Nat.reduceEqDiff, FF] <;> rfl)⟩, trivial⟩, ?_⟩
   simp only [go_sem, reduceIte, Nat.reduceEqDiff, FF, tupled]
   have e0 : lightB r = true := by
     unfold lightB
     rw [hi', List.take_length] at hres
     rw [hc0, hres]; rfl
   rw [e0]
   exact CV.Sub.refl _
theorem rcounted_ok (n : Int) : APure Tryz.prog 29 [.int n] (.bool (countB n)) := by
 have FF : True := trivial
 refine apure_of Tryz.func29 rfl (by kernel_rfl) (by simp [Tryz.ntmps29]) ?_
 rw [Tryz.ntmps29]
 refine awp_rseq (by decide) fun KK hKK => ?_
 refine m_assign ?_
 refine hKK _ _ ?_
 clear hKK KK
 refine awp_rseq (by decide) fun KK hKK => ?_
 refine m_move ?_
 refine m_bin ?_
 refine m_move ?_
 refine g_move ?_
 refine g_bin ?_
 refine m_pick ?_
 refine m_assign ?_
 refine hKK _ _ ?_
 clear hKK KK
 refine awp_ret ⟨[_], ⟨⟨(by simp only [go_sem, reduceIte, Nat.reduceEqDiff, FF]), (by simp only [go_sem, reduceIte, Nat.reduceEqDiff, FF] <;> rfl)⟩, trivial⟩, ?_⟩
 simp only [go_sem, reduceIte, Nat.reduceEqDiff, FF, tupled]
 exact CV.Sub.refl _
end Go.Am
namespace Go.Am
open Go.Proofs
attribute [local go_sem ↓] ofL_cons ofH_cons upd_apply
set_option maxHeartbeats 1000000
set_option linter.unusedSimpArgs false
theorem le_not (x q : ByteArray) : (lessS x q || x.toList == q.toList) = !lessS q x := by
 rw [str_beq]
 cases h : lessS q x with
 | true =>
   rw [lessS_asymm h]
   have : x ≠ q := fun e => by
     rw [e, lessS_irrefl] at h
     cases h
   simp [this]
 | false =>
   cases h2 : lessS x q with
   | true => rfl
   | false => simp [lessS_total h2 h]
variable [Glb]
theorem rcheck_ok (r : Rn) (hl : r.items.length ≤ 9223372036854775807) : APure Tryz.prog 12 [.agg (rnC r)] (.int (checkF r)) := by
 have FF : True := trivial
 refine apure_of Tryz.func12 rfl (by kernel_rfl) (by simp [Tryz.ntmps12]) ?_
 rw [Tryz.ntmps12]
 unfold checkF
 refine awp_rseq (by decide) fun KK hKK => ?_
 refine m_box ?_
 refine m_assign ?_
 refine hKK _ _ ?_
 clear hKK KK
 refine awp_seq ?_
 refine awp_rseq (by decide) fun KK hKK => ?_
 refine m_field ?_
 refine m_load ?_
 refine m_call (fun hG => rname_ok r.name) ?_
 refine m_not ?_
 refine hKK _ _ ?_
 clear hKK KK
 refine m_cond (fun hc => ?_) (fun hc => ?_)
 · rw [if_pos hc]
   refine awp_rseq (by decide) fun KK hKK => ?_
   refine m_assign ?_
   refine hKK _ _ ?_
   clear hKK KK
   refine awp_ret ⟨[_], ⟨⟨(by simp only [go_sem, reduceIte, Nat.reduceEqDiff, FF]), (by simp only [go_sem, reduceIte, Nat.reduceEqDiff, FF] <;> rfl)⟩, trivial⟩, ?_⟩
   simp only [go_sem, reduceIte, Nat.reduceEqDiff, FF, tupled]
   exact CV.Sub.refl _
 rw [if_neg (by rw [hc]; decide)]
 clear hc
 refine awp_skip ?_
 first | rw [thenQ_normal] | rw [blockQ_normal, thenQ_normal]
 refine awp_seq ?_
 refine awp_rseq (by decide) fun KK hKK => ?_
 refine m_field ?_
 refine m_load ?_
 refine m_len ?_
 refine m_bin ?_
 refine hKK _ _ ?_
 clear hKK KK
 refine m_cond (fun hc => ?_) (fun hc => ?_)
 · rw [if_pos (by simpa using hc)]
   refine awp_rseq (by decide) fun KK hKK => ?_
   refine m_assign ?_
   refine hKK _ _ ?_
   clear hKK KK
   refine awp_ret ⟨[_], ⟨⟨(by simp only [go_sem, reduceIte, Nat.reduceEqDiff, FF]), (by simp only [go_sem, reduceIte, Nat.reduceEqDiff, FF] <;> rfl)⟩, trivial⟩, ?_⟩
   simp only [go_sem, reduceIte, Nat.reduceEqDiff, FF, tupled]
   exact CV.Sub.refl _
 rw [if_neg (by simpa using hc)]
 clear hc
 refine awp_skip ?_
 first | rw [thenQ_normal] | rw [blockQ_normal, thenQ_normal]
 refine awp_seq ?_
 refine awp_rseq (by decide) fun KK hKK => ?_
 refine m_assign ?_
 refine hKK _ _ ?_
 clear hKK KK
 refine awp_block ?_
 refine m_for (ι := Nat) (fun i => [(1, .ptr 1 0), (3, .int i)]) (fun i => [(1, .box 24 ((rnC r).map .c))]) (fun i => r.items.length - i) (fun i => i ≤ r.items.length ∧ chkItems (prevI r.items i) (r.items.drop i) = chkItems none r.items) (0) ?_ ?_
 · exact ⟨Nat.zero_le _, rfl⟩
 rintro i ⟨hi, hres⟩
 refine awp_seq ?_
 refine awp_rseq (by decide) fun KK hKK => ?_
 refine m_move ?_
 refine m_field ?_
 refine m_load ?_
 refine m_len ?_
 refine m_bin ?_
 refine hKK _ _ ?_
 clear hKK KK
 refine m_cond (fun hc => ?_) (fun hc => ?_)
 · simp only [decide_eq_true_eq] at hc
   have hi' : i < r.items.length := by omega
   have w3 : IntKind.i64.wrap ((i : Int) + 1) = ((i + 1 : Nat) : Int) := wrap_in (by omega)
   have eK := itL_get hi'
   rw [chk_drop hi'] at hres
   generalize hx : r.items.getD i default = x at *
   refine awp_skip ?_
   first | rw [thenQ_normal] | rw [blockQ_normal, thenQ_normal]
   refine awp_seq (awp_block ?_)
   clear hc
   have FF := And.intro eK FF
   refine awp_rseq (by decide) fun KK hKK => ?_
   refine m_field ?_
   refine m_load ?_
   refine m_move ?_
   first | refine m_index ?_ | refine m_idxA ?_
   refine m_load ?_
   refine m_alloc ?_
   first | refine m_stPtr ?_ | refine m_stRp ?_
   refine hKK _ _ ?_
   clear hKK KK
   refine m_cut [(1, .ptr 1 0), (3, .int i), (4, .ptr 4 0)] [(1, .box 24 ((rnC r).map .c)), (4, .box 47 ((itC x).map .c))] ?_
   refine awp_seq ?_
   refine awp_rseq (by decide) fun KK hKK => ?_
   refine m_field ?_
   refine m_load ?_
   refine m_call (fun hG => rname_ok x.id) ?_
   refine m_not ?_
   refine hKK _ _ ?_
   clear hKK KK
   refine m_cond (fun hc => ?_) (fun hc => ?_)
   · refine awp_rseq (by decide) fun KK hKK => ?_
     refine m_assign ?_
     refine hKK _ _ ?_
     clear hKK KK
     refine awp_ret ⟨[_], ⟨⟨(by simp only [go_sem, reduceIte, Nat.reduceEqDiff, FF]), (by simp only [go_sem, reduceIte, Nat.reduceEqDiff, FF] <;> rfl)⟩, trivial⟩, ?_⟩
     simp only [go_sem, reduceIte, Nat.reduceEqDiff, FF, tupled]
     have e0 : itemE (prevI r.items i) x = 1 := by unfold itemE; rw [if_pos hc]
     rw [← hres, e0]
     exact CV.Sub.refl _
   have hnm := hc
   clear hc
   refine awp_skip ?_
   first | rw [thenQ_normal] | rw [blockQ_normal, thenQ_normal]
   refine m_join (ι := Unit) (fun u => [(1, .ptr 1 0), (3, .int i), (4, .ptr 4 0)]) (fun u => [(1, .box 24 ((rnC r).map .c)), (4, .box 47 ((itC x).map .c))]) (fun u => ordE (prevI r.items i) x.id = false) ?_ ?_
   · cases hE : decide ((0 : Int) < (i : Nat)) with
     | false =>
       have hi0 : i = 0 := by simp only [decide_eq_false_iff_not] at hE; omega
       refine awp_rseq_draw Tryz.mixed (by decide) (by kernel_rfl) fun KK hKK => ?_
       refine st0 rfl (k_move (by simp only [go_sem, reduceIte, Nat.reduceEqDiff, FF, hE] <;> rfl)) ?_
       refine st0 rfl (k_bin (by simp only [go_sem, reduceIte, Nat.reduceEqDiff, FF, hE] <;> rfl) (by simp only [go_sem, reduceIte, Nat.reduceEqDiff, FF, hE] <;> rfl) (by rfl) (by rfl) (by simp only [go_sem, reduceIte, Nat.reduceEqDiff, FF, hE] <;> rfl) (by intro hG; simp only [go_sem])) ?_
       refine st0 rfl (k_move (by simp only [go_sem, reduceIte, Nat.reduceEqDiff, FF, hE] <;> rfl)) ?_
       refine sgF rfl (by simp only [go_sem, reduceIte, Nat.reduceEqDiff, FF, hE] <;> rfl) (by rfl) (by simp only [go_sem, reduceIte, Nat.reduceEqDiff, FF, hE, hE] <;> rfl) ?_
       refine sgF rfl (by simp only [go_sem, reduceIte, Nat.reduceEqDiff, FF, hE] <;> rfl) (by rfl) (by simp only [go_sem, reduceIte, Nat.reduceEqDiff, FF, hE, hE] <;> rfl) ?_
       refine sgF rfl (by simp only [go_sem, reduceIte, Nat.reduceEqDiff, FF, hE] <;> rfl) (by rfl) (by simp only [go_sem, reduceIte, Nat.reduceEqDiff, FF, hE, hE] <;> rfl) ?_
       refine sgF rfl (by simp only [go_sem, reduceIte, Nat.reduceEqDiff, FF, hE] <;> rfl) (by rfl) (by simp only [go_sem, reduceIte, Nat.reduceEqDiff, FF, hE, hE] <;> rfl) ?_
       refine sgF rfl (by simp only [go_sem, reduceIte, Nat.reduceEqDiff, FF, hE] <;> rfl) (by rfl) (by simp only [go_sem, reduceIte, Nat.reduceEqDiff, FF, hE, hE] <;> rfl) ?_
       refine sgF rfl (by simp only [go_sem, reduceIte, Nat.reduceEqDiff, FF, hE] <;> rfl) (by rfl) (by simp only [go_sem, reduceIte, Nat.reduceEqDiff, FF, hE, hE] <;> rfl) ?_
       refine sgF rfl (by simp only [go_sem, reduceIte, Nat.reduceEqDiff, FF, hE] <;> rfl) (by rfl) (by simp only [go_sem, reduceIte, Nat.reduceEqDiff, FF, hE, hE] <;> rfl) ?_
       refine sgF rfl (by simp only [go_sem, reduceIte, Nat.reduceEqDiff, FF, hE] <;> rfl) (by rfl) (by simp only [go_sem, reduceIte, Nat.reduceEqDiff, FF, hE, hE] <;> rfl) ?_
       refine sgF rfl (by simp only [go_sem, reduceIte, Nat.reduceEqDiff, FF, hE] <;> rfl) (by rfl) (by simp only [go_sem, reduceIte, Nat.reduceEqDiff, FF, hE, hE] <;> rfl) ?_
       refine sgF rfl (by simp only [go_sem, reduceIte, Nat.reduceEqDiff, FF, hE] <;> rfl) (by rfl) (by simp only [go_sem, reduceIte, Nat.reduceEqDiff, FF, hE, hE] <;> rfl) ?_
       refine st0 rfl (k_pick (by simp only [go_sem, reduceIte, Nat.reduceEqDiff, FF, hE] <;> rfl) (by simp only [go_sem, reduceIte, Nat.reduceEqDiff, FF, hE] <;> rfl) (by simp only [go_sem, reduceIte, Nat.reduceEqDiff, FF, hE] <;> rfl) (by rfl) (by rfl) (by rfl) (by intro hG; first | (simp only [go_sem, reduceIte, Nat.reduceEqDiff, FF, hE, hE]; done) | (simp [go_sem]; done) | (simp [go_sem] at hG ⊢ <;> simp [hG] <;> (intros; simp_all))) (by first | (simp only [go_sem, reduceIte, Nat.reduceEqDiff, FF, hE] <;> rfl) | rfl)) ?_
       refine hKK _ _ ?_
       clear hKK KK
       refine awp_cond (by simp only [go_sem, reduceIte, Nat.reduceEqDiff, FF, hE] <;> rfl) (fun hc => ?_) (fun hc => ?_)
       · cases hc
       refine awp_skip ?_
       try rw [thenQ_normal]
       refine ⟨(), ?_, (by simp only [List.forall_mem_cons, List.forall_mem_nil, go_sem, reduceIte, Nat.reduceEqDiff, FF]; all_goals ((repeat' apply And.intro) <;> first | trivial | rfl | exact objLe_refl _ | (intro _ _; exact Subs.refl _))), (by simp only [List.forall_mem_cons, List.forall_mem_nil, go_sem, reduceIte, Nat.reduceEqDiff, FF]; all_goals ((repeat' apply And.intro) <;> first | trivial | rfl | exact objLe_refl _ | (intro _ _; exact Subs.refl _)))⟩
       rw [hi0]
       rfl
     | true =>
       obtain ⟨j, rfl⟩ : ∃ j, i = j + 1 := ⟨i - 1, by simp only [decide_eq_true_eq] at hE; omega⟩
       have wP : IntKind.i64.wrap (((j + 1 : Nat) : Int) - 1) = (j : Int) := by rw [wrap_in (by omega)]; omega
       have eP := itL_get (l := r.items) (i := j) (by omega)
       have hp : prevI r.items (j + 1) = some (r.items.getD j default).id := rfl
       rw [hp] at hres ⊢
       generalize r.items.getD j default = y at *
       have FF := And.intro hE (And.intro wP (And.intro eP FF))
       refine awp_rseq_draw Tryz.mixed (by decide) (by kernel_rfl) fun KK hKK => ?_
       refine m_move ?_
       refine m_bin ?_
       refine m_move ?_
       refine g_field ?_
       refine g_load ?_
       refine g_field ?_
       refine g_load ?_
       refine g_move ?_
       refine g_bin ?_
       first | refine g_index ?_ | refine g_idxA ?_
       refine g_field ?_
       refine g_load ?_
       refine g_bin ?_
       refine m_pick ?_
       refine hKK _ _ ?_
       clear hKK KK
       refine m_cond (fun hc => ?_) (fun hc => ?_)
       · rw [lessT, le_not] at hc
         refine awp_rseq (by decide) fun KK hKK => ?_
         refine m_assign ?_
         refine hKK _ _ ?_
         clear hKK KK
         refine awp_ret ⟨[_], ⟨⟨(by simp only [go_sem, reduceIte, Nat.reduceEqDiff, FF]), (by simp only [go_sem, reduceIte, Nat.reduceEqDiff, FF] <;> rfl)⟩, trivial⟩, ?_⟩
         simp only [go_sem, reduceIte, Nat.reduceEqDiff, FF, tupled]
         have e0 : itemE (some y.id) x = 3 := by
           unfold itemE
           rw [hnm, if_neg (by decide)]
           exact if_pos hc
         rw [← hres, e0]
         exact CV.Sub.refl _
       rw [lessT, le_not] at hc
       refine awp_skip ?_
       try rw [thenQ_normal]
       refine ⟨(), ?_, (by simp only [List.forall_mem_cons, List.forall_mem_nil, go_sem, reduceIte, Nat.reduceEqDiff, FF]; all_goals ((repeat' apply And.intro) <;> first | trivial | rfl | exact objLe_refl _ | (intro _ _; exact Subs.refl _))), (by simp only [List.forall_mem_cons, List.forall_mem_nil, go_sem, reduceIte, Nat.reduceEqDiff, FF]; all_goals ((repeat' apply And.intro) <;> first | trivial | rfl | exact objLe_refl _ | (intro _ _; exact Subs.refl _)))⟩
       exact hc
   rintro - hb
   refine awp_rseq (by decide) fun KK hKK => ?_
   refine m_field ?_
   refine m_load ?_
   refine m_call (fun hG => rcounted_ok _) ?_
   refine m_not ?_
   refine m_move ?_
   refine g_field ?_
   refine g_load ?_
   refine g_call (fun hG => rcounted_ok _) ?_
   refine g_not ?_
   refine m_pick ?_
   refine m_move ?_
   refine g_field ?_
   refine g_load ?_
   refine g_call (fun hG => rcounted_ok _) ?_
   refine g_not ?_
   refine m_pick ?_
   refine hKK _ _ ?_
   clear hKK KK
   refine m_cond (fun hc => ?_) (fun hc => ?_)
   · refine awp_rseq (by decide) fun KK hKK => ?_
     refine m_assign ?_
     refine hKK _ _ ?_
     clear hKK KK
     refine awp_ret ⟨[_], ⟨⟨(by simp only [go_sem, reduceIte, Nat.reduceEqDiff, FF]), (by simp only [go_sem, reduceIte, Nat.reduceEqDiff, FF] <;> rfl)⟩, trivial⟩, ?_⟩
     simp only [go_sem, reduceIte, Nat.reduceEqDiff, FF, tupled]
     have e0 : itemE (prevI r.items i) x = 2 := by
       unfold itemE
       rw [hnm, hb, if_neg (by decide), if_neg (by decide), if_pos hc]
     rw [← hres, e0]
     exact CV.Sub.refl _
   refine awp_skip ?_
   first | rw [thenQ_normal] | rw [blockQ_normal, thenQ_normal]
   have e0 : itemE (prevI r.items i) x = 0 := by
     unfold itemE
     rw [hnm, hb, if_neg (by decide), if_neg (by decide), if_neg (by rw [hc]; decide)]
   rw [e0, if_pos rfl] at hres
   have FF := And.intro w3 FF
   refine awp_rlast (by decide) fun KK hKK => ?_
   refine m_move ?_
   refine m_bin ?_
   refine m_assign ?_
   refine hKK _ _ ?_
   clear hKK KK
   try rw [thenQ_normal]
   refine m_next (i + 1) ?_ ?_
   · exact ⟨hi', hres⟩
   · omega
 · refine awp_exit ?_
   simp only [thenQ_exit, blockQ_exit, reduceIte, Nat.reduceEqDiff]
   try rw [thenQ_normal]
   have hi' : i = r.items.length := by simp only [decide_eq_false_iff_not] at hc; omega
   refine awp_rseq (by decide) fun KK hKK => ?_
   refine m_assign ?_
   refine hKK _ _ ?_
   clear hKK KK
   refine awp_ret ⟨[_], ⟨⟨(by simp only [go_sem, reduceIte, Nat.reduceEqDiff, FF]), (by simp only [go_sem, reduceIte, Nat.reduceEqDiff, FF] <;> rfl)⟩, trivial⟩, ?_⟩
   simp only [go_sem, reduceIte, Nat.reduceEqDiff, FF, tupled]
   rw [hi', List.drop_length] at hres
   rw [← hres]
   exact CV.Sub.refl _
end Go.Am
namespace Go.Am
open Go.Proofs
attribute [local go_sem ↓] ofL_cons ofH_cons upd_apply
set_option maxHeartbeats 4000000
set_option linter.unusedSimpArgs false
theorem mergeF_len : ∀ a b : List It, (mergeF a b).length ≤ 4 * (a.length + b.length)
 | [], [] => by simp [mergeF]
 | x :: a, [] => by
   have := mergeF_len a []
   rw [mergeF, List.length_cons, List.length_cons]
   simp only [List.length_nil] at this ⊢
   omega
 | [], y :: b => by
   have := mergeF_len [] b
   rw [mergeF, List.length_cons, List.length_cons]
   simp only [List.length_nil] at this ⊢
   omega
 | x :: a, y :: b => by
   have h1 := mergeF_len a (y :: b)
   have h2 := mergeF_len (x :: a) b
   have h3 := mergeF_len a b
   have h4 := diffs_len x y
   rw [mergeF]
   split
   · simp only [List.length_cons] at h1 ⊢
     omega
   · split
     · simp only [List.length_cons] at h2 ⊢
       omega
     · simp only [List.length_append, List.length_cons] at h3 ⊢
       omega
 termination_by a b => a.length + b.length
variable [Glb] [NoDr] [Tabs] [TabM]
end Go.Am
namespace Go.Am
open Go.Proofs
attribute [local go_sem ↓] ofL_cons ofH_cons upd_apply
set_option maxHeartbeats 4000000
set_option linter.unusedSimpArgs false
theorem or4 {p q r s : Bool} (h : (p || q || r || s) = false) : r = false ∧ s = false := by
 cases r <;> cases s <;> simp_all
variable [Glb]
theorem cmp_valid {a b : Rn} (ha : checkF a = 0) (hb : checkF b = 0) : APure Tryz.prog 16 [.agg (rnC a), .agg (rnC b)] (.tup [dfL (mergeF a.items b.items), .int 0]) := by
 have la := check_len ha
 have lb := check_len hb
 have := compare_ok a b (by omega) (by omega)
 have e : compareF a b = (mergeF a.items b.items, 0) := by unfold compareF; rw [if_neg (by simpa using ha), if_neg (by simpa using hb)]
 rw [e] at this
 exact this
variable [NoDr] [Tabs] [TabM]
theorem mirror_ok (a b : Rn) (ha : a.items.length ≤ 9223372036854775807) (hb : b.items.length ≤ 9223372036854775807) : APure Tryz.prog 9 [.agg (rnC a), .agg (rnC b)] (.bool true) := by
 have FF : True := trivial
 refine apure_of Tryz.func9 rfl (by kernel_rfl) (by simp [Tryz.ntmps9]) ?_
 rw [Tryz.ntmps9]
 refine awp_rseq (by decide) fun KK hKK => ?_
 refine m_box ?_
 refine m_box ?_
 refine m_assign ?_
 refine hKK _ _ ?_
 clear hKK KK
 refine awp_seq ?_
 refine awp_rseq (by decide) fun KK hKK => ?_
 refine m_load ?_
 refine m_call (fun hG => rlight_ok a ha) ?_
 refine m_not ?_
 refine m_move ?_
 refine g_load ?_
 refine g_call (fun hG => rlight_ok b hb) ?_
 refine g_not ?_
 refine m_pick ?_
 refine m_move ?_
 refine g_load ?_
 refine g_call (fun hG => rcheck_ok a ha) ?_
 refine g_bin ?_
 refine m_pick ?_
 refine m_move ?_
 refine g_load ?_
 refine g_call (fun hG => rcheck_ok b hb) ?_
 refine g_bin ?_
 refine m_pick ?_
 refine hKK _ _ ?_
 clear hKK KK
 refine m_cond (fun hc => ?_) (fun hc => ?_)
 · refine awp_rseq (by decide) fun KK hKK => ?_
   refine m_call (fun hG => ex_ok) ?_
   refine m_assign ?_
   refine hKK _ _ ?_
   clear hKK KK
   refine awp_ret ⟨[_], ⟨⟨(by simp only [go_sem, reduceIte, Nat.reduceEqDiff, FF]), (by simp only [go_sem, reduceIte, Nat.reduceEqDiff, FF] <;> rfl)⟩, trivial⟩, ?_⟩
   simp only [go_sem, reduceIte, Nat.reduceEqDiff, FF, tupled]
   exact CV.Sub.refl _
 obtain ⟨hc1, hc2⟩ := or4 hc
 have ea : checkF a = 0 := by simpa using hc1
 have eb : checkF b = 0 := by simpa using hc2
 clear hc hc1 hc2
 refine awp_skip ?_
 first | rw [thenQ_normal] | rw [blockQ_normal, thenQ_normal]
 obtain ⟨_, la, ia⟩ := check_facts ea
 obtain ⟨_, lb, ib⟩ := check_facts eb
 have c1 := cmp_valid ea eb
 have c2 := cmp_valid eb ea
 rw [mergeF_mir] at c2
 have klen := mergeF_len a.items b.items
 refine awp_rseq (by decide) fun KK hKK => ?_
 refine m_load ?_
 refine m_load ?_
 refine m_call (fun hG => c1) ?_
 refine m_move ?_
 refine m_extract ?_
 refine m_extract ?_
 refine m_assign ?_
 refine m_assign ?_
 refine hKK _ _ ?_
 clear hKK KK
 refine awp_rseq (by decide) fun KK hKK => ?_
 refine m_load ?_
 refine m_load ?_
 refine m_call (fun hG => c2) ?_
 refine m_move ?_
 refine m_extract ?_
 refine m_extract ?_
 refine m_assign ?_
 refine m_assign ?_
 refine hKK _ _ ?_
 clear hKK KK
 clear c1 c2
 generalize mergeF a.items b.items = k at *
 have hm : (k.map mirD).length = k.length := List.length_map _
 refine m_cut [(5, .c (dfL k)), (6, .int 0), (7, .c (dfL (k.map mirD))), (8, .int 0)] [] ?_
 refine awp_seq ?_
 refine awp_rseq (by decide) fun KK hKK => ?_
 refine m_move ?_
 refine m_bin ?_
 refine m_move ?_
 refine g_move ?_
 refine g_bin ?_
 refine m_pick ?_
 refine m_move ?_
 refine g_move ?_
 refine g_len ?_
 refine g_move ?_
 refine g_len ?_
 refine g_bin ?_
 refine m_pick ?_
 refine hKK _ _ ?_
 clear hKK KK
 refine m_cond (fun hc => ?_) (fun hc => ?_)
 · exact absurd hc (by simp)
 clear hc
 refine awp_skip ?_
 first | rw [thenQ_normal] | rw [blockQ_normal, thenQ_normal]
 refine awp_seq ?_
 refine awp_rseq (by decide) fun KK hKK => ?_
 refine m_assign ?_
 refine hKK _ _ ?_
 clear hKK KK
 refine awp_block ?_
 refine m_for (ι := Nat) (fun i => [(5, .c (dfL k)), (7, .c (dfL (k.map mirD))), (9, .int i)]) (fun i => []) (fun i => k.length - i) (fun i => i ≤ k.length) (0) ?_ ?_
 · exact Nat.zero_le _
 intro i hi
 refine awp_seq ?_
 refine awp_rseq (by decide) fun KK hKK => ?_
 refine m_move ?_
 refine m_move ?_
 refine m_len ?_
 refine m_bin ?_
 refine hKK _ _ ?_
 clear hKK KK
 refine m_cond (fun hc => ?_) (fun hc => ?_)
 · simp only [decide_eq_true_eq] at hc
   have hi' : i < k.length := by omega
   have w3 : IntKind.i64.wrap ((i : Int) + 1) = ((i + 1 : Nat) : Int) := wrap_in (by omega)
   have eL := dfL_get hi'
   have eK := dfL_get (l := k.map mirD) (i := i) (by omega)
   have eM : (k.map mirD).getD i default = mirD (k.getD i default) := by rw [getD_lt (by omega), getD_lt hi', List.getElem_map]
   rw [eM] at eK
   generalize k.getD i default = d at *
   refine awp_skip ?_
   first | rw [thenQ_normal] | rw [blockQ_normal, thenQ_normal]
   refine awp_seq (awp_block ?_)
   clear hc
   have FF := And.intro eL FF
   refine awp_rseq (by decide) fun KK hKK => ?_
   refine m_move ?_
   refine m_move ?_
   first | refine m_index ?_ | refine m_idxA ?_
   refine m_field ?_
   refine m_load ?_
   refine m_assign ?_
   refine hKK _ _ ?_
   clear hKK KK
   refine m_join (ι := Unit) (fun u => [(5, .c (dfL k)), (7, .c (dfL (k.map mirD))), (9, .int i), (10, .int (mirK d.kind))]) (fun u => []) (fun u => True) ?_ ?_
   · refine awp_rseq (by decide) fun KK hKK => ?_
     refine m_move ?_
     refine hKK _ _ ?_
     clear hKK KK
     refine awp_block ?_
     refine awp_rseq (by decide) fun KK hKK => ?_
     refine m_bin ?_
     refine m_assign ?_
     refine hKK _ _ ?_
     clear hKK KK
     refine m_cond (fun hc => ?_) (fun hc => ?_)
     · have hk : mirK d.kind = 1 := by unfold mirK; rw [if_pos hc]
       refine awp_rlast (by decide) fun KK hKK => ?_
       refine m_assign ?_
       refine hKK _ _ ?_
       clear hKK KK
       simp only [blockQ_normal, thenQ_normal]
       have FF := And.intro hk FF
       try rw [thenQ_normal]
       refine ⟨(), ?_, (by simp only [List.forall_mem_cons, List.forall_mem_nil, go_sem, reduceIte, Nat.reduceEqDiff, FF]; all_goals ((repeat' apply And.intro) <;> first | trivial | rfl | exact objLe_refl _ | (intro _ _; exact Subs.refl _))), (by simp only [List.forall_mem_cons, List.forall_mem_nil, go_sem, reduceIte, Nat.reduceEqDiff, FF]; all_goals ((repeat' apply And.intro) <;> first | trivial | rfl | exact objLe_refl _ | (intro _ _; exact Subs.refl _)))⟩
       trivial
     have hc0 := hc
     clear hc
     refine awp_rseq (by decide) fun KK hKK => ?_
     refine m_bin ?_
     refine m_assign ?_
     refine hKK _ _ ?_
     clear hKK KK
     refine m_cond (fun hc => ?_) (fun hc => ?_)
     · have hk : mirK d.kind = 0 := by unfold mirK; rw [if_neg (by rw [hc0]; decide), if_pos hc]
       refine awp_rlast (by decide) fun KK hKK => ?_
       refine m_assign ?_
       refine hKK _ _ ?_
       clear hKK KK
       simp only [blockQ_normal, thenQ_normal]
       have FF := And.intro hk FF
       try rw [thenQ_normal]
       refine ⟨(), ?_, (by simp only [List.forall_mem_cons, List.forall_mem_nil, go_sem, reduceIte, Nat.reduceEqDiff, FF]; all_goals ((repeat' apply And.intro) <;> first | trivial | rfl | exact objLe_refl _ | (intro _ _; exact Subs.refl _))), (by simp only [List.forall_mem_cons, List.forall_mem_nil, go_sem, reduceIte, Nat.reduceEqDiff, FF]; all_goals ((repeat' apply And.intro) <;> first | trivial | rfl | exact objLe_refl _ | (intro _ _; exact Subs.refl _)))⟩
       trivial
     have hk : mirK d.kind = d.kind := by unfold mirK; rw [if_neg (by rw [hc0]; decide), if_neg (by rw [hc]; decide)]
     refine awp_skip ?_
     simp only [blockQ_normal, thenQ_normal]
     have FF := And.intro hk FF
     try rw [thenQ_normal]
     refine ⟨(), ?_, (by simp only [List.forall_mem_cons, List.forall_mem_nil, go_sem, reduceIte, Nat.reduceEqDiff, FF]; all_goals ((repeat' apply And.intro) <;> first | trivial | rfl | exact objLe_refl _ | (intro _ _; exact Subs.refl _))), (by simp only [List.forall_mem_cons, List.forall_mem_nil, go_sem, reduceIte, Nat.reduceEqDiff, FF]; all_goals ((repeat' apply And.intro) <;> first | trivial | rfl | exact objLe_refl _ | (intro _ _; exact Subs.refl _)))⟩
     trivial
   rintro - -
   have FF := And.intro eL (And.intro eK FF)
   refine awp_rseq_draw Tryz.mixed (by decide) (by kernel_rfl) fun KK hKK => ?_
   refine m_move ?_
   refine m_move ?_
   first | refine m_index ?_ | refine m_idxA ?_
   refine m_load ?_
   refine m_move ?_
   refine m_move ?_
   first | refine m_index ?_ | refine m_idxA ?_
   refine m_field ?_
   refine m_load ?_
   refine m_move ?_
   refine m_move ?_
   refine m_move ?_
   first | refine m_index ?_ | refine m_idxA ?_
   refine m_field ?_
   refine m_load ?_
   refine m_move ?_
   refine m_move ?_
   first | refine m_index ?_ | refine m_idxA ?_
   refine m_field ?_
   refine m_load ?_
   first | refine m_build ?_ | refine m_buildA ?_
   refine m_binA (df_neq (mirD d) ⟨d.id, mirK d.kind, d.new, d.old⟩) ?_
   refine hKK _ _ ?_
   clear hKK KK
   refine m_cond (fun hc => ?_) (fun hc => ?_)
   · exact absurd hc (by simp [mirD])
   refine awp_skip ?_
   first | rw [thenQ_normal] | rw [blockQ_normal, thenQ_normal]
   have FF := And.intro w3 FF
   refine awp_rlast (by decide) fun KK hKK => ?_
   refine m_move ?_
   refine m_bin ?_
   refine m_assign ?_
   refine hKK _ _ ?_
   clear hKK KK
   try rw [thenQ_normal]
   refine m_next (i + 1) ?_ ?_
   · exact hi'
   · omega
 · refine awp_exit ?_
   simp only [thenQ_exit, blockQ_exit, reduceIte, Nat.reduceEqDiff]
   try rw [thenQ_normal]
   refine awp_rseq (by decide) fun KK hKK => ?_
   refine m_call (fun hG => ex_ok) ?_
   refine m_assign ?_
   refine hKK _ _ ?_
   clear hKK KK
   refine awp_ret ⟨[_], ⟨⟨(by simp only [go_sem, reduceIte, Nat.reduceEqDiff, FF]), (by simp only [go_sem, reduceIte, Nat.reduceEqDiff, FF] <;> rfl)⟩, trivial⟩, ?_⟩
   simp only [go_sem, reduceIte, Nat.reduceEqDiff, FF, tupled]
   exact CV.Sub.refl _
end Go.Am
