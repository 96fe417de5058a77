/- The walk of the law ProfileSelf. No condition. -/
import Derived.Test.YtgbeghjnllfdjaaGreatDoorS1
import Derived.Test.YtgbeghjnllfdjaaGreatDoorS2
import Derived.Test.YtgbeghjnllfdjaaGreatDoorT
set_option linter.unusedVariables false
set_option linter.unusedSimpArgs false
namespace Go.Am
theorem less_irrefl : ∀ l : List UInt8, Op.bytesLess l l = false
 | [] => rfl
 | c :: l => by simp [Op.bytesLess, less_irrefl l]
theorem less_total : ∀ a b : List UInt8, Op.bytesLess a b = false → Op.bytesLess b a = false → a = b
 | [], [], _, _ => rfl
 | [], _ :: _, h, _ => by simp [Op.bytesLess] at h
 | _ :: _, [], _, h => by simp [Op.bytesLess] at h
 | c :: a, d :: b, h1, h2 => by
   simp only [Op.bytesLess] at h1 h2
   by_cases e : c = d
   · subst e
     simp at h1 h2
     rw [less_total a b h1 h2]
   · exfalso
     by_cases hlt : c < d
     · simp [hlt] at h1
     · have : d < c := by
         rcases UInt8.lt_or_lt_of_ne e with h | h
         · exact absurd h hlt
         · exact h
       simp [this] at h2
theorem lessS_total {a b : ByteArray} (h1 : lessS a b = false) (h2 : lessS b a = false) : a = b := by
 obtain ⟨⟨x⟩⟩ := a
 obtain ⟨⟨y⟩⟩ := b
 have := less_total x y h1 h2
 rw [this]
theorem lessS_irrefl (a : ByteArray) : lessS a a = false := less_irrefl _
theorem less_asymm : ∀ a b : List UInt8, Op.bytesLess a b = true → Op.bytesLess b a = false
 | [], [], h => by simp [Op.bytesLess] at h
 | [], _ :: _, _ => by simp [Op.bytesLess]
 | _ :: _, [], h => by simp [Op.bytesLess] at h
 | c :: a, d :: b, h => by
   simp only [Op.bytesLess, Bool.or_eq_true, decide_eq_true_eq, Bool.and_eq_true, beq_iff_eq] at h
   simp only [Op.bytesLess, Bool.or_eq_false_iff, decide_eq_false_iff_not, Bool.and_eq_false_iff]
   rcases h with h | ⟨rfl, h⟩
   · refine ⟨fun h2 => ?_, .inl ?_⟩
     · exact absurd (UInt8.lt_trans h h2) (UInt8.lt_irrefl _)
     · simp only [beq_eq_false_iff_ne, ne_eq]
       intro e
       subst e
       exact absurd h (UInt8.lt_irrefl _)
   · exact ⟨UInt8.lt_irrefl _, .inr (less_asymm a b h)⟩
theorem lessS_asymm {a b : ByteArray} (h : lessS a b = true) : lessS b a = false := less_asymm _ _ h
theorem one1_self (id : ByteArray) (k a : Int) : one1 id k a a = [] := by simp [one1]
theorem diffsF_self {x y : It} (h1 : x.rd = y.rd) (h2 : x.ed = y.ed) (h3 : x.tk = y.tk) (h4 : x.pt = y.pt) : diffsF x y = [] := by
 rw [diffsF_eq, h1, h2, h3, h4]
 simp [one1_self]
theorem mergeF_self : ∀ a : List It, mergeF a a = []
 | [] => by simp [mergeF]
 | x :: a => by rw [mergeF, if_neg (by rw [lessS_irrefl]; decide), if_neg (by rw [lessS_irrefl]; decide), diffsF_self rfl rfl rfl rfl, mergeF_self a]; rfl
theorem mergeF_nil : ∀ a b : List It, mergeF a b = [] → a.map It.id = b.map It.id
 | [], [], _ => rfl
 | x :: a, [], h => by rw [mergeF] at h; cases h
 | [], y :: b, h => by rw [mergeF] at h; cases h
 | x :: a, y :: b, h => by
   rw [mergeF] at h
   split at h
   · cases h
   · rename_i h1
     split at h
     · cases h
     · rename_i h2
       rw [List.append_eq_nil_iff] at h
       have := mergeF_nil a b h.2
       have e := lessS_total (a := x.id) (b := y.id) (by simpa using h1) (by simpa using h2)
       rw [List.map_cons, List.map_cons, this, e]
 termination_by a b => a.length + b.length
def sumF (l : List Df) (k : Int) : Int := (l.map fun d => if d.kind == k then d.new - d.old else 0).foldr (· + ·) 0
theorem sumF_app (l m : List Df) (k : Int) : sumF (l ++ m) k = sumF l k + sumF m k := by
 induction l with
 | nil => simp [sumF]
 | cons d l ih =>
   have e : ∀ (d : Df) (l : List Df), sumF (d :: l) k = (if d.kind == k then d.new - d.old else 0) + sumF l k := fun d l => rfl
   rw [List.cons_append, e, e, ih]
   omega
theorem sumF_one (id : ByteArray) (j a b k : Int) : sumF (one1 id j a b) k = if j == k then b - a else 0 := by
 unfold one1
 by_cases h : a = b
 · subst h
   rw [if_pos (by simp)]
   simp [sumF]
 · rw [if_neg (by simpa using h)]
   simp [sumF]
theorem mergeF_sum (F : It → Int) (k : Int) (hF : ∀ x y : It, sumF (diffsF x y) k = F y - F x) : ∀ a b : List It, a.map It.id = b.map It.id → sumF (mergeF a b) k = (b.map F).foldr (· + ·) 0 - (a.map F).foldr (· + ·) 0
 | [], [], _ => by simp [mergeF, sumF]
 | x :: a, [], h => by cases h
 | [], y :: b, h => by cases h
 | x :: a, y :: b, h => by
   simp only [List.map_cons, List.cons.injEq] at h
   rw [mergeF, h.1, if_neg (by rw [lessS_irrefl]; decide), if_neg (by rw [lessS_irrefl]; decide), sumF_app, hF, mergeF_sum F k hF a b h.2]
   simp only [List.map_cons, List.foldr_cons]
   omega
theorem sum_kind (x y : It) (k : Int) : sumF (diffsF x y) k = (if (2 : Int) == k then y.rd - x.rd else 0) + ((if (3 : Int) == k then y.ed - x.ed else 0) + ((if (4 : Int) == k then y.tk - x.tk else 0) + (if (5 : Int) == k then bitI y.pt - bitI x.pt else 0))) := by
 rw [diffsF_eq, sumF_app, sumF_app, sumF_app, sumF_one, sumF_one, sumF_one, sumF_one]
theorem sum_rd (x y : It) : sumF (diffsF x y) 2 = y.rd - x.rd := by rw [sum_kind]; simp
theorem sum_ed (x y : It) : sumF (diffsF x y) 3 = y.ed - x.ed := by rw [sum_kind]; simp
theorem sum_tk (x y : It) : sumF (diffsF x y) 4 = y.tk - x.tk := by rw [sum_kind]; simp
theorem sum_pt (x y : It) : sumF (diffsF x y) 5 = bitI y.pt - bitI x.pt := by rw [sum_kind]; simp
end Go.Am
namespace Go.Am
open Go.Proofs
attribute [local go_sem ↓] ofL_cons ofH_cons upd_apply
set_option maxHeartbeats 1000000
set_option linter.unusedSimpArgs false
variable [Glb]
theorem digit_ok (c : Int) : APure Tryz.prog 100 [.raw (.int .u8 c)] (.bool (digitB c)) := by
 have FF : True := trivial
 refine apure_of Tryz.func100 rfl (by kernel_rfl) (by simp [Tryz.ntmps100]) ?_
 rw [Tryz.ntmps100]
 refine awp_rseq (by decide) fun KK hKK => ?_
 refine m_assign ?_
 refine hKK _ _ ?_
 clear hKK KK
 refine awp_rseq (by decide) fun KK hKK => ?_
 refine m_move ?_
 refine m_bin ?_
 refine m_move ?_
 refine g_move ?_
 refine g_bin ?_
 refine m_pick ?_
 refine m_assign ?_
 refine hKK _ _ ?_
 clear hKK KK
 refine awp_ret ⟨[_], ⟨⟨(by simp only [go_sem, reduceIte, Nat.reduceEqDiff, FF]), (by simp only [go_sem, reduceIte, Nat.reduceEqDiff, FF] <;> rfl)⟩, trivial⟩, ?_⟩
 simp only [go_sem, reduceIte, Nat.reduceEqDiff, FF, tupled]
 exact CV.Sub.refl _
theorem lower_ok (c : Int) : APure Tryz.prog 201 [.raw (.int .u8 c)] (.bool (lowerB c)) := by
 have FF : True := trivial
 refine apure_of Tryz.func201 rfl (by kernel_rfl) (by simp [Tryz.ntmps201]) ?_
 rw [Tryz.ntmps201]
 refine awp_rseq (by decide) fun KK hKK => ?_
 refine m_assign ?_
 refine hKK _ _ ?_
 clear hKK KK
 refine awp_rseq (by decide) fun KK hKK => ?_
 refine m_move ?_
 refine m_bin ?_
 refine m_move ?_
 refine g_move ?_
 refine g_bin ?_
 refine m_pick ?_
 refine m_assign ?_
 refine hKK _ _ ?_
 clear hKK KK
 refine awp_ret ⟨[_], ⟨⟨(by simp only [go_sem, reduceIte, Nat.reduceEqDiff, FF]), (by simp only [go_sem, reduceIte, Nat.reduceEqDiff, FF] <;> rfl)⟩, trivial⟩, ?_⟩
 simp only [go_sem, reduceIte, Nat.reduceEqDiff, FF, tupled]
 exact CV.Sub.refl _
theorem upper_ok (c : Int) : APure Tryz.prog 200 [.raw (.int .u8 c)] (.bool (upperB c)) := by
 have FF : True := trivial
 refine apure_of Tryz.func200 rfl (by kernel_rfl) (by simp [Tryz.ntmps200]) ?_
 rw [Tryz.ntmps200]
 refine awp_rseq (by decide) fun KK hKK => ?_
 refine m_assign ?_
 refine hKK _ _ ?_
 clear hKK KK
 refine awp_rseq (by decide) fun KK hKK => ?_
 refine m_move ?_
 refine m_bin ?_
 refine m_move ?_
 refine g_move ?_
 refine g_bin ?_
 refine m_pick ?_
 refine m_assign ?_
 refine hKK _ _ ?_
 clear hKK KK
 refine awp_ret ⟨[_], ⟨⟨(by simp only [go_sem, reduceIte, Nat.reduceEqDiff, FF]), (by simp only [go_sem, reduceIte, Nat.reduceEqDiff, FF] <;> rfl)⟩, trivial⟩, ?_⟩
 simp only [go_sem, reduceIte, Nat.reduceEqDiff, FF, tupled]
 exact CV.Sub.refl _
theorem part_ok (c : Int) (big : Bool) : APure Tryz.prog 101 [.raw (.int .u8 c), .bool big] (.bool (partB c big)) := by
 have FF : True := trivial
 refine apure_of Tryz.func101 rfl (by kernel_rfl) (by simp [Tryz.ntmps101]) ?_
 rw [Tryz.ntmps101]
 cases big
 · refine awp_rseq (by decide) fun KK hKK => ?_
   refine m_assign ?_
   refine hKK _ _ ?_
   clear hKK KK
   refine awp_rseq (by decide) fun KK hKK => ?_
   refine m_move ?_
   refine m_call (fun hG => digit_ok c) ?_
   refine m_move ?_
   refine g_move ?_
   refine g_bin ?_
   refine m_pick ?_
   refine m_move ?_
   refine g_move ?_
   refine g_move ?_
   refine g_move ?_
   refine g_call (fun hG => upper_ok c) ?_
   refine g_pick ?_
   refine m_pick ?_
   refine m_move ?_
   refine g_move ?_
   refine g_not ?_
   refine g_move ?_
   refine g_move ?_
   refine g_call (fun hG => lower_ok c) ?_
   refine g_pick ?_
   refine m_pick ?_
   refine m_assign ?_
   refine hKK _ _ ?_
   clear hKK KK
   refine awp_ret ⟨[_], ⟨⟨(by simp only [go_sem, reduceIte, Nat.reduceEqDiff, FF]), (by simp only [go_sem, reduceIte, Nat.reduceEqDiff, FF] <;> rfl)⟩, trivial⟩, ?_⟩
   simp only [go_sem, reduceIte, Nat.reduceEqDiff, FF, tupled]
   exact CV.Sub.of_eq (by simp [partB])
 · refine awp_rseq (by decide) fun KK hKK => ?_
   refine m_assign ?_
   refine hKK _ _ ?_
   clear hKK KK
   refine awp_rseq (by decide) fun KK hKK => ?_
   refine m_move ?_
   refine m_call (fun hG => digit_ok c) ?_
   refine m_move ?_
   refine g_move ?_
   refine g_bin ?_
   refine m_pick ?_
   refine m_move ?_
   refine g_move ?_
   refine g_move ?_
   refine g_move ?_
   refine g_call (fun hG => upper_ok c) ?_
   refine g_pick ?_
   refine m_pick ?_
   refine m_move ?_
   refine g_move ?_
   refine g_not ?_
   refine g_move ?_
   refine g_move ?_
   refine g_call (fun hG => lower_ok c) ?_
   refine g_pick ?_
   refine m_pick ?_
   refine m_assign ?_
   refine hKK _ _ ?_
   clear hKK KK
   refine awp_ret ⟨[_], ⟨⟨(by simp only [go_sem, reduceIte, Nat.reduceEqDiff, FF]), (by simp only [go_sem, reduceIte, Nat.reduceEqDiff, FF] <;> rfl)⟩, trivial⟩, ?_⟩
   simp only [go_sem, reduceIte, Nat.reduceEqDiff, FF, tupled]
   exact CV.Sub.of_eq (by simp [partB])
theorem named_ok (s : ByteArray) (big : Bool) : APure Tryz.prog 64 [.str s, .bool big] (.bool (namedB s big)) := by
 have FF : True := trivial
 refine apure_of Tryz.func64 rfl (by kernel_rfl) (by simp [Tryz.ntmps64]) ?_
 rw [Tryz.ntmps64]
 unfold namedB
 refine awp_rseq (by decide) fun KK hKK => ?_
 refine m_assign ?_
 refine hKK _ _ ?_
 clear hKK KK
 refine awp_seq ?_
 refine awp_rseq (by decide) fun KK hKK => ?_
 refine m_move ?_
 refine m_len ?_
 refine m_bin ?_
 refine m_move ?_
 refine g_move ?_
 refine g_len ?_
 refine g_bin ?_
 refine m_pick ?_
 refine m_move ?_
 refine g_move ?_
 refine g_idx ?_
 refine g_call (fun hG => digit_ok _) ?_
 refine m_pick ?_
 refine m_move ?_
 refine g_move ?_
 refine g_idx ?_
 refine g_bin ?_
 refine m_pick ?_
 refine hKK _ _ ?_
 clear hKK KK
 refine m_cond (fun hc => ?_) (fun hc => ?_)
 · rw [if_pos hc]
   refine awp_rseq (by decide) fun KK hKK => ?_
   refine m_assign ?_
   refine hKK _ _ ?_
   clear hKK KK
   refine awp_ret ⟨[_], ⟨⟨(by simp only [go_sem, reduceIte, Nat.reduceEqDiff, FF]), (by simp only [go_sem, reduceIte, Nat.reduceEqDiff, FF] <;> rfl)⟩, trivial⟩, ?_⟩
   simp only [go_sem, reduceIte, Nat.reduceEqDiff, FF, tupled]
   exact CV.Sub.refl _
 rw [if_neg (by rw [hc]; decide)]
 have hsz : s.size ≤ 32 := by simp only [Bool.or_eq_false_iff, decide_eq_false_iff_not] at hc; omega
 clear hc
 refine awp_skip ?_
 first | rw [thenQ_normal] | rw [blockQ_normal, thenQ_normal]
 refine awp_seq ?_
 refine awp_rseq (by decide) fun KK hKK => ?_
 refine m_assign ?_
 refine hKK _ _ ?_
 clear hKK KK
 refine awp_block ?_
 refine m_for (ι := Nat) (fun i => [(0, .str s), (1, .bool big), (5, .int i)]) (fun i => []) (fun i => s.size - i) (fun i => i ≤ s.size ∧ allB (fun c => partB c big) s i = true) (0) ?_ ?_
 · exact ⟨Nat.zero_le _, rfl⟩
 rintro i ⟨hi, hres⟩
 refine awp_seq ?_
 refine awp_rseq (by decide) fun KK hKK => ?_
 refine m_move ?_
 refine m_move ?_
 refine m_len ?_
 refine m_bin ?_
 refine hKK _ _ ?_
 clear hKK KK
 refine m_cond (fun hc => ?_) (fun hc => ?_)
 · simp only [decide_eq_true_eq] at hc
   have hi' : i < s.size := by omega
   have w3 : IntKind.i64.wrap ((i : Int) + 1) = ((i + 1 : Nat) : Int) := wrap_in (by omega)
   refine awp_skip ?_
   first | rw [thenQ_normal] | rw [blockQ_normal, thenQ_normal]
   refine awp_seq (awp_block ?_)
   clear hc
   refine awp_rseq (by decide) fun KK hKK => ?_
   refine m_move ?_
   refine m_move ?_
   refine m_idx ?_
   refine m_move ?_
   refine m_call (fun hG => part_ok (byteAt s i) big) ?_
   refine m_not ?_
   refine hKK _ _ ?_
   clear hKK KK
   refine m_cond (fun hc => ?_) (fun hc => ?_)
   · refine awp_rseq (by decide) fun KK hKK => ?_
     refine m_assign ?_
     refine hKK _ _ ?_
     clear hKK KK
     refine awp_ret ⟨[_], ⟨⟨(by simp only [go_sem, reduceIte, Nat.reduceEqDiff, FF]), (by simp only [go_sem, reduceIte, Nat.reduceEqDiff, FF] <;> rfl)⟩, trivial⟩, ?_⟩
     simp only [go_sem, reduceIte, Nat.reduceEqDiff, FF, tupled]
     rw [allB_false (p := fun c => partB c big) (i := i) (by simpa using hc) s.size hi']
     exact CV.Sub.refl _
   refine awp_skip ?_
   first | rw [thenQ_normal] | rw [blockQ_normal, thenQ_normal]
   have FF := And.intro w3 FF
   refine awp_rlast (by decide) fun KK hKK => ?_
   refine m_move ?_
   refine m_bin ?_
   refine m_assign ?_
   refine hKK _ _ ?_
   clear hKK KK
   try rw [thenQ_normal]
   refine m_next (i + 1) ?_ ?_
   · exact ⟨hi', by rw [allB, hres, Bool.true_and]; simpa using hc⟩
   · omega
 · refine awp_exit ?_
   simp only [thenQ_exit, blockQ_exit, reduceIte, Nat.reduceEqDiff]
   try rw [thenQ_normal]
   have hi' : i = s.size := by simp only [decide_eq_false_iff_not] at hc; omega
   refine awp_rseq (by decide) fun KK hKK => ?_
   refine m_assign ?_
   refine hKK _ _ ?_
   clear hKK KK
   refine awp_ret ⟨[_], ⟨⟨(by simp only [go_sem, reduceIte, Nat.reduceEqDiff, FF]), (by simp only [go_sem, reduceIte, Nat.reduceEqDiff, FF] <;> rfl)⟩, trivial⟩, ?_⟩
   simp only [go_sem, reduceIte, Nat.reduceEqDiff, FF, tupled]
   rw [hi'] at hres
   rw [hres]
   exact CV.Sub.refl _
theorem rname_ok (s : ByteArray) : APure Tryz.prog 28 [.str s] (.bool (namedB s false)) := by
 have FF : True := trivial
 refine apure_of Tryz.func28 rfl (by kernel_rfl) (by simp [Tryz.ntmps28]) ?_
 rw [Tryz.ntmps28]
 refine awp_rseq (by decide) fun KK hKK => ?_
 refine m_assign ?_
 refine hKK _ _ ?_
 clear hKK KK
 refine awp_rseq (by decide) fun KK hKK => ?_
 refine m_move ?_
 refine m_call (fun hG => named_ok s false) ?_
 refine m_assign ?_
 refine hKK _ _ ?_
 clear hKK KK
 refine awp_ret ⟨[_], ⟨⟨(by simp only [go_sem, reduceIte, Nat.reduceEqDiff, FF]), (by simp only [go_sem, reduceIte, Nat.reduceEqDiff, FF] <;> rfl)⟩, trivial⟩, ?_⟩
 simp only [go_sem, reduceIte, Nat.reduceEqDiff, FF, tupled]
 exact CV.Sub.refl _
end Go.Am
namespace Go.Am
open Go.Proofs
attribute [local go_sem ↓] ofL_cons ofH_cons upd_apply
set_option maxHeartbeats 1000000
set_option linter.unusedSimpArgs false
theorem all_take {α : Type} [Inhabited α] {l : List α} {i : Nat} (h : i < l.length) (p : α → Bool) : (l.take (i + 1)).all p = ((l.take i).all p && p (l.getD i default)) := by
 rw [List.take_succ_eq_append_getElem h, List.all_append, getD_lt h]
 simp
theorem all_not {α : Type} [Inhabited α] {l : List α} {i : Nat} (h : i < l.length) {p : α → Bool} (hp : p (l.getD i default) = false) : l.all p = false := by
 rw [List.all_eq_false]
 refine ⟨l[i], List.getElem_mem h, ?_⟩
 rw [getD_lt h] at hp
 simp [hp]
def lightB (r : Rn) : Bool := !(decide ((100 : Int) < r.name.size) || decide ((270 : Int) < r.items.length)) && r.items.all fun x => !decide ((100 : Int) < x.id.size)
def dfIn (d : Df) : Prop := -1073741824 ≤ d.old ∧ d.old ≤ 1073741824 ∧ -1073741824 ≤ d.new ∧ d.new ≤ 1073741824
theorem sumF_bd : ∀ {l : List Df} (k : Int), (∀ d ∈ l, dfIn d) → -(l.length * 2147483648 : Int) ≤ sumF l k ∧ sumF l k ≤ l.length * 2147483648
 | [], k, _ => by simp [sumF]
 | d :: l, k, h => by
   have ih := sumF_bd k fun x hx => h x (List.mem_cons_of_mem _ hx)
   have hd := h d (List.mem_cons_self ..)
   have e : sumF (d :: l) k = (if d.kind == k then d.new - d.old else 0) + sumF l k := rfl
   rw [e, List.length_cons]
   unfold dfIn at hd
   split <;> omega
theorem sumF_next {l : List Df} {i : Nat} (h : i < l.length) (k : Int) : sumF (l.take (i + 1)) k = sumF (l.take i) k + (if (l.getD i default).kind == k then (l.getD i default).new - (l.getD i default).old else 0) := by
 rw [List.take_succ_eq_append_getElem h, sumF_app, getD_lt h]
 simp [sumF]
variable [Glb]
theorem rlight_ok (r : Rn) (hl : r.items.length ≤ 9223372036854775807) : APure Tryz.prog 10 [.agg (rnC r)] (.bool (lightB r)) := by
 have FF : True := trivial
 refine apure_of Tryz.func10 rfl (by kernel_rfl) (by simp [Tryz.ntmps10]) ?_
 rw [Tryz.ntmps10]
 refine awp_rseq (by decide) fun KK hKK => ?_
 refine m_box ?_
 refine m_assign ?_
 refine hKK _ _ ?_
 clear hKK KK
 refine awp_seq ?_
 refine awp_rseq (by decide) fun KK hKK => ?_
 refine m_field ?_
 refine m_load ?_
 refine m_len ?_
 refine m_bin ?_
 refine m_move ?_
 refine g_field ?_
 refine g_load ?_
 refine g_len ?_
 refine g_bin ?_
 refine m_pick ?_
 refine hKK _ _ ?_
 clear hKK KK
 refine m_cond (fun hc => ?_) (fun hc => ?_)
 · refine awp_rseq (by decide) fun KK hKK => ?_
   refine m_assign ?_
   refine hKK _ _ ?_
   clear hKK KK
   refine awp_ret ⟨[_], ⟨⟨(by simp only [go_sem, reduceIte, Nat.reduceEqDiff, FF]), (by simp only [go_sem, reduceIte, Nat.reduceEqDiff, FF] <;> rfl)⟩, trivial⟩, ?_⟩
   simp only [go_sem, reduceIte, Nat.reduceEqDiff, FF, tupled]
   have e0 : lightB r = false := by unfold lightB; rw [hc]; rfl
   rw [e0]
   exact CV.Sub.refl _
 refine awp_skip ?_
 first | rw [thenQ_normal] | rw [blockQ_normal, thenQ_normal]
 refine awp_seq ?_
 refine awp_rseq (by decide) fun KK hKK => ?_
 refine m_assign ?_
 refine hKK _ _ ?_
 clear hKK KK
 refine awp_block ?_
 refine m_for (ι := Nat) (fun i => [(1, .ptr 1 0), (3, .int i)]) (fun i => [(1, .box 24 ((rnC r).map .c))]) (fun i => r.items.length - i) (fun i => i ≤ r.items.length ∧ (r.items.take i).all (fun x => !decide ((100 : Int) < x.id.size)) = true) (0) ?_ ?_
 · exact ⟨Nat.zero_le _, rfl⟩
 rintro i ⟨hi, hres⟩
 have hc0 := hc
 clear hc
 refine awp_seq ?_
 refine awp_rseq (by decide) fun KK hKK => ?_
 refine m_move ?_
 refine m_field ?_
 refine m_load ?_
 refine m_len ?_
 refine m_bin ?_
 refine hKK _ _ ?_
 clear hKK KK
 refine m_cond (fun hc => ?_) (fun hc => ?_)
 · simp only [decide_eq_true_eq] at hc
   have hi' : i < r.items.length := by omega
   have w3 : IntKind.i64.wrap ((i : Int) + 1) = ((i + 1 : Nat) : Int) := wrap_in (by omega)
   have eK := itL_get hi'
   refine awp_skip ?_
   first | rw [thenQ_normal] | rw [blockQ_normal, thenQ_normal]
   refine awp_seq (awp_block ?_)
   clear hc
   have FF := And.intro eK FF
   refine awp_rseq (by decide) fun KK hKK => ?_
   refine m_field ?_
   refine m_load ?_
   refine m_move ?_
   first | refine m_index ?_ | refine m_idxA ?_
   refine m_field ?_
   refine m_load ?_
   refine m_len ?_
   refine m_bin ?_
   refine hKK _ _ ?_
   clear hKK KK
   refine m_cond (fun hc => ?_) (fun hc => ?_)
   · refine awp_rseq (by decide) fun KK hKK => ?_
     refine m_assign ?_
     refine hKK _ _ ?_
     clear hKK KK
     refine awp_ret ⟨[_], ⟨⟨(by simp only [go_sem, reduceIte, Nat.reduceEqDiff, FF]), (by simp only [go_sem, reduceIte, Nat.reduceEqDiff, FF] <;> rfl)⟩, trivial⟩, ?_⟩
     simp only [go_sem, reduceIte, Nat.reduceEqDiff, FF, tupled]
     have e0 : lightB r = false := by unfold lightB; rw [all_not hi' (by rw [hc]; rfl)]; simp
     rw [e0]
     exact CV.Sub.refl _
   refine awp_skip ?_
   first | rw [thenQ_normal] | rw [blockQ_normal, thenQ_normal]
   have FF := And.intro w3 FF
   refine awp_rlast (by decide) fun KK hKK => ?_
   refine m_move ?_
   refine m_bin ?_
   refine m_assign ?_
   refine hKK _ _ ?_
   clear hKK KK
   try rw [thenQ_normal]
   refine m_next (i + 1) ?_ ?_
   · exact ⟨hi', by rw [all_take hi', hres, hc]; rfl⟩
   · omega
 · refine awp_exit ?_
   simp only [thenQ_exit, blockQ_exit, reduceIte, Nat.reduceEqDiff]
   try rw [thenQ_normal]
   have hi' : i = r.items.length := by simp only [decide_eq_false_iff_not] at hc; omega
   refine awp_rseq (by decide) fun KK hKK => ?_
   refine m_assign ?_
   refine hKK _ _ ?_
   clear hKK KK
   refine awp_ret ⟨[_], ⟨⟨(by simp only [go_sem, reduceIte, Nat.reduceEqDiff, FF]), (by simp only [go_sem, reduceIte, Nat.reduceEqDiff, FF] <;> rfl)⟩, trivial⟩, ?_⟩
   simp only [go_sem, reduceIte, Nat.reduceEqDiff, FF, tupled]
   have e0 : lightB r = true := by
     unfold lightB
     rw [hi', List.take_length] at hres
     rw [hc0, hres]; rfl
   rw [e0]
   exact CV.Sub.refl _
theorem ids_ok (a b : Rn) (hl : a.items.length ≤ 9223372036854775807) : APure Tryz.prog 24 [.agg (rnC a), .agg (rnC b)] (.bool (decide (a.items.map It.id = b.items.map It.id))) := by
 have FF : True := trivial
 refine apure_of Tryz.func24 rfl (by kernel_rfl) (by simp [Tryz.ntmps24]) ?_
 rw [Tryz.ntmps24]
 refine awp_rseq (by decide) fun KK hKK => ?_
 refine m_box ?_
 refine m_box ?_
 refine m_assign ?_
 refine hKK _ _ ?_
 clear hKK KK
 refine awp_seq ?_
 refine awp_rseq (by decide) fun KK hKK => ?_
 refine m_field ?_
 refine m_load ?_
 refine m_len ?_
 refine m_field ?_
 refine m_load ?_
 refine m_len ?_
 refine m_bin ?_
 refine hKK _ _ ?_
 clear hKK KK
 refine m_cond (fun hc => ?_) (fun hc => ?_)
 · refine awp_rseq (by decide) fun KK hKK => ?_
   refine m_assign ?_
   refine hKK _ _ ?_
   clear hKK KK
   refine awp_ret ⟨[_], ⟨⟨(by simp only [go_sem, reduceIte, Nat.reduceEqDiff, FF]), (by simp only [go_sem, reduceIte, Nat.reduceEqDiff, FF] <;> rfl)⟩, trivial⟩, ?_⟩
   simp only [go_sem, reduceIte, Nat.reduceEqDiff, FF, tupled]
   have e0 : decide (a.items.map It.id = b.items.map It.id) = false := by
     rw [decide_eq_false_iff_not]
     intro e
     have := congrArg List.length e
     simp at this hc
     omega
   rw [e0]
   exact CV.Sub.refl _
 have hlen' : a.items.length = b.items.length := by simp at hc; omega
 clear hc
 refine awp_skip ?_
 first | rw [thenQ_normal] | rw [blockQ_normal, thenQ_normal]
 refine awp_seq ?_
 refine awp_rseq (by decide) fun KK hKK => ?_
 refine m_assign ?_
 refine hKK _ _ ?_
 clear hKK KK
 refine awp_block ?_
 refine m_for (ι := Nat) (fun i => [(2, .ptr 2 0), (3, .ptr 3 0), (5, .int i)]) (fun i => [(2, .box 24 ((rnC a).map .c)), (3, .box 24 ((rnC b).map .c))]) (fun i => a.items.length - i) (fun i => i ≤ a.items.length ∧ (a.items.take i).map It.id = (b.items.take i).map It.id) (0) ?_ ?_
 · exact ⟨Nat.zero_le _, rfl⟩
 rintro i ⟨hi, hres⟩
 refine awp_seq ?_
 refine awp_rseq (by decide) fun KK hKK => ?_
 refine m_move ?_
 refine m_field ?_
 refine m_load ?_
 refine m_len ?_
 refine m_bin ?_
 refine hKK _ _ ?_
 clear hKK KK
 refine m_cond (fun hc => ?_) (fun hc => ?_)
 · simp only [decide_eq_true_eq] at hc
   have hi' : i < a.items.length := by omega
   have hi2 : i < b.items.length := by omega
   have w3 : IntKind.i64.wrap ((i : Int) + 1) = ((i + 1 : Nat) : Int) := wrap_in (by omega)
   have eA := itL_get hi'
   have eB := itL_get hi2
   refine awp_skip ?_
   first | rw [thenQ_normal] | rw [blockQ_normal, thenQ_normal]
   refine awp_seq (awp_block ?_)
   clear hc
   have FF := And.intro eA (And.intro eB FF)
   refine awp_rseq_draw Tryz.mixed (by decide) (by kernel_rfl) fun KK hKK => ?_
   refine m_field ?_
   refine m_load ?_
   refine m_move ?_
   first | refine m_index ?_ | refine m_idxA ?_
   refine m_field ?_
   refine m_load ?_
   refine m_field ?_
   refine m_load ?_
   refine m_move ?_
   first | refine m_index ?_ | refine m_idxA ?_
   refine m_field ?_
   refine m_load ?_
   refine m_bin ?_
   refine hKK _ _ ?_
   clear hKK KK
   refine m_cond (fun hc => ?_) (fun hc => ?_)
   · refine awp_rseq (by decide) fun KK hKK => ?_
     refine m_assign ?_
     refine hKK _ _ ?_
     clear hKK KK
     refine awp_ret ⟨[_], ⟨⟨(by simp only [go_sem, reduceIte, Nat.reduceEqDiff, FF]), (by simp only [go_sem, reduceIte, Nat.reduceEqDiff, FF] <;> rfl)⟩, trivial⟩, ?_⟩
     simp only [go_sem, reduceIte, Nat.reduceEqDiff, FF, tupled]
     have e0 : decide (a.items.map It.id = b.items.map It.id) = false := by
       rw [decide_eq_false_iff_not]
       intro e
       rw [str_beq] at hc
       simp only [Bool.not_eq_true', decide_eq_false_iff_not] at hc
       apply hc
       have := congrArg (fun l => l[i]?) e
       simp only [List.getElem?_map, List.getElem?_eq_getElem hi', List.getElem?_eq_getElem hi2, Option.map_some, Option.some.injEq] at this
       rw [getD_lt hi', getD_lt hi2, this]
     rw [e0]
     exact CV.Sub.refl _
   refine awp_skip ?_
   first | rw [thenQ_normal] | rw [blockQ_normal, thenQ_normal]
   have FF := And.intro w3 FF
   refine awp_rlast (by decide) fun KK hKK => ?_
   refine m_move ?_
   refine m_bin ?_
   refine m_assign ?_
   refine hKK _ _ ?_
   clear hKK KK
   try rw [thenQ_normal]
   refine m_next (i + 1) ?_ ?_
   · refine ⟨hi', ?_⟩
     rw [str_beq] at hc
     simp only [Bool.not_eq_false', decide_eq_true_eq] at hc
     rw [getD_lt hi', getD_lt hi2] at hc
     rw [List.take_succ_eq_append_getElem hi', List.take_succ_eq_append_getElem hi2, List.map_append, List.map_append, hres, List.map_cons, List.map_cons, hc]
   · omega
 · refine awp_exit ?_
   simp only [thenQ_exit, blockQ_exit, reduceIte, Nat.reduceEqDiff]
   try rw [thenQ_normal]
   have hi' : i = a.items.length := by simp only [decide_eq_false_iff_not] at hc; omega
   refine awp_rseq (by decide) fun KK hKK => ?_
   refine m_assign ?_
   refine hKK _ _ ?_
   clear hKK KK
   refine awp_ret ⟨[_], ⟨⟨(by simp only [go_sem, reduceIte, Nat.reduceEqDiff, FF]), (by simp only [go_sem, reduceIte, Nat.reduceEqDiff, FF] <;> rfl)⟩, trivial⟩, ?_⟩
   simp only [go_sem, reduceIte, Nat.reduceEqDiff, FF, tupled]
   have e0 : decide (a.items.map It.id = b.items.map It.id) = true := by
     rw [decide_eq_true_eq]
     rw [hi', List.take_length, hlen', List.take_length] at hres
     exact hres
   rw [e0]
   exact CV.Sub.refl _
theorem sum_ok (l : List Df) (k : Int) (hl : l.length ≤ 1000000) (hd : ∀ d ∈ l, dfIn d) : APure Tryz.prog 25 [dfL l, .int k] (.int (sumF l k)) := by
 have FF : True := trivial
 refine apure_of Tryz.func25 rfl (by kernel_rfl) (by simp [Tryz.ntmps25]) ?_
 rw [Tryz.ntmps25]
 refine awp_rseq (by decide) fun KK hKK => ?_
 refine m_assign ?_
 refine hKK _ _ ?_
 clear hKK KK
 refine awp_rseq (by decide) fun KK hKK => ?_
 refine m_assign ?_
 refine hKK _ _ ?_
 clear hKK KK
 refine awp_seq ?_
 refine awp_rseq (by decide) fun KK hKK => ?_
 refine m_assign ?_
 refine hKK _ _ ?_
 clear hKK KK
 refine awp_block ?_
 refine m_for (ι := Nat) (fun i => [(0, .c (dfL l)), (1, .int k), (5, .int (sumF (l.take i) k)), (6, .int i)]) (fun i => []) (fun i => l.length - i) (fun i => i ≤ l.length) (0) ?_ ?_
 · exact Nat.zero_le _
 rintro i hi
 refine awp_seq ?_
 refine awp_rseq (by decide) fun KK hKK => ?_
 refine m_move ?_
 refine m_move ?_
 refine m_len ?_
 refine m_bin ?_
 refine hKK _ _ ?_
 clear hKK KK
 refine m_cond (fun hc => ?_) (fun hc => ?_)
 · simp only [decide_eq_true_eq] at hc
   have hi' : i < l.length := by omega
   have w3 : IntKind.i64.wrap ((i : Int) + 1) = ((i + 1 : Nat) : Int) := wrap_in (by omega)
   have eA := dfL_get hi'
   have hb := sumF_bd (l := l.take i) k fun d h => hd d (List.mem_of_mem_take h)
   rw [List.length_take, Nat.min_eq_left hi] at hb
   have hdi := hd _ (List.getElem_mem hi')
   rw [← getD_lt (d := default) hi'] at hdi
   unfold dfIn at hdi
   have hn := sumF_next hi' k
   generalize sumF (l.take i) k = S at *
   generalize l.getD i default = D at *
   refine awp_skip ?_
   first | rw [thenQ_normal] | rw [blockQ_normal, thenQ_normal]
   refine awp_seq (awp_block ?_)
   clear hc
   have FF := And.intro eA FF
   refine awp_rseq (by decide) fun KK hKK => ?_
   refine m_move ?_
   refine m_move ?_
   first | refine m_index ?_ | refine m_idxA ?_
   refine m_field ?_
   refine m_load ?_
   refine m_move ?_
   refine m_bin ?_
   refine hKK _ _ ?_
   clear hKK KK
   have w1 : IntKind.i64.wrap (S + D.new) = S + D.new := wrap_in (by omega)
   have w2 : IntKind.i64.wrap (S + D.new - D.old) = S + D.new - D.old := wrap_in (by omega)
   refine m_cond (fun hc => ?_) (fun hc => ?_)
   · have FF := And.intro eA (And.intro w1 (And.intro w2 FF))
     refine awp_rlast_draw Tryz.mixed (by decide) (by kernel_rfl) fun KK hKK => ?_
     refine m_move ?_
     refine m_move ?_
     refine m_move ?_
     first | refine m_index ?_ | refine m_idxA ?_
     refine m_field ?_
     refine m_load ?_
     refine m_bin ?_
     refine m_move ?_
     refine m_move ?_
     first | refine m_index ?_ | refine m_idxA ?_
     refine m_field ?_
     refine m_load ?_
     refine m_bin ?_
     refine m_assign ?_
     refine hKK _ _ ?_
     clear hKK KK
     rw [blockQ_normal]
     try rw [thenQ_normal]
     have FF := And.intro w3 FF
     refine awp_rlast (by decide) fun KK hKK => ?_
     refine m_move ?_
     refine m_bin ?_
     refine m_assign ?_
     refine hKK _ _ ?_
     clear hKK KK
     have e0 : S + D.new - D.old = sumF (l.take (i + 1)) k := by rw [hn, if_pos hc]; omega
     rw [e0]
     try rw [thenQ_normal]
     refine m_next (i + 1) ?_ ?_
     · exact hi'
     · omega
   · refine awp_skip ?_
     first | rw [thenQ_normal] | rw [blockQ_normal, thenQ_normal]
     have FF := And.intro w3 FF
     refine awp_rlast (by decide) fun KK hKK => ?_
     refine m_move ?_
     refine m_bin ?_
     refine m_assign ?_
     refine hKK _ _ ?_
     clear hKK KK
     have e0 : S = sumF (l.take (i + 1)) k := by rw [hn, if_neg (by simpa using hc)]; omega
     rw [e0]
     try rw [thenQ_normal]
     refine m_next (i + 1) ?_ ?_
     · exact hi'
     · omega
 · refine awp_exit ?_
   simp only [thenQ_exit, blockQ_exit, reduceIte, Nat.reduceEqDiff]
   try rw [thenQ_normal]
   have hi' : i = l.length := by simp only [decide_eq_false_iff_not] at hc; omega
   subst hi'
   rw [List.take_length]
   refine awp_rseq (by decide) fun KK hKK => ?_
   refine m_move ?_
   refine m_assign ?_
   refine hKK _ _ ?_
   clear hKK KK
   refine awp_ret ⟨[_], ⟨⟨(by simp only [go_sem, reduceIte, Nat.reduceEqDiff, FF]), (by simp only [go_sem, reduceIte, Nat.reduceEqDiff, FF] <;> rfl)⟩, trivial⟩, ?_⟩
   simp only [go_sem, reduceIte, Nat.reduceEqDiff, FF, tupled]
   exact CV.Sub.refl _
theorem rcounted_ok (n : Int) : APure Tryz.prog 29 [.int n] (.bool (countB n)) := by
 have FF : True := trivial
 refine apure_of Tryz.func29 rfl (by kernel_rfl) (by simp [Tryz.ntmps29]) ?_
 rw [Tryz.ntmps29]
 refine awp_rseq (by decide) fun KK hKK => ?_
 refine m_assign ?_
 refine hKK _ _ ?_
 clear hKK KK
 refine awp_rseq (by decide) fun KK hKK => ?_
 refine m_move ?_
 refine m_bin ?_
 refine m_move ?_
 refine g_move ?_
 refine g_bin ?_
 refine m_pick ?_
 refine m_assign ?_
 refine hKK _ _ ?_
 clear hKK KK
 refine awp_ret ⟨[_], ⟨⟨(by simp only [go_sem, reduceIte, Nat.reduceEqDiff, FF]), (by simp only [go_sem, reduceIte, Nat.reduceEqDiff, FF] <;> rfl)⟩, trivial⟩, ?_⟩
 simp only [go_sem, reduceIte, Nat.reduceEqDiff, FF, tupled]
 exact CV.Sub.refl _
end Go.Am
namespace Go.Am
open Go.Proofs
attribute [local go_sem ↓] ofL_cons ofH_cons upd_apply
set_option maxHeartbeats 1000000
set_option linter.unusedSimpArgs false
theorem le_not (x q : ByteArray) : (lessS x q || x.toList == q.toList) = !lessS q x := by
 rw [str_beq]
 cases h : lessS q x with
 | true =>
   rw [lessS_asymm h]
   have : x ≠ q := fun e => by
     rw [e, lessS_irrefl] at h
     cases h
   simp [this]
 | false =>
   cases h2 : lessS x q with
   | true => rfl
   | false => simp [lessS_total h2 h]
variable [Glb]
theorem rcheck_ok (r : Rn) (hl : r.items.length ≤ 9223372036854775807) : APure Tryz.prog 12 [.agg (rnC r)] (.int (checkF r)) := by
 have FF : True := trivial
 refine apure_of Tryz.func12 rfl (by kernel_rfl) (by simp [Tryz.ntmps12]) ?_
 rw [Tryz.ntmps12]
 unfold checkF
 refine awp_rseq (by decide) fun KK hKK => ?_
 refine m_box ?_
 refine m_assign ?_
 refine hKK _ _ ?_
 clear hKK KK
 refine awp_seq ?_
 refine awp_rseq (by decide) fun KK hKK => ?_
 refine m_field ?_
 refine m_load ?_
 refine m_call (fun hG => rname_ok r.name) ?_
 refine m_not ?_
 refine hKK _ _ ?_
 clear hKK KK
 refine m_cond (fun hc => ?_) (fun hc => ?_)
 · rw [if_pos hc]
   refine awp_rseq (by decide) fun KK hKK => ?_
   refine m_assign ?_
   refine hKK _ _ ?_
   clear hKK KK
   refine awp_ret ⟨[_], ⟨⟨(by simp only [go_sem, reduceIte, Nat.reduceEqDiff, FF]), (by simp only [go_sem, reduceIte, Nat.reduceEqDiff, FF] <;> rfl)⟩, trivial⟩, ?_⟩
   simp only [go_sem, reduceIte, Nat.reduceEqDiff, FF, tupled]
   exact CV.Sub.refl _
 rw [if_neg (by rw [hc]; decide)]
 clear hc
 refine awp_skip ?_
 first | rw [thenQ_normal] | rw [blockQ_normal, thenQ_normal]
 refine awp_seq ?_
 refine awp_rseq (by decide) fun KK hKK => ?_
 refine m_field ?_
 refine m_load ?_
 refine m_len ?_
 refine m_bin ?_
 refine hKK _ _ ?_
 clear hKK KK
 refine m_cond (fun hc => ?_) (fun hc => ?_)
 · rw [if_pos (by simpa using hc)]
   refine awp_rseq (by decide) fun KK hKK => ?_
   refine m_assign ?_
   refine hKK _ _ ?_
   clear hKK KK
   refine awp_ret ⟨[_], ⟨⟨(by simp only [go_sem, reduceIte, Nat.reduceEqDiff, FF]), (by simp only [go_sem, reduceIte, Nat.reduceEqDiff, FF] <;> rfl)⟩, trivial⟩, ?_⟩
   simp only [go_sem, reduceIte, Nat.reduceEqDiff, FF, tupled]
   exact CV.Sub.refl _
 rw [if_neg (by simpa using hc)]
 clear hc
 refine awp_skip ?_
 first | rw [thenQ_normal] | rw [blockQ_normal, thenQ_normal]
 refine awp_seq ?_
 refine awp_rseq (by decide) fun KK hKK => ?_
 refine m_assign ?_
 refine hKK _ _ ?_
 clear hKK KK
 refine awp_block ?_
 refine m_for (ι := Nat) (fun i => [(1, .ptr 1 0), (3, .int i)]) (fun i => [(1, .box 24 ((rnC r).map .c))]) (fun i => r.items.length - i) (fun i => i ≤ r.items.length ∧ chkItems (prevI r.items i) (r.items.drop i) = chkItems none r.items) (0) ?_ ?_
 · exact ⟨Nat.zero_le _, rfl⟩
 rintro i ⟨hi, hres⟩
 refine awp_seq ?_
 refine awp_rseq (by decide) fun KK hKK => ?_
 refine m_move ?_
 refine m_field ?_
 refine m_load ?_
 refine m_len ?_
 refine m_bin ?_
 refine hKK _ _ ?_
 clear hKK KK
 refine m_cond (fun hc => ?_) (fun hc => ?_)
 · simp only [decide_eq_true_eq] at hc
   have hi' : i < r.items.length := by omega
   have w3 : IntKind.i64.wrap ((i : Int) + 1) = ((i + 1 : Nat) : Int) := wrap_in (by omega)
   have eK := itL_get hi'
   rw [chk_drop hi'] at hres
   generalize hx : r.items.getD i default = x at *
   refine awp_skip ?_
   first | rw [thenQ_normal] | rw [blockQ_normal, thenQ_normal]
   refine awp_seq (awp_block ?_)
   clear hc
   have FF := And.intro eK FF
   refine awp_rseq (by decide) fun KK hKK => ?_
   refine m_field ?_
   refine m_load ?_
   refine m_move ?_
   first | refine m_index ?_ | refine m_idxA ?_
   refine m_load ?_
   refine m_alloc ?_
   first | refine m_stPtr ?_ | refine m_stRp ?_
   refine hKK _ _ ?_
   clear hKK KK
   refine m_cut [(1, .ptr 1 0), (3, .int i), (4, .ptr 4 0)] [(1, .box 24 ((rnC r).map .c)), (4, .box 47 ((itC x).map .c))] ?_
   refine awp_seq ?_
   refine awp_rseq (by decide) fun KK hKK => ?_
   refine m_field ?_
   refine m_load ?_
   refine m_call (fun hG => rname_ok x.id) ?_
   refine m_not ?_
   refine hKK _ _ ?_
   clear hKK KK
   refine m_cond (fun hc => ?_) (fun hc => ?_)
   · refine awp_rseq (by decide) fun KK hKK => ?_
     refine m_assign ?_
     refine hKK _ _ ?_
     clear hKK KK
     refine awp_ret ⟨[_], ⟨⟨(by simp only [go_sem, reduceIte, Nat.reduceEqDiff, FF]), (by simp only [go_sem, reduceIte, Nat.reduceEqDiff, FF] <;> rfl)⟩, trivial⟩, ?_⟩
     simp only [go_sem, reduceIte, Nat.reduceEqDiff, FF, tupled]
     have e0 : itemE (prevI r.items i) x = 1 := by unfold itemE; rw [if_pos hc]
     rw [← hres, e0]
     exact CV.Sub.refl _
   have hnm := hc
   clear hc
   refine awp_skip ?_
   first | rw [thenQ_normal] | rw [blockQ_normal, thenQ_normal]
   refine m_join (ι := Unit) (fun u => [(1, .ptr 1 0), (3, .int i), (4, .ptr 4 0)]) (fun u => [(1, .box 24 ((rnC r).map .c)), (4, .box 47 ((itC x).map .c))]) (fun u => ordE (prevI r.items i) x.id = false) ?_ ?_
   · cases hE : decide ((0 : Int) < (i : Nat)) with
     | false =>
       have hi0 : i = 0 := by simp only [decide_eq_false_iff_not] at hE; omega
       refine awp_rseq_draw Tryz.mixed (by decide) (by kernel_rfl) fun KK hKK => ?_
       refine st0 rfl (k_move (by simp only [go_sem, reduceIte, Nat.reduceEqDiff, FF, hE] <;> rfl)) ?_
       refine st0 rfl (k_bin (by simp only [go_sem, reduceIte, Nat.reduceEqDiff, FF, hE] <;> rfl) (by simp only [go_sem, reduceIte, Nat.reduceEqDiff, FF, hE] <;> rfl) (by rfl) (by rfl) (by simp only [go_sem, reduceIte, Nat.reduceEqDiff, FF, hE] <;> rfl) (by intro hG; simp only [go_sem])) ?_
       refine st0 rfl (k_move (by simp only [go_sem, reduceIte, Nat.reduceEqDiff, FF, hE] <;> rfl)) ?_
       refine sgF rfl (by simp only [go_sem, reduceIte, Nat.reduceEqDiff, FF, hE] <;> rfl) (by rfl) (by simp only [go_sem, reduceIte, Nat.reduceEqDiff, FF, hE, hE] <;> rfl) ?_
       refine sgF rfl (by simp only [go_sem, reduceIte, Nat.reduceEqDiff, FF, hE] <;> rfl) (by rfl) (by simp only [go_sem, reduceIte, Nat.reduceEqDiff, FF, hE, hE] <;> rfl) ?_
       refine sgF rfl (by simp only [go_sem, reduceIte, Nat.reduceEqDiff, FF, hE] <;> rfl) (by rfl) (by simp only [go_sem, reduceIte, Nat.reduceEqDiff, FF, hE, hE] <;> rfl) ?_
       refine sgF rfl (by simp only [go_sem, reduceIte, Nat.reduceEqDiff, FF, hE] <;> rfl) (by rfl) (by simp only [go_sem, reduceIte, Nat.reduceEqDiff, FF, hE, hE] <;> rfl) ?_
       refine sgF rfl (by simp only [go_sem, reduceIte, Nat.reduceEqDiff, FF, hE] <;> rfl) (by rfl) (by simp only [go_sem, reduceIte, Nat.reduceEqDiff, FF, hE, hE] <;> rfl) ?_
       refine sgF rfl (by simp only [go_sem, reduceIte, Nat.reduceEqDiff, FF, hE] <;> rfl) (by rfl) (by simp only [go_sem, reduceIte, Nat.reduceEqDiff, FF, hE, hE] <;> rfl) ?_
       refine sgF rfl (by simp only [go_sem, reduceIte, Nat.reduceEqDiff, FF, hE] <;> rfl) (by rfl) (by simp only [go_sem, reduceIte, Nat.reduceEqDiff, FF, hE, hE] <;> rfl) ?_
       refine sgF rfl (by simp only [go_sem, reduceIte, Nat.reduceEqDiff, FF, hE] <;> rfl) (by rfl) (by simp only [go_sem, reduceIte, Nat.reduceEqDiff, FF, hE, hE] <;> rfl) ?_
       refine sgF rfl (by simp only [go_sem, reduceIte, Nat.reduceEqDiff, FF, hE] <;> rfl) (by rfl) (by simp only [go_sem, reduceIte, Nat.reduceEqDiff, FF, hE, hE] <;> rfl) ?_
       refine sgF rfl (by simp only [go_sem, reduceIte, Nat.reduceEqDiff, FF, hE] <;> rfl) (by rfl) (by simp only [go_sem, reduceIte, Nat.reduceEqDiff, FF, hE, hE] <;> rfl) ?_
       refine st0 rfl (k_pick (by simp only [go_sem, reduceIte, Nat.reduceEqDiff, FF, hE] <;> rfl) (by simp only [go_sem, reduceIte, Nat.reduceEqDiff, FF, hE] <;> rfl) (by simp only [go_sem, reduceIte, Nat.reduceEqDiff, FF, hE] <;> rfl) (by rfl) (by rfl) (by rfl) (by intro hG; first | (simp only [go_sem, reduceIte, Nat.reduceEqDiff, FF, hE, hE]; done) | (simp [go_sem]; done) | (simp [go_sem] at hG ⊢ <;> simp [hG] <;> (intros; simp_all))) (by first | (simp only [go_sem, reduceIte, Nat.reduceEqDiff, FF, hE] <;> rfl) | rfl)) ?_
       refine hKK _ _ ?_
       clear hKK KK
       refine awp_cond (by simp only [go_sem, reduceIte, Nat.reduceEqDiff, FF, hE] <;> rfl) (fun hc => ?_) (fun hc => ?_)
       · cases hc
       refine awp_skip ?_
       try rw [thenQ_normal]
       refine ⟨(), ?_, (by simp only [List.forall_mem_cons, List.forall_mem_nil, go_sem, reduceIte, Nat.reduceEqDiff, FF]; all_goals ((repeat' apply And.intro) <;> first | trivial | rfl | exact objLe_refl _ | (intro _ _; exact Subs.refl _))), (by simp only [List.forall_mem_cons, List.forall_mem_nil, go_sem, reduceIte, Nat.reduceEqDiff, FF]; all_goals ((repeat' apply And.intro) <;> first | trivial | rfl | exact objLe_refl _ | (intro _ _; exact Subs.refl _)))⟩
       rw [hi0]
       rfl
     | true =>
       obtain ⟨j, rfl⟩ : ∃ j, i = j + 1 := ⟨i - 1, by simp only [decide_eq_true_eq] at hE; omega⟩
       have wP : IntKind.i64.wrap (((j + 1 : Nat) : Int) - 1) = (j : Int) := by rw [wrap_in (by omega)]; omega
       have eP := itL_get (l := r.items) (i := j) (by omega)
       have hp : prevI r.items (j + 1) = some (r.items.getD j default).id := rfl
       rw [hp] at hres ⊢
       generalize r.items.getD j default = y at *
       have FF := And.intro hE (And.intro wP (And.intro eP FF))
       refine awp_rseq_draw Tryz.mixed (by decide) (by kernel_rfl) fun KK hKK => ?_
       refine m_move ?_
       refine m_bin ?_
       refine m_move ?_
       refine g_field ?_
       refine g_load ?_
       refine g_field ?_
       refine g_load ?_
       refine g_move ?_
       refine g_bin ?_
       first | refine g_index ?_ | refine g_idxA ?_
       refine g_field ?_
       refine g_load ?_
       refine g_bin ?_
       refine m_pick ?_
       refine hKK _ _ ?_
       clear hKK KK
       refine m_cond (fun hc => ?_) (fun hc => ?_)
       · rw [lessT, le_not] at hc
         refine awp_rseq (by decide) fun KK hKK => ?_
         refine m_assign ?_
         refine hKK _ _ ?_
         clear hKK KK
         refine awp_ret ⟨[_], ⟨⟨(by simp only [go_sem, reduceIte, Nat.reduceEqDiff, FF]), (by simp only [go_sem, reduceIte, Nat.reduceEqDiff, FF] <;> rfl)⟩, trivial⟩, ?_⟩
         simp only [go_sem, reduceIte, Nat.reduceEqDiff, FF, tupled]
         have e0 : itemE (some y.id) x = 3 := by
           unfold itemE
           rw [hnm, if_neg (by decide)]
           exact if_pos hc
         rw [← hres, e0]
         exact CV.Sub.refl _
       rw [lessT, le_not] at hc
       refine awp_skip ?_
       try rw [thenQ_normal]
       refine ⟨(), ?_, (by simp only [List.forall_mem_cons, List.forall_mem_nil, go_sem, reduceIte, Nat.reduceEqDiff, FF]; all_goals ((repeat' apply And.intro) <;> first | trivial | rfl | exact objLe_refl _ | (intro _ _; exact Subs.refl _))), (by simp only [List.forall_mem_cons, List.forall_mem_nil, go_sem, reduceIte, Nat.reduceEqDiff, FF]; all_goals ((repeat' apply And.intro) <;> first | trivial | rfl | exact objLe_refl _ | (intro _ _; exact Subs.refl _)))⟩
       exact hc
   rintro - hb
   refine awp_rseq (by decide) fun KK hKK => ?_
   refine m_field ?_
   refine m_load ?_
   refine m_call (fun hG => rcounted_ok _) ?_
   refine m_not ?_
   refine m_move ?_
   refine g_field ?_
   refine g_load ?_
   refine g_call (fun hG => rcounted_ok _) ?_
   refine g_not ?_
   refine m_pick ?_
   refine m_move ?_
   refine g_field ?_
   refine g_load ?_
   refine g_call (fun hG => rcounted_ok _) ?_
   refine g_not ?_
   refine m_pick ?_
   refine hKK _ _ ?_
   clear hKK KK
   refine m_cond (fun hc => ?_) (fun hc => ?_)
   · refine awp_rseq (by decide) fun KK hKK => ?_
     refine m_assign ?_
     refine hKK _ _ ?_
     clear hKK KK
     refine awp_ret ⟨[_], ⟨⟨(by simp only [go_sem, reduceIte, Nat.reduceEqDiff, FF]), (by simp only [go_sem, reduceIte, Nat.reduceEqDiff, FF] <;> rfl)⟩, trivial⟩, ?_⟩
     simp only [go_sem, reduceIte, Nat.reduceEqDiff, FF, tupled]
     have e0 : itemE (prevI r.items i) x = 2 := by
       unfold itemE
       rw [hnm, hb, if_neg (by decide), if_neg (by decide), if_pos hc]
     rw [← hres, e0]
     exact CV.Sub.refl _
   refine awp_skip ?_
   first | rw [thenQ_normal] | rw [blockQ_normal, thenQ_normal]
   have e0 : itemE (prevI r.items i) x = 0 := by
     unfold itemE
     rw [hnm, hb, if_neg (by decide), if_neg (by decide), if_neg (by rw [hc]; decide)]
   rw [e0, if_pos rfl] at hres
   have FF := And.intro w3 FF
   refine awp_rlast (by decide) fun KK hKK => ?_
   refine m_move ?_
   refine m_bin ?_
   refine m_assign ?_
   refine hKK _ _ ?_
   clear hKK KK
   try rw [thenQ_normal]
   refine m_next (i + 1) ?_ ?_
   · exact ⟨hi', hres⟩
   · omega
 · refine awp_exit ?_
   simp only [thenQ_exit, blockQ_exit, reduceIte, Nat.reduceEqDiff]
   try rw [thenQ_normal]
   have hi' : i = r.items.length := by simp only [decide_eq_false_iff_not] at hc; omega
   refine awp_rseq (by decide) fun KK hKK => ?_
   refine m_assign ?_
   refine hKK _ _ ?_
   clear hKK KK
   refine awp_ret ⟨[_], ⟨⟨(by simp only [go_sem, reduceIte, Nat.reduceEqDiff, FF]), (by simp only [go_sem, reduceIte, Nat.reduceEqDiff, FF] <;> rfl)⟩, trivial⟩, ?_⟩
   simp only [go_sem, reduceIte, Nat.reduceEqDiff, FF, tupled]
   rw [hi', List.drop_length] at hres
   rw [← hres]
   exact CV.Sub.refl _
end Go.Am
namespace Go.Am
open Go.Proofs
attribute [local go_sem ↓] ofL_cons ofH_cons upd_apply
set_option maxHeartbeats 4000000
set_option linter.unusedSimpArgs false
theorem mergeF_len : ∀ a b : List It, (mergeF a b).length ≤ 4 * (a.length + b.length)
 | [], [] => by simp [mergeF]
 | x :: a, [] => by
   have := mergeF_len a []
   rw [mergeF, List.length_cons, List.length_cons]
   simp only [List.length_nil] at this ⊢
   omega
 | [], y :: b => by
   have := mergeF_len [] b
   rw [mergeF, List.length_cons, List.length_cons]
   simp only [List.length_nil] at this ⊢
   omega
 | x :: a, y :: b => by
   have h1 := mergeF_len a (y :: b)
   have h2 := mergeF_len (x :: a) b
   have h3 := mergeF_len a b
   have h4 := diffs_len x y
   rw [mergeF]
   split
   · simp only [List.length_cons] at h1 ⊢
     omega
   · split
     · simp only [List.length_cons] at h2 ⊢
       omega
     · simp only [List.length_append, List.length_cons] at h3 ⊢
       omega
 termination_by a b => a.length + b.length
variable [Glb] [NoDr] [Tabs] [TabM]
end Go.Am
namespace Go.Am
open Go.Proofs
attribute [local go_sem ↓] ofL_cons ofH_cons upd_apply
set_option maxHeartbeats 4000000
set_option linter.unusedSimpArgs false
theorem one1_in {id : ByteArray} {k a b : Int} (ha : -1073741824 ≤ a ∧ a ≤ 1073741824) (hb : -1073741824 ≤ b ∧ b ≤ 1073741824) : ∀ d ∈ one1 id k a b, dfIn d := by
 intro d hd
 unfold one1 at hd
 split at hd
 · cases hd
 · obtain rfl := List.mem_singleton.1 hd
   exact ⟨ha.1, ha.2, hb.1, hb.2⟩
theorem bitI_in (b : Bool) : -1073741824 ≤ bitI b ∧ bitI b ≤ 1073741824 := by cases b <;> exact ⟨by decide, by decide⟩
theorem diffsF_in {x y : It} (hx : itIn x) (hy : itIn y) : ∀ d ∈ diffsF x y, dfIn d := by
 intro d hd
 unfold itIn at hx hy
 rw [diffsF_eq] at hd
 simp only [List.mem_append] at hd
 rcases hd with hd | hd | hd | hd
 · exact one1_in ⟨by omega, by omega⟩ ⟨by omega, by omega⟩ d hd
 · exact one1_in ⟨by omega, by omega⟩ ⟨by omega, by omega⟩ d hd
 · exact one1_in ⟨by omega, by omega⟩ ⟨by omega, by omega⟩ d hd
 · exact one1_in (bitI_in _) (bitI_in _) d hd
theorem dfIn0 (id : ByteArray) (k : Int) : dfIn ⟨id, k, 0, 0⟩ := by
 unfold dfIn
 dsimp only
 omega
theorem mergeF_in : ∀ a b : List It, (∀ x ∈ a, itIn x) → (∀ x ∈ b, itIn x) → ∀ d ∈ mergeF a b, dfIn d
 | [], [], _, _ => by simp [mergeF]
 | x :: a, [], ha, hb => by
   have := mergeF_in a [] (fun y hy => ha y (List.mem_cons_of_mem _ hy)) hb
   rw [mergeF]
   exact List.forall_mem_cons.2 ⟨dfIn0 _ _, this⟩
 | [], y :: b, ha, hb => by
   have := mergeF_in [] b ha fun z hz => hb z (List.mem_cons_of_mem _ hz)
   rw [mergeF]
   exact List.forall_mem_cons.2 ⟨dfIn0 _ _, this⟩
 | x :: a, y :: b, ha, hb => by
   have h1 := mergeF_in a (y :: b) (fun y hy => ha y (List.mem_cons_of_mem _ hy)) hb
   have h2 := mergeF_in (x :: a) b ha fun z hz => hb z (List.mem_cons_of_mem _ hz)
   have h3 := mergeF_in a b (fun y hy => ha y (List.mem_cons_of_mem _ hy)) fun z hz => hb z (List.mem_cons_of_mem _ hz)
   have h4 := diffsF_in (ha x (List.mem_cons_self ..)) (hb y (List.mem_cons_self ..))
   rw [mergeF]
   split
   · exact List.forall_mem_cons.2 ⟨dfIn0 _ _, h1⟩
   · split
     · exact List.forall_mem_cons.2 ⟨dfIn0 _ _, h2⟩
     · intro d hd
       rcases List.mem_append.1 hd with hd | hd
       · exact h4 d hd
       · exact h3 d hd
 termination_by a b => a.length + b.length
theorem check_name {a b : Rn} (ha : checkF a = 0) (hb : checkF b = 0) : checkF ⟨b.name, a.items⟩ = 0 := by
 obtain ⟨h1, _, _⟩ := check_facts hb
 unfold checkF at ha ⊢
 split at ha
 · cases ha
 · rw [if_neg (by simp [h1])]
   exact ha
theorem or4 {p q r s : Bool} (h : (p || q || r || s) = false) : r = false ∧ s = false := by
 cases r <;> cases s <;> simp_all
variable [Glb]
theorem cmp_valid {a b : Rn} (ha : checkF a = 0) (hb : checkF b = 0) : APure Tryz.prog 16 [.agg (rnC a), .agg (rnC b)] (.tup [dfL (mergeF a.items b.items), .int 0]) := by
 have la := check_len ha
 have lb := check_len hb
 have := compare_ok a b (by omega) (by omega)
 have e : compareF a b = (mergeF a.items b.items, 0) := by unfold compareF; rw [if_neg (by simpa using ha), if_neg (by simpa using hb)]
 rw [e] at this
 exact this
variable [NoDr] [Tabs] [TabM]
theorem self_ok (a b : Rn) (ha : a.items.length ≤ 9223372036854775807) (hb : b.items.length ≤ 9223372036854775807) : APure Tryz.prog 8 [.agg (rnC a), .agg (rnC b)] (.bool true) := by
 have FF : True := trivial
 refine apure_of Tryz.func8 rfl (by kernel_rfl) (by simp [Tryz.ntmps8]) ?_
 rw [Tryz.ntmps8]
 refine awp_rseq (by decide) fun KK hKK => ?_
 refine m_box ?_
 refine m_box ?_
 refine m_assign ?_
 refine hKK _ _ ?_
 clear hKK KK
 refine awp_seq ?_
 refine awp_rseq (by decide) fun KK hKK => ?_
 refine m_load ?_
 refine m_call (fun hG => rlight_ok a ha) ?_
 refine m_not ?_
 refine m_move ?_
 refine g_load ?_
 refine g_call (fun hG => rlight_ok b hb) ?_
 refine g_not ?_
 refine m_pick ?_
 refine m_move ?_
 refine g_load ?_
 refine g_call (fun hG => rcheck_ok a ha) ?_
 refine g_bin ?_
 refine m_pick ?_
 refine m_move ?_
 refine g_load ?_
 refine g_call (fun hG => rcheck_ok b hb) ?_
 refine g_bin ?_
 refine m_pick ?_
 refine hKK _ _ ?_
 clear hKK KK
 refine m_cond (fun hc => ?_) (fun hc => ?_)
 · refine awp_rseq (by decide) fun KK hKK => ?_
   refine m_call (fun hG => ex_ok) ?_
   refine m_assign ?_
   refine hKK _ _ ?_
   clear hKK KK
   refine awp_ret ⟨[_], ⟨⟨(by simp only [go_sem, reduceIte, Nat.reduceEqDiff, FF]), (by simp only [go_sem, reduceIte, Nat.reduceEqDiff, FF] <;> rfl)⟩, trivial⟩, ?_⟩
   simp only [go_sem, reduceIte, Nat.reduceEqDiff, FF, tupled]
   exact CV.Sub.refl _
 obtain ⟨hc1, hc2⟩ := or4 hc
 have ea : checkF a = 0 := by simpa using hc1
 have eb : checkF b = 0 := by simpa using hc2
 clear hc hc1 hc2
 refine awp_skip ?_
 first | rw [thenQ_normal] | rw [blockQ_normal, thenQ_normal]
 obtain ⟨_, la, ia⟩ := check_facts ea
 obtain ⟨_, lb, ib⟩ := check_facts eb
 have ia' : ∀ x ∈ a.items, itIn x := fun x hx => (ia x hx).2
 have ib' : ∀ x ∈ b.items, itIn x := fun x hx => (ib x hx).2
 have c1 := cmp_valid ea (check_name ea eb)
 dsimp only at c1
 rw [mergeF_self] at c1
 have c2 := cmp_valid ea eb
 refine awp_rseq (by decide) fun KK hKK => ?_
 refine m_load ?_
 refine m_alloc ?_
 first | refine m_stPtr ?_ | refine m_stRp ?_
 refine hKK _ _ ?_
 clear hKK KK
 refine awp_rseq (by decide) fun KK hKK => ?_
 refine m_field ?_
 refine m_load ?_
 refine m_field ?_
 first | refine m_stPtr ?_ | refine m_stRp ?_
 refine hKK _ _ ?_
 clear hKK KK
 refine awp_rseq (by decide) fun KK hKK => ?_
 refine m_load ?_
 refine m_load ?_
 refine m_call (fun hG => c1) ?_
 refine m_move ?_
 refine m_extract ?_
 refine m_extract ?_
 refine m_assign ?_
 refine m_assign ?_
 refine hKK _ _ ?_
 clear hKK KK
 refine awp_rseq (by decide) fun KK hKK => ?_
 refine m_load ?_
 refine m_load ?_
 refine m_call (fun hG => c2) ?_
 refine m_move ?_
 refine m_extract ?_
 refine m_extract ?_
 refine m_assign ?_
 refine m_assign ?_
 refine hKK _ _ ?_
 clear hKK KK
 have klen := mergeF_len a.items b.items
 have kin := mergeF_in a.items b.items ia' ib'
 have kid := mergeF_nil a.items b.items
 have s2 := mergeF_sum It.rd 2 sum_rd a.items b.items
 have s3 := mergeF_sum It.ed 3 sum_ed a.items b.items
 have s4 := mergeF_sum It.tk 4 sum_tk a.items b.items
 have s5 := mergeF_sum prtI 5 sum_pt a.items b.items
 generalize mergeF a.items b.items = k at *
 refine m_cut [(2, .ptr 2 0), (3, .ptr 3 0), (6, .c (dfL [])), (7, .int 0), (8, .c (dfL k)), (9, .int 0)] [(2, .box 24 ((rnC a).map .c)), (3, .box 24 ((rnC b).map .c))] ?_
 refine awp_seq ?_
 refine awp_rseq (by decide) fun KK hKK => ?_
 refine m_move ?_
 refine m_bin ?_
 refine m_move ?_
 refine g_move ?_
 refine g_len ?_
 refine g_bin ?_
 refine m_pick ?_
 refine m_move ?_
 refine g_move ?_
 refine g_bin ?_
 refine m_pick ?_
 refine hKK _ _ ?_
 clear hKK KK
 refine m_cond (fun hc => ?_) (fun hc => ?_)
 · exact absurd hc (by simp)
 clear hc
 refine awp_skip ?_
 first | rw [thenQ_normal] | rw [blockQ_normal, thenQ_normal]
 refine awp_seq ?_
 refine awp_rseq (by decide) fun KK hKK => ?_
 refine m_load ?_
 refine m_load ?_
 refine m_call (fun hG => ids_ok a b ha) ?_
 refine m_not ?_
 refine hKK _ _ ?_
 clear hKK KK
 refine m_cond (fun hc => ?_) (fun hc => ?_)
 · have hne : k ≠ [] := fun e => by
     rw [decide_eq_true (kid e)] at hc
     cases hc
   have hpos : 0 < k.length := List.length_pos_iff.2 hne
   refine awp_rseq (by decide) fun KK hKK => ?_
   refine m_move ?_
   refine m_len ?_
   refine m_bin ?_
   refine m_move ?_
   refine g_call (fun hG => ex_ok) ?_
   refine m_pick ?_
   refine m_assign ?_
   refine hKK _ _ ?_
   clear hKK KK
   refine awp_ret ⟨[_], ⟨⟨(by simp only [go_sem, reduceIte, Nat.reduceEqDiff, FF]), (by simp only [go_sem, reduceIte, Nat.reduceEqDiff, FF] <;> rfl)⟩, trivial⟩, ?_⟩
   simp only [go_sem, reduceIte, Nat.reduceEqDiff, FF, tupled]
   refine CV.Sub.of_eq ?_
   simp
   omega
 have hid : a.items.map It.id = b.items.map It.id := by simpa using hc
 clear hc
 have hlen : a.items.length = b.items.length := by have := congrArg List.length hid; simpa using this
 have r2 : sumF k 2 = sumI It.rd b.items - sumI It.rd a.items := s2 hid
 have r3 : sumF k 3 = sumI It.ed b.items - sumI It.ed a.items := s3 hid
 have r4 : sumF k 4 = sumI It.tk b.items - sumI It.tk a.items := s4 hid
 have r5 : sumF k 5 = sumI prtI b.items - sumI prtI a.items := s5 hid
 have bd : ∀ (F : It → Int) (l : List It), l.length ≤ 256 → (∀ x ∈ l, 0 ≤ F x ∧ F x ≤ 1073741824) → 0 ≤ sumI F l ∧ sumI F l ≤ 1073741824000000 := fun F l h1 h2 => by
   have := sumI_bd h2
   omega
 have a2 := bd It.rd a.items la fun x h => ⟨(ia' x h).1, (ia' x h).2.1⟩
 have a3 := bd It.ed a.items la fun x h => ⟨(ia' x h).2.2.1, (ia' x h).2.2.2.1⟩
 have a4 := bd It.tk a.items la fun x h => ⟨(ia' x h).2.2.2.2.1, (ia' x h).2.2.2.2.2⟩
 have a5 := bd prtI a.items la fun x _ => prt_in x
 have b2 := bd It.rd b.items lb fun x h => ⟨(ib' x h).1, (ib' x h).2.1⟩
 have b3 := bd It.ed b.items lb fun x h => ⟨(ib' x h).2.2.1, (ib' x h).2.2.2.1⟩
 have b4 := bd It.tk b.items lb fun x h => ⟨(ib' x h).2.2.2.2.1, (ib' x h).2.2.2.2.2⟩
 have b5 := bd prtI b.items lb fun x _ => prt_in x
 have t1 := totals_ok a (by omega) ia'
 have t2 := totals_ok b (by omega) ib'
 unfold totC at t1 t2
 clear c1 c2
 refine awp_skip ?_
 first | rw [thenQ_normal] | rw [blockQ_normal, thenQ_normal]
 generalize sumI It.rd a.items = A2 at *
 generalize sumI It.ed a.items = A3 at *
 generalize sumI It.tk a.items = A4 at *
 generalize sumI prtI a.items = A5 at *
 generalize sumI It.rd b.items = B2 at *
 generalize sumI It.ed b.items = B3 at *
 generalize sumI It.tk b.items = B4 at *
 generalize sumI prtI b.items = B5 at *
 refine awp_rseq_draw Tryz.mixed (by decide) (by kernel_rfl) fun KK hKK => ?_
 refine m_load ?_
 refine m_call (fun hG => t1) ?_
 refine m_load ?_
 refine m_call (fun hG => t2) ?_
 refine m_alloc ?_
 refine m_alloc ?_
 first | refine m_stPtr ?_ | refine m_stRp ?_
 first | refine m_stPtr ?_ | refine m_stRp ?_
 refine hKK _ _ ?_
 clear hKK KK
 clear t1 t2
 refine m_cut [(8, .c (dfL k)), (10, .ptr 10 0), (11, .ptr 11 0)] [(10, .box 30 [.int a.items.length, .int (sumI prsI a.items), .int A2, .int A3, .int A4, .int A5]), (11, .box 30 [.int b.items.length, .int (sumI prsI b.items), .int B2, .int B3, .int B4, .int B5])] ?_
 have w2 : IntKind.i64.wrap (B2 - A2) = B2 - A2 := wrap_in (by omega)
 have w3 : IntKind.i64.wrap (B3 - A3) = B3 - A3 := wrap_in (by omega)
 have w4 : IntKind.i64.wrap (B4 - A4) = B4 - A4 := wrap_in (by omega)
 have w5 : IntKind.i64.wrap (B5 - A5) = B5 - A5 := wrap_in (by omega)
 have FF := And.intro w2 (And.intro w3 (And.intro w4 (And.intro w5 FF)))
 refine awp_rseq_draw Tryz.mixed (by decide) (by kernel_rfl) fun KK hKK => ?_
 refine m_field ?_
 refine m_load ?_
 refine m_field ?_
 refine m_load ?_
 refine m_bin ?_
 refine m_move ?_
 refine g_field ?_
 refine g_load ?_
 refine g_field ?_
 refine g_load ?_
 refine g_bin ?_
 refine g_move ?_
 refine g_call (fun hG => sum_ok k 2 (by omega) kin) ?_
 refine g_bin ?_
 refine m_pick ?_
 refine m_move ?_
 refine g_field ?_
 refine g_load ?_
 refine g_field ?_
 refine g_load ?_
 refine g_bin ?_
 refine g_move ?_
 refine g_call (fun hG => sum_ok k 3 (by omega) kin) ?_
 refine g_bin ?_
 refine m_pick ?_
 refine m_move ?_
 refine g_field ?_
 refine g_load ?_
 refine g_field ?_
 refine g_load ?_
 refine g_bin ?_
 refine g_move ?_
 refine g_call (fun hG => sum_ok k 4 (by omega) kin) ?_
 refine g_bin ?_
 refine m_pick ?_
 refine m_move ?_
 refine g_field ?_
 refine g_load ?_
 refine g_field ?_
 refine g_load ?_
 refine g_bin ?_
 refine g_move ?_
 refine g_call (fun hG => sum_ok k 5 (by omega) kin) ?_
 refine g_bin ?_
 refine m_pick ?_
 refine m_move ?_
 refine g_call (fun hG => ex_ok) ?_
 refine m_pick ?_
 refine m_assign ?_
 refine hKK _ _ ?_
 clear hKK KK
 refine awp_ret ⟨[_], ⟨⟨(by simp only [go_sem, reduceIte, Nat.reduceEqDiff, FF]), (by simp only [go_sem, reduceIte, Nat.reduceEqDiff, FF] <;> rfl)⟩, trivial⟩, ?_⟩
 simp only [go_sem, reduceIte, Nat.reduceEqDiff, FF, tupled]
 refine CV.Sub.of_eq ?_
 rw [r2, r3, r4, r5, hlen]
 simp
end Go.Am
