/- The walk of the law ProfileDecodes. No condition. -/
import Derived.Test.YtgbeghjnllfdjaaGreatDoorM2
import Derived.Test.YtgbeghjnllfdjaaGreatDoorS1
import Derived.Test.YtgbeghjnllfdjaaGreatDoorS3
import Derived.Test.YtgbeghjnllfdjaaGreatDoorS2
import Derived.Test.YtgbeghjnllfdjaaGreatDoorM3
import Derived.Test.YtgbeghjnllfdjaaGreatDoorT
import Derived.Lib.SplitLaws
import Derived.Lib.IndexLaws
set_option linter.unusedVariables false
set_option linter.unusedSimpArgs false
namespace Go.Am
open Go.RowKit
theorem xp {p q : Prop} (h1 : p := by simp only [go_sem, reduceIte, Nat.reduceEqDiff, FF]) (h2 : q := by simp only [go_sem, reduceIte, Nat.reduceEqDiff, FF] <;> rfl) : p ∧ q := ⟨h1, h2⟩
theorem xk [Glb] {P : Program} {s : Slots} {h : AH} {G : Bool} {x : AV} {t : TypeId} {y : Operand} {u : AV} {i : TI} (h1 : ev s y = u := by simp only [go_sem, reduceIte, Nat.reduceEqDiff, FF] <;> rfl) (ht : tinfo P t = some i := by simp only [go_sem] <;> rfl) (hs : (i.agg || i.size == 1) = true := by rfl) (hw : G = true → u.wh = true := by intro hG; simp only [go_sem]) (hx : loadM h i G u.strip x := by exact lm_ptr (by simp only [go_sem, reduceIte, Nat.reduceEqDiff, FF] <;> rfl) (by simp only [go_sem, reduceIte, Nat.reduceEqDiff, FF, Nat.reduceAdd, Nat.reduceSub, Nat.reduceMul, Nat.reduceLeDiff] <;> rfl) (fun _ => Nat.le_of_ble_eq_true rfl)) : aop1 P (.load t y) (ev s) h G x := k_load h1 ht hs hw hx
end Go.Am
namespace Go.Am
open Go.RowKit
section
variable {E : Env} {w : World} {nt : Nat} {s : Slots} {h : AH} {gs : Gs} {a : Act}
theorem weak_adopt [Glb] {fo : List Nat} (t o : Nat) (ty : TypeId) (sz : Nat) (f : Nat → List CV) (hs : s t = .emp) (ho : h o = .gone) : Weak fo s h (upd s t (.own o 0)) (upd h o (.row ty sz 0 f)) := by
 intro E nt a w I ⟨gs, R⟩
 have hgo : gs o = none := by have := R.objs o; rw [ho] at this; exact this
 have R' := R.virt o ho ty sz f
 refine ⟨gs, { R' with slots := fun t' => ?_ }⟩
 rw [upd_apply]
 split
 · rename_i e
   subst e
   have := R'.slots t'
   rw [hs] at this
   exact this.emp_own (upd_same _ _ _) hgo
 · exact R'.slots t'
end
end Go.Am
namespace Go.Am
open Go.RowKit
section
variable {P : Program} {s : Slots} {h : AH} {G : Bool} {x : AV}
theorem k_neg {t : TypeId} {y : Operand} {u : AV} {k : IntKind} {n r : Int} (h1 : ev s y = u) (e1 : u.strip = .c (.raw (.int k n))) (hw : G = true → u.wh = true) (hr : k.wrap (0 - n) = r) : aop0 P (.unOp .neg t y) (ev s) G (.c (.raw (.int k r))) := by
 subst h1 hr
 exact ⟨k, n, e1, hw, rfl⟩
theorem k_convert {t t2 : TypeId} {y : Operand} {u : AV} {d : TypeDesc} {k k' : IntKind} {n r : Int} (h1 : ev s y = u) (hd : P.underlying t = some d) (ht : P.underlying t2 = some (.int k)) (e1 : u.strip = .c (.raw (.int k' n))) (hw : G = true → u.wh = true) (hr : k.wrap n = r) :
   aop0 P (.convert t t2 y) (ev s) G (.c (.raw (.int k r))) := by
 subst h1 hr
 exact ⟨k, k', n, ⟨d, hd⟩, ht, e1, hw, rfl⟩
end
attribute [go_sem] List.set_cons_zero List.set_cons_succ frzS_apply frzH_apply frz_c frz_ptr frz_emp frz_own frz_agg frz_box frz_row Bool.and_false Bool.false_and Bool.or_false Bool.false_or Bool.or_true Bool.true_or ofL_nil ofH_nil bndOf AV.one cond_and cond_or List.cons_append List.nil_append List.append_nil bfill partsC AV.closedCells srcOf
attribute [go_sem] ne_eq not_false_eq_true not_true_eq_false true_and and_true forall_const imp_self implies_true Bool.true_and Bool.and_true Bool.false_eq_true false_implies List.getElem?_cons_zero List.getElem?_cons_succ List.drop_zero List.drop_succ_cons
attribute [go_sem] List.length_cons List.length_nil List.headD_cons List.take_succ_cons List.take_zero List.map_cons List.map_nil Nat.add_zero Nat.zero_add List.all_cons List.all_nil Bool.and_self or_self Int.toNat_natCast decide_eq_true_eq List.getElem?_toArray Option.bind_some List.getD_cons_zero List.getD_cons_succ List.toList_toArray
attribute [go_sem] List.mem_cons List.not_mem_nil or_false false_or or_true true_or forall_eq_or_imp forall_eq eq_self and_self
end Go.Am
namespace Go.Am
open Go.RowKit
set_option linter.unusedVariables false
section
variable {P : Program} {ops : Array Oper} {K : Slots → AH → Prop} {r : List Oper} {s : Slots} {h : AH} {d : Nat} {ty : TypeId} {pos : String} {af : Array Edge} {x : AV}
theorem m_neg [Glb] {t : TypeId} {y : Operand} {u : AV} {k : IntKind} {n n2 : Int}  (hn : aRun P ops K r (upd s d (.c (.raw (.int k n2)))) h) (h1 : ev s y = u := by simp only [go_sem, reduceIte, Nat.reduceEqDiff, FF] <;> rfl) (e1 : u.strip = .c (.raw (.int k n)) := by rfl) (hw : true = true → u.wh = true := by intro hG; simp only [go_sem]) (hr : k.wrap (0 - n) = n2 := by first | (simp only [go_sem, reduceIte, Nat.reduceEqDiff, FF] <;> rfl) | rfl) : aRun P ops K (⟨some d, .unOp .neg t y, ty, pos, af, none⟩ :: r) s h := st0 rfl (k_neg h1 e1 hw hr) hn
theorem m_convert [Glb] {t t2 : TypeId} {y : Operand} {u : AV} {d0 : TypeDesc} {k k' : IntKind} {n n2 : Int}  (hn : aRun P ops K r (upd s d (.c (.raw (.int k n2)))) h) (h1 : ev s y = u := by simp only [go_sem, reduceIte, Nat.reduceEqDiff, FF] <;> rfl) (hd : P.underlying t = some d0 := by simp only [go_sem] <;> rfl) (ht1 : P.underlying t2 = some (.int k) := by simp only [go_sem] <;> rfl) (e1 : u.strip = .c (.raw (.int k' n)) := by rfl) (hw : true = true → u.wh = true := by intro hG; simp only [go_sem]) (hr : k.wrap n = n2 := by first | (simp only [go_sem, reduceIte, Nat.reduceEqDiff, FF] <;> rfl) | rfl) : aRun P ops K (⟨some d, .convert t t2 y, ty, pos, af, none⟩ :: r) s h := st0 rfl (k_convert h1 hd ht1 e1 hw hr) hn
end
section
variable {P : Program} {nt : Nat} {fo : List Nat} {Q : APost} {s : Slots} {h : AH} {c : Code}
end
end Go.Am
namespace Go.Am
theorem less_irrefl : ∀ l : List UInt8, Op.bytesLess l l = false
 | [] => rfl
 | c :: l => by simp [Op.bytesLess, less_irrefl l]
theorem less_total : ∀ a b : List UInt8, Op.bytesLess a b = false → Op.bytesLess b a = false → a = b
 | [], [], _, _ => rfl
 | [], _ :: _, h, _ => by simp [Op.bytesLess] at h
 | _ :: _, [], _, h => by simp [Op.bytesLess] at h
 | c :: a, d :: b, h1, h2 => by
   simp only [Op.bytesLess] at h1 h2
   by_cases e : c = d
   · subst e
     simp at h1 h2
     rw [less_total a b h1 h2]
   · exfalso
     by_cases hlt : c < d
     · simp [hlt] at h1
     · have : d < c := by
         rcases UInt8.lt_or_lt_of_ne e with h | h
         · exact absurd h hlt
         · exact h
       simp [this] at h2
theorem lessS_total {a b : ByteArray} (h1 : lessS a b = false) (h2 : lessS b a = false) : a = b := by
 obtain ⟨⟨x⟩⟩ := a
 obtain ⟨⟨y⟩⟩ := b
 have := less_total x y h1 h2
 rw [this]
theorem lessS_irrefl (a : ByteArray) : lessS a a = false := less_irrefl _
theorem less_asymm : ∀ a b : List UInt8, Op.bytesLess a b = true → Op.bytesLess b a = false
 | [], [], h => by simp [Op.bytesLess] at h
 | [], _ :: _, _ => by simp [Op.bytesLess]
 | _ :: _, [], h => by simp [Op.bytesLess] at h
 | c :: a, d :: b, h => by
   simp only [Op.bytesLess, Bool.or_eq_true, decide_eq_true_eq, Bool.and_eq_true, beq_iff_eq] at h
   simp only [Op.bytesLess, Bool.or_eq_false_iff, decide_eq_false_iff_not, Bool.and_eq_false_iff]
   rcases h with h | ⟨rfl, h⟩
   · refine ⟨fun h2 => ?_, .inl ?_⟩
     · exact absurd (UInt8.lt_trans h h2) (UInt8.lt_irrefl _)
     · simp only [beq_eq_false_iff_ne, ne_eq]
       intro e
       subst e
       exact absurd h (UInt8.lt_irrefl _)
   · exact ⟨UInt8.lt_irrefl _, .inr (less_asymm a b h)⟩
theorem lessS_asymm {a b : ByteArray} (h : lessS a b = true) : lessS b a = false := less_asymm _ _ h
end Go.Am
namespace Go.Am
open Go.Proofs
attribute [local go_sem ↓] ofL_cons ofH_cons upd_apply
set_option maxHeartbeats 1000000
set_option linter.unusedSimpArgs false
variable [Glb]
theorem digit_ok (c : Int) : APure Tryz.prog 100 [.raw (.int .u8 c)] (.bool (digitB c)) := by
 have FF : True := trivial
 refine apure_of Tryz.func100 rfl (by kernel_rfl) (by simp [Tryz.ntmps100]) ?_
 rw [Tryz.ntmps100]
 refine awp_rseq (by decide) fun KK hKK => ?_
 refine m_assign ?_
 refine hKK _ _ ?_
 clear hKK KK
 refine awp_rseq (by decide) fun KK hKK => ?_
 refine m_move ?_
 refine m_bin ?_
 refine m_move ?_
 refine g_move ?_
 refine g_bin ?_
 refine m_pick ?_
 refine m_assign ?_
 refine hKK _ _ ?_
 clear hKK KK
 refine awp_ret ⟨[_], ⟨xp, trivial⟩, ?_⟩
 simp only [go_sem, reduceIte, Nat.reduceEqDiff, FF, tupled]
 exact CV.Sub.refl _
theorem lower_ok (c : Int) : APure Tryz.prog 201 [.raw (.int .u8 c)] (.bool (lowerB c)) := by
 have FF : True := trivial
 refine apure_of Tryz.func201 rfl (by kernel_rfl) (by simp [Tryz.ntmps201]) ?_
 rw [Tryz.ntmps201]
 refine awp_rseq (by decide) fun KK hKK => ?_
 refine m_assign ?_
 refine hKK _ _ ?_
 clear hKK KK
 refine awp_rseq (by decide) fun KK hKK => ?_
 refine m_move ?_
 refine m_bin ?_
 refine m_move ?_
 refine g_move ?_
 refine g_bin ?_
 refine m_pick ?_
 refine m_assign ?_
 refine hKK _ _ ?_
 clear hKK KK
 refine awp_ret ⟨[_], ⟨xp, trivial⟩, ?_⟩
 simp only [go_sem, reduceIte, Nat.reduceEqDiff, FF, tupled]
 exact CV.Sub.refl _
theorem upper_ok (c : Int) : APure Tryz.prog 200 [.raw (.int .u8 c)] (.bool (upperB c)) := by
 have FF : True := trivial
 refine apure_of Tryz.func200 rfl (by kernel_rfl) (by simp [Tryz.ntmps200]) ?_
 rw [Tryz.ntmps200]
 refine awp_rseq (by decide) fun KK hKK => ?_
 refine m_assign ?_
 refine hKK _ _ ?_
 clear hKK KK
 refine awp_rseq (by decide) fun KK hKK => ?_
 refine m_move ?_
 refine m_bin ?_
 refine m_move ?_
 refine g_move ?_
 refine g_bin ?_
 refine m_pick ?_
 refine m_assign ?_
 refine hKK _ _ ?_
 clear hKK KK
 refine awp_ret ⟨[_], ⟨xp, trivial⟩, ?_⟩
 simp only [go_sem, reduceIte, Nat.reduceEqDiff, FF, tupled]
 exact CV.Sub.refl _
theorem part_ok (c : Int) (big : Bool) : APure Tryz.prog 101 [.raw (.int .u8 c), .bool big] (.bool (partB c big)) := by
 have FF : True := trivial
 refine apure_of Tryz.func101 rfl (by kernel_rfl) (by simp [Tryz.ntmps101]) ?_
 rw [Tryz.ntmps101]
 cases big
 · refine awp_rseq (by decide) fun KK hKK => ?_
   refine m_assign ?_
   refine hKK _ _ ?_
   clear hKK KK
   refine awp_rseq (by decide) fun KK hKK => ?_
   refine m_move ?_
   refine m_call (fun hG => digit_ok c) ?_
   refine m_move ?_
   refine g_move ?_
   refine g_bin ?_
   refine m_pick ?_
   refine m_move ?_
   refine g_move ?_
   refine g_move ?_
   refine g_move ?_
   refine g_call (fun hG => upper_ok c) ?_
   refine g_pick ?_
   refine m_pick ?_
   refine m_move ?_
   refine g_move ?_
   refine g_not ?_
   refine g_move ?_
   refine g_move ?_
   refine g_call (fun hG => lower_ok c) ?_
   refine g_pick ?_
   refine m_pick ?_
   refine m_assign ?_
   refine hKK _ _ ?_
   clear hKK KK
   refine awp_ret ⟨[_], ⟨xp, trivial⟩, ?_⟩
   simp only [go_sem, reduceIte, Nat.reduceEqDiff, FF, tupled]
   exact CV.Sub.of_eq (by simp [partB])
 · refine awp_rseq (by decide) fun KK hKK => ?_
   refine m_assign ?_
   refine hKK _ _ ?_
   clear hKK KK
   refine awp_rseq (by decide) fun KK hKK => ?_
   refine m_move ?_
   refine m_call (fun hG => digit_ok c) ?_
   refine m_move ?_
   refine g_move ?_
   refine g_bin ?_
   refine m_pick ?_
   refine m_move ?_
   refine g_move ?_
   refine g_move ?_
   refine g_move ?_
   refine g_call (fun hG => upper_ok c) ?_
   refine g_pick ?_
   refine m_pick ?_
   refine m_move ?_
   refine g_move ?_
   refine g_not ?_
   refine g_move ?_
   refine g_move ?_
   refine g_call (fun hG => lower_ok c) ?_
   refine g_pick ?_
   refine m_pick ?_
   refine m_assign ?_
   refine hKK _ _ ?_
   clear hKK KK
   refine awp_ret ⟨[_], ⟨xp, trivial⟩, ?_⟩
   simp only [go_sem, reduceIte, Nat.reduceEqDiff, FF, tupled]
   exact CV.Sub.of_eq (by simp [partB])
theorem named_ok (s : ByteArray) (big : Bool) : APure Tryz.prog 64 [.str s, .bool big] (.bool (namedB s big)) := by
 have FF : True := trivial
 refine apure_of Tryz.func64 rfl (by kernel_rfl) (by simp [Tryz.ntmps64]) ?_
 rw [Tryz.ntmps64]
 unfold namedB
 refine awp_rseq (by decide) fun KK hKK => ?_
 refine m_assign ?_
 refine hKK _ _ ?_
 clear hKK KK
 refine awp_seq ?_
 refine awp_rseq (by decide) fun KK hKK => ?_
 refine m_move ?_
 refine m_len ?_
 refine m_bin ?_
 refine m_move ?_
 refine g_move ?_
 refine g_len ?_
 refine g_bin ?_
 refine m_pick ?_
 refine m_move ?_
 refine g_move ?_
 refine g_idx ?_
 refine g_call (fun hG => digit_ok _) ?_
 refine m_pick ?_
 refine m_move ?_
 refine g_move ?_
 refine g_idx ?_
 refine g_bin ?_
 refine m_pick ?_
 refine hKK _ _ ?_
 clear hKK KK
 refine m_cond (fun hc => ?_) (fun hc => ?_)
 · rw [if_pos hc]
   refine awp_rseq (by decide) fun KK hKK => ?_
   refine m_assign ?_
   refine hKK _ _ ?_
   clear hKK KK
   refine awp_ret ⟨[_], ⟨xp, trivial⟩, ?_⟩
   simp only [go_sem, reduceIte, Nat.reduceEqDiff, FF, tupled]
   exact CV.Sub.refl _
 rw [if_neg (by rw [hc]; decide)]
 have hsz : s.size ≤ 32 := by simp only [Bool.or_eq_false_iff, decide_eq_false_iff_not] at hc; omega
 clear hc
 refine awp_skip ?_
 first | rw [thenQ_normal] | rw [blockQ_normal, thenQ_normal]
 refine awp_seq ?_
 refine awp_rseq (by decide) fun KK hKK => ?_
 refine m_assign ?_
 refine hKK _ _ ?_
 clear hKK KK
 refine awp_block ?_
 refine m_for (ι := Nat) (fun i => [(0, .str s), (1, .bool big), (5, .int i)]) (fun i => []) (fun i => s.size - i) (fun i => i ≤ s.size ∧ allB (fun c => partB c big) s i = true) (0) ?_ ?_
 · exact ⟨Nat.zero_le _, rfl⟩
 rintro i ⟨hi, hres⟩
 refine awp_seq ?_
 refine awp_rseq (by decide) fun KK hKK => ?_
 refine m_move ?_
 refine m_move ?_
 refine m_len ?_
 refine m_bin ?_
 refine hKK _ _ ?_
 clear hKK KK
 refine m_cond (fun hc => ?_) (fun hc => ?_)
 · simp only [decide_eq_true_eq] at hc
   have hi' : i < s.size := by omega
   have w3 : IntKind.i64.wrap ((i : Int) + 1) = ((i + 1 : Nat) : Int) := wrap_in (by omega)
   refine awp_skip ?_
   first | rw [thenQ_normal] | rw [blockQ_normal, thenQ_normal]
   refine awp_seq (awp_block ?_)
   clear hc
   refine awp_rseq (by decide) fun KK hKK => ?_
   refine m_move ?_
   refine m_move ?_
   refine m_idx ?_
   refine m_move ?_
   refine m_call (fun hG => part_ok (byteAt s i) big) ?_
   refine m_not ?_
   refine hKK _ _ ?_
   clear hKK KK
   refine m_cond (fun hc => ?_) (fun hc => ?_)
   · refine awp_rseq (by decide) fun KK hKK => ?_
     refine m_assign ?_
     refine hKK _ _ ?_
     clear hKK KK
     refine awp_ret ⟨[_], ⟨xp, trivial⟩, ?_⟩
     simp only [go_sem, reduceIte, Nat.reduceEqDiff, FF, tupled]
     rw [allB_false (p := fun c => partB c big) (i := i) (by simpa using hc) s.size hi']
     exact CV.Sub.refl _
   refine awp_skip ?_
   first | rw [thenQ_normal] | rw [blockQ_normal, thenQ_normal]
   have FF := And.intro w3 FF
   refine awp_rlast (by decide) fun KK hKK => ?_
   refine m_move ?_
   refine m_bin ?_
   refine m_assign ?_
   refine hKK _ _ ?_
   clear hKK KK
   try rw [thenQ_normal]
   refine m_next (i + 1) ?_ ?_
   · exact ⟨hi', by rw [allB, hres, Bool.true_and]; simpa using hc⟩
   · omega
 · refine awp_exit ?_
   simp only [thenQ_exit, blockQ_exit, reduceIte, Nat.reduceEqDiff]
   try rw [thenQ_normal]
   have hi' : i = s.size := by simp only [decide_eq_false_iff_not] at hc; omega
   refine awp_rseq (by decide) fun KK hKK => ?_
   refine m_assign ?_
   refine hKK _ _ ?_
   clear hKK KK
   refine awp_ret ⟨[_], ⟨xp, trivial⟩, ?_⟩
   simp only [go_sem, reduceIte, Nat.reduceEqDiff, FF, tupled]
   rw [hi'] at hres
   rw [hres]
   exact CV.Sub.refl _
theorem rname_ok (s : ByteArray) : APure Tryz.prog 28 [.str s] (.bool (namedB s false)) := by
 have FF : True := trivial
 refine apure_of Tryz.func28 rfl (by kernel_rfl) (by simp [Tryz.ntmps28]) ?_
 rw [Tryz.ntmps28]
 refine awp_rseq (by decide) fun KK hKK => ?_
 refine m_assign ?_
 refine hKK _ _ ?_
 clear hKK KK
 refine awp_rseq (by decide) fun KK hKK => ?_
 refine m_move ?_
 refine m_call (fun hG => named_ok s false) ?_
 refine m_assign ?_
 refine hKK _ _ ?_
 clear hKK KK
 refine awp_ret ⟨[_], ⟨xp, trivial⟩, ?_⟩
 simp only [go_sem, reduceIte, Nat.reduceEqDiff, FF, tupled]
 exact CV.Sub.refl _
end Go.Am
namespace Go.Am
open Go.Proofs
theorem ba_eq {a b : ByteArray} (h : a.data.toList = b.data.toList) : a = b := ba_ext h
theorem ext_list (s : ByteArray) (a b : Nat) : (s.extract a b).data.toList = (s.data.toList.drop a).take (b - a) := by
 rw [ByteArray.data_extract, Array.toList_extract, List.extract_eq_take_drop]
end Go.Am
namespace Go.Am
open Go.Proofs
attribute [local go_sem ↓] ofL_cons ofH_cons upd_apply
set_option maxHeartbeats 4000000
set_option linter.unusedSimpArgs false
def digsOf (b : ByteArray) : ByteArray := if decide ((0 : Int) < b.size) && byteAt b 0 == 45 then b.extract 1 b.size else b
def accR : List UInt8 → Nat → Option Nat
 | [], acc => some acc
 | c :: r, acc => if (9223372036854775808 - (c.toNat - 48)) / 10 < acc then none else accR r (acc * 10 + (c.toNat - 48))
def rnumB (b : ByteArray) : Int × Int :=
 if (digsOf b).toList == (⟨#[]⟩ : ByteArray).toList || (byteAt (digsOf b) 0 == 48 && (decide ((1 : Int) < (digsOf b).size) || decide ((1 : Int) < b.size))) then (0, 8)
 else if allB digitB (digsOf b) (digsOf b).size = false then (0, 8)
 else match accR (digsOf b).data.toList 0 with
 | none => (0, 2)
 | some u => if decide (((digsOf b).size : Int) < b.size) then (-(u : Int), 0) else if u = 9223372036854775808 then (0, 2) else ((u : Int), 0)
theorem accR_le : ∀ (l : List UInt8) (acc u : Nat), acc ≤ 9223372036854775808 → (∀ c ∈ l, isD c = true) → accR l acc = some u → u ≤ 9223372036854775808
 | [], acc, u, h, _, e => by
   simp only [accR, Option.some.injEq] at e
   omega
 | c :: r, acc, u, h, hd, e => by
   rw [accR] at e
   have hc := hd c (List.mem_cons_self ..)
   simp only [isD, Bool.and_eq_true, decide_eq_true_eq] at hc
   split at e
   · cases e
   · exact accR_le r _ u (by omega) (fun x hx => hd x (List.mem_cons_of_mem _ hx)) e
theorem list_size (g : ByteArray) : g.data.toList.length = g.size := rfl
theorem all_digs {g : ByteArray} (h : allB digitB g g.size = true) : ∀ c ∈ g.data.toList, isD c = true := by
 intro c hc
 obtain ⟨i, hi, rfl⟩ := List.getElem_of_mem hc
 have := (allB_iff digitB g g.size).1 h i hi
 rw [byteAt_list, List.getElem?_eq_getElem hi] at this
 simp only [Option.getD_some, digitB, Bool.and_eq_true, decide_eq_true_eq] at this
 simp only [isD, Bool.and_eq_true, decide_eq_true_eq]
 omega
theorem wrap_u64 {n : Int} (h : 0 ≤ n ∧ n ≤ 18446744073709551615) : IntKind.u64.wrap n = n := by
 unfold IntKind.wrap
 simp [IntKind.bits, IntKind.signed, IntKind.min, IntKind.max]
 omega
theorem wrap_u8 {n : Int} {m : Nat} (h : n = m ∧ m ≤ 255) : IntKind.u8.wrap n = (m : Int) := by
 obtain ⟨rfl, h⟩ := h
 unfold IntKind.wrap
 simp [IntKind.bits, IntKind.signed, IntKind.min, IntKind.max]
 omega
attribute [local go_sem] bin_kmul
variable [Glb]
theorem rnumber_ok (b : ByteArray) (hb : b.size ≤ 1000000000) : APure Tryz.prog 72 [.str b] (.tup [.int (rnumB b).1, .int (rnumB b).2]) := by
 have FF : True := trivial
 refine apure_of Tryz.func72 rfl (by kernel_rfl) (by simp [Tryz.ntmps72]) ?_
 rw [Tryz.ntmps72]
 refine awp_rseq (by decide) fun KK hKK => ?_
 refine m_assign ?_
 refine m_assign ?_
 refine hKK _ _ ?_
 clear hKK KK
 refine awp_rseq (by decide) fun KK hKK => ?_
 refine m_move ?_
 refine m_assign ?_
 refine hKK _ _ ?_
 clear hKK KK
 refine m_join (ι := Unit) (fun i => [(0, .str b), (2, .int 0), (3, .int 0), (4, .str (digsOf b))]) (fun i => []) (fun i => True) ?_ ?_
 · refine awp_rseq (by decide) fun KK hKK => ?_
   refine m_move ?_
   refine m_len ?_
   refine m_bin ?_
   refine m_move ?_
   refine g_move ?_
   refine g_idx ?_
   refine g_bin ?_
   refine m_pick ?_
   refine hKK _ _ ?_
   clear hKK KK
   refine m_cond (fun hc => ?_) (fun hc => ?_)
   · have hc' : (decide ((0 : Int) < b.size) && byteAt b 0 == 45) = true := by simpa using hc
     have e : digsOf b = b.extract 1 b.size := by rw [digsOf, if_pos hc']
     have hpos : 0 < b.size := by
       rw [Bool.and_eq_true, decide_eq_true_eq] at hc'
       omega
     rw [e]
     refine awp_rlast (by decide) fun KK hKK => ?_
     refine m_move ?_
     first | refine m_slOwn ?_ | refine m_slIm ?_ | refine m_slStr ?_ | refine m_slOsub ?_ | refine m_slEmp ?_
     refine m_assign ?_
     refine hKK _ _ ?_
     clear hKK KK
     try rw [thenQ_normal]
     refine ⟨(), ?_, (by simp only [List.forall_mem_cons, List.forall_mem_nil, go_sem, reduceIte, Nat.reduceEqDiff, FF]; all_goals ((repeat' apply And.intro) <;> first | trivial | rfl | exact objLe_refl _ | (intro _ _; exact Subs.refl _))), (by simp only [List.forall_mem_cons, List.forall_mem_nil, go_sem, reduceIte, Nat.reduceEqDiff, FF]; all_goals ((repeat' apply And.intro) <;> first | trivial | rfl | exact objLe_refl _ | (intro _ _; exact Subs.refl _)))⟩
     trivial
   · have hc' : ¬ (decide ((0 : Int) < b.size) && byteAt b 0 == 45) = true := by simpa using hc
     have e : digsOf b = b := by rw [digsOf, if_neg hc']
     rw [e]
     refine awp_skip ?_
     try rw [thenQ_normal]
     refine ⟨(), ?_, (by simp only [List.forall_mem_cons, List.forall_mem_nil, go_sem, reduceIte, Nat.reduceEqDiff, FF]; all_goals ((repeat' apply And.intro) <;> first | trivial | rfl | exact objLe_refl _ | (intro _ _; exact Subs.refl _))), (by simp only [List.forall_mem_cons, List.forall_mem_nil, go_sem, reduceIte, Nat.reduceEqDiff, FF]; all_goals ((repeat' apply And.intro) <;> first | trivial | rfl | exact objLe_refl _ | (intro _ _; exact Subs.refl _)))⟩
     trivial
 rintro - -
 have hgs : (digsOf b).size ≤ b.size := by
   rw [digsOf]
   split
   · rw [ByteArray.size_extract]; omega
   · exact Nat.le_refl _
 unfold rnumB
 generalize digsOf b = g at *
 refine awp_seq ?_
 have hne : ¬ (g.toList == (⟨#[]⟩ : ByteArray).toList) = true → 0 < g.size := fun h => by
   rcases Nat.eq_zero_or_pos g.size with h0 | h0
   · refine absurd ?_ h
     have : g = ⟨#[]⟩ := ba_eq (by have : g.data.toList.length = 0 := h0; simpa using List.length_eq_zero_iff.1 this)
     rw [this]
     simp
   · exact h0
 cases hE : g.toList == (⟨#[]⟩ : ByteArray).toList with
 | true =>
   refine awp_rseq (by decide) fun KK hKK => ?_
   refine st0 rfl (k_move (by simp only [go_sem, reduceIte, Nat.reduceEqDiff, FF, hE] <;> rfl)) ?_
   refine st0 rfl (k_bin (by simp only [go_sem, reduceIte, Nat.reduceEqDiff, FF, hE] <;> rfl) (by simp only [go_sem, reduceIte, Nat.reduceEqDiff, FF, hE] <;> rfl) (by rfl) (by rfl) (by simp only [go_sem, reduceIte, Nat.reduceEqDiff, FF, hE] <;> rfl) (by intro hG; simp only [go_sem])) ?_
   refine st0 rfl (k_move (by simp only [go_sem, reduceIte, Nat.reduceEqDiff, FF, hE] <;> rfl)) ?_
   refine sgF rfl (by simp only [go_sem, reduceIte, Nat.reduceEqDiff, FF, hE] <;> rfl) (by rfl) (by simp only [go_sem, reduceIte, Nat.reduceEqDiff, FF, hE, hE] <;> rfl) ?_
   refine sgF rfl (by simp only [go_sem, reduceIte, Nat.reduceEqDiff, FF, hE] <;> rfl) (by rfl) (by simp only [go_sem, reduceIte, Nat.reduceEqDiff, FF, hE, hE] <;> rfl) ?_
   refine sgF rfl (by simp only [go_sem, reduceIte, Nat.reduceEqDiff, FF, hE] <;> rfl) (by rfl) (by simp only [go_sem, reduceIte, Nat.reduceEqDiff, FF, hE, hE] <;> rfl) ?_
   refine sgF rfl (by simp only [go_sem, reduceIte, Nat.reduceEqDiff, FF, hE] <;> rfl) (by rfl) (by simp only [go_sem, reduceIte, Nat.reduceEqDiff, FF, hE, hE] <;> rfl) ?_
   refine sgF rfl (by simp only [go_sem, reduceIte, Nat.reduceEqDiff, FF, hE] <;> rfl) (by rfl) (by simp only [go_sem, reduceIte, Nat.reduceEqDiff, FF, hE, hE] <;> rfl) ?_
   refine sgF rfl (by simp only [go_sem, reduceIte, Nat.reduceEqDiff, FF, hE] <;> rfl) (by rfl) (by simp only [go_sem, reduceIte, Nat.reduceEqDiff, FF, hE, hE] <;> rfl) ?_
   refine sgF rfl (by simp only [go_sem, reduceIte, Nat.reduceEqDiff, FF, hE] <;> rfl) (by rfl) (by simp only [go_sem, reduceIte, Nat.reduceEqDiff, FF, hE, hE] <;> rfl) ?_
   refine sgF rfl (by simp only [go_sem, reduceIte, Nat.reduceEqDiff, FF, hE] <;> rfl) (by rfl) (by simp only [go_sem, reduceIte, Nat.reduceEqDiff, FF, hE, hE] <;> rfl) ?_
   refine sgF rfl (by simp only [go_sem, reduceIte, Nat.reduceEqDiff, FF, hE] <;> rfl) (by rfl) (by simp only [go_sem, reduceIte, Nat.reduceEqDiff, FF, hE, hE] <;> rfl) ?_
   refine sgF rfl (by simp only [go_sem, reduceIte, Nat.reduceEqDiff, FF, hE] <;> rfl) (by rfl) (by simp only [go_sem, reduceIte, Nat.reduceEqDiff, FF, hE, hE] <;> rfl) ?_
   refine sgF rfl (by simp only [go_sem, reduceIte, Nat.reduceEqDiff, FF, hE] <;> rfl) (by rfl) (by simp only [go_sem, reduceIte, Nat.reduceEqDiff, FF, hE, hE] <;> rfl) ?_
   refine sgF rfl (by simp only [go_sem, reduceIte, Nat.reduceEqDiff, FF, hE] <;> rfl) (by rfl) (by simp only [go_sem, reduceIte, Nat.reduceEqDiff, FF, hE, hE] <;> rfl) ?_
   refine sgF rfl (by simp only [go_sem, reduceIte, Nat.reduceEqDiff, FF, hE] <;> rfl) (by rfl) (by simp only [go_sem, reduceIte, Nat.reduceEqDiff, FF, hE, hE] <;> rfl) ?_
   refine st0 rfl (k_pick (by simp only [go_sem, reduceIte, Nat.reduceEqDiff, FF, hE] <;> rfl) (by simp only [go_sem, reduceIte, Nat.reduceEqDiff, FF, hE] <;> rfl) (by simp only [go_sem, reduceIte, Nat.reduceEqDiff, FF, hE] <;> rfl) (by rfl) (by rfl) (by rfl) (by intro hG; first | (simp only [go_sem, reduceIte, Nat.reduceEqDiff, FF, hE, hE]; done) | (simp [go_sem]; done) | (simp [go_sem] at hG ⊢ <;> simp [hG] <;> (intros; simp_all))) (by first | (simp only [go_sem, reduceIte, Nat.reduceEqDiff, FF, hE] <;> rfl) | rfl)) ?_
   refine hKK _ _ ?_
   clear hKK KK
   refine awp_cond (by simp only [go_sem, reduceIte, Nat.reduceEqDiff, FF, hE] <;> rfl) (fun hc => ?_) (fun hc => ?_)
   · refine awp_rseq (by decide) fun KK hKK => ?_
     refine m_assign ?_
     refine m_assign ?_
     refine hKK _ _ ?_
     clear hKK KK
     refine awp_ret ⟨[_, _], ⟨xp, xp, trivial⟩, ?_⟩
     simp only [go_sem, reduceIte, Nat.reduceEqDiff, FF, tupled]
     exact CV.Sub.refl _
   · cases hc
 | false =>
 have hpos := hne (by rw [hE]; decide)
 have FF := And.intro hE FF
 refine awp_rseq (by decide) fun KK hKK => ?_
 refine m_move ?_
 refine m_bin ?_
 refine m_move ?_
 refine g_move ?_
 refine g_idx ?_
 refine g_bin ?_
 refine g_move ?_
 refine g_move ?_
 refine g_len ?_
 refine g_bin ?_
 refine g_move ?_
 refine g_move ?_
 refine g_len ?_
 refine g_bin ?_
 refine g_pick ?_
 refine g_pick ?_
 refine m_pick ?_
 refine hKK _ _ ?_
 clear hKK KK
 refine m_cond (fun hc => ?_) (fun hc => ?_)
 · refine awp_rseq (by decide) fun KK hKK => ?_
   refine m_assign ?_
   refine m_assign ?_
   refine hKK _ _ ?_
   clear hKK KK
   refine awp_ret ⟨[_, _], ⟨xp, xp, trivial⟩, ?_⟩
   simp only [go_sem, reduceIte, Nat.reduceEqDiff, FF, tupled]
   rw [if_pos (by simpa using hc)]
   exact CV.Sub.refl _
 have hc' : ¬ (false || (byteAt g 0 == 48 && (decide ((1 : Int) < g.size) || decide ((1 : Int) < b.size)))) = true := by simpa using hc
 rw [if_neg hc']
 clear hc hc'
 refine awp_skip ?_
 first | rw [thenQ_normal] | rw [blockQ_normal, thenQ_normal]
 refine m_join (ι := Unit) (fun i => [(0, .str b), (4, .str g)]) (fun i => []) (fun i => allB digitB g g.size = true) ?_ ?_
 · refine awp_rseq (by decide) fun KK hKK => ?_
   refine m_assign ?_
   refine hKK _ _ ?_
   clear hKK KK
   refine awp_block ?_
   refine m_for (ι := Nat) (fun i => [(0, .str b), (4, .str g), (5, .int i)]) (fun i => []) (fun i => g.size - i) (fun i => i ≤ g.size ∧ allB digitB g i = true) (0) ?_ ?_
   · exact ⟨Nat.zero_le _, rfl⟩
   rintro i ⟨hi, hall⟩
   refine awp_seq ?_
   refine awp_rseq (by decide) fun KK hKK => ?_
   refine m_move ?_
   refine m_move ?_
   refine m_len ?_
   refine m_bin ?_
   refine hKK _ _ ?_
   clear hKK KK
   refine m_cond (fun hc => ?_) (fun hc => ?_)
   · have hlt : i < g.size := by
       simp only [decide_eq_true_eq] at hc
       omega
     have w3 : IntKind.i64.wrap ((i : Int) + 1) = ((i + 1 : Nat) : Int) := wrap_in (by omega)
     refine awp_skip ?_
     first | rw [thenQ_normal] | rw [blockQ_normal, thenQ_normal]
     refine awp_seq (awp_block ?_)
     refine awp_rseq (by decide) fun KK hKK => ?_
     refine m_move ?_
     refine m_move ?_
     refine m_idx ?_
     refine m_call (fun hG => digit_ok (byteAt g i)) ?_
     refine m_not ?_
     refine hKK _ _ ?_
     clear hKK KK
     refine m_cond (fun hc => ?_) (fun hc => ?_)
     · have hn : digitB (byteAt g i) = false := by simpa using hc
       refine awp_rseq (by decide) fun KK hKK => ?_
       refine m_assign ?_
       refine m_assign ?_
       refine hKK _ _ ?_
       clear hKK KK
       refine awp_ret ⟨[_, _], ⟨xp, xp, trivial⟩, ?_⟩
       simp only [go_sem, reduceIte, Nat.reduceEqDiff, FF, tupled]
       rw [if_pos (allB_false hn g.size hlt)]
       exact CV.Sub.refl _
     · have hn : digitB (byteAt g i) = true := by simpa using hc
       refine awp_skip ?_
       first | rw [thenQ_normal] | rw [blockQ_normal, thenQ_normal]
       have FF := And.intro w3 FF
       refine awp_rlast (by decide) fun KK hKK => ?_
       refine m_move ?_
       refine m_bin ?_
       refine m_assign ?_
       refine hKK _ _ ?_
       clear hKK KK
       try rw [thenQ_normal]
       refine m_next (i + 1) ?_ ?_
       · exact ⟨by omega, by rw [allB, hall, hn]; rfl⟩
       · omega
   · have he : i = g.size := by
       simp only [decide_eq_false_iff_not] at hc
       omega
     subst he
     refine awp_exit ?_
     simp only [thenQ_exit, blockQ_exit, reduceIte, Nat.reduceEqDiff]
     try rw [thenQ_normal]
     try rw [thenQ_normal]
     refine ⟨(), ?_, (by simp only [List.forall_mem_cons, List.forall_mem_nil, go_sem, reduceIte, Nat.reduceEqDiff, FF]; all_goals ((repeat' apply And.intro) <;> first | trivial | rfl | exact objLe_refl _ | (intro _ _; exact Subs.refl _))), (by simp only [List.forall_mem_cons, List.forall_mem_nil, go_sem, reduceIte, Nat.reduceEqDiff, FF]; all_goals ((repeat' apply And.intro) <;> first | trivial | rfl | exact objLe_refl _ | (intro _ _; exact Subs.refl _)))⟩
     exact hall
 rintro - hall
 rw [if_neg (by rw [hall]; decide)]
 have hdig := all_digs hall
 refine awp_rseq (by decide) fun KK hKK => ?_
 refine m_assign ?_
 refine hKK _ _ ?_
 clear hKK KK
 refine m_join (ι := Nat) (fun u => [(0, .str b), (4, .str g), (6, .c (.raw (.int .u64 (u : Nat))))]) (fun u => []) (fun u => accR g.data.toList 0 = some u) ?_ ?_
 · refine awp_rseq (by decide) fun KK hKK => ?_
   refine m_assign ?_
   refine hKK _ _ ?_
   clear hKK KK
   refine awp_block ?_
   refine m_for (ι := (Nat × Nat)) (fun p => [(0, .str b), (4, .str g), (6, .c (.raw (.int .u64 (p.2 : Nat)))), (7, .int p.1)]) (fun p => []) (fun p => g.size - p.1) (fun p => p.1 ≤ g.size ∧ p.2 ≤ 9223372036854775808 ∧ accR (g.data.toList.drop p.1) p.2 = accR g.data.toList 0) ((0, 0)) ?_ ?_
   · exact ⟨Nat.zero_le _, Nat.zero_le _, rfl⟩
   rintro ⟨i, acc⟩ ⟨hi, hacc, hres⟩
   dsimp only at hi hacc hres ⊢
   refine awp_seq ?_
   refine awp_rseq (by decide) fun KK hKK => ?_
   refine m_move ?_
   refine m_move ?_
   refine m_len ?_
   refine m_bin ?_
   refine hKK _ _ ?_
   clear hKK KK
   refine m_cond (fun hc => ?_) (fun hc => ?_)
   · have hlt : i < g.size := by
       simp only [decide_eq_true_eq] at hc
       omega
     obtain ⟨c, hc1, hc2, hc3⟩ := byteAt_get g hlt
     have hD := hdig c (List.mem_of_getElem? hc1)
     simp only [isD, Bool.and_eq_true, decide_eq_true_eq] at hD
     have w3 : IntKind.i64.wrap ((i : Int) + 1) = ((i + 1 : Nat) : Int) := wrap_in (by omega)
     have w5 : IntKind.u8.wrap (byteAt g i - 48) = ((c.toNat - 48 : Nat) : Int) := by rw [hc2]; exact wrap_u8 ⟨by omega, by omega⟩
     have w6 : IntKind.u64.wrap ((c.toNat - 48 : Nat) : Int) = ((c.toNat - 48 : Nat) : Int) := wrap_u64 (by omega)
     have w7 : IntKind.u64.wrap (9223372036854775808 - ((c.toNat - 48 : Nat) : Int)) = ((9223372036854775808 - (c.toNat - 48) : Nat) : Int) := by rw [wrap_u64 (by omega)]; omega
     have w8 : IntKind.u64.wrap (Int.tdiv ((9223372036854775808 - (c.toNat - 48) : Nat) : Int) 10) = (((9223372036854775808 - (c.toNat - 48)) / 10 : Nat) : Int) := by
       have : Int.tdiv ((9223372036854775808 - (c.toNat - 48) : Nat) : Int) 10 = (((9223372036854775808 - (c.toNat - 48)) / 10 : Nat) : Int) := by
         rw [Int.tdiv_eq_ediv_of_nonneg (by omega)]
         omega
       rw [this]
       exact wrap_u64 (by omega)
     rw [hc3, accR] at hres
     refine awp_skip ?_
     first | rw [thenQ_normal] | rw [blockQ_normal, thenQ_normal]
     refine awp_seq (awp_block ?_)
     have FF := And.intro w5 (And.intro w6 FF)
     refine awp_rseq (by decide) fun KK hKK => ?_
     refine m_move ?_
     refine m_move ?_
     refine m_idx ?_
     refine m_bin ?_
     refine m_convert ?_
     refine m_assign ?_
     refine hKK _ _ ?_
     clear hKK KK
     refine awp_seq ?_
     have FF := And.intro w7 (And.intro w8 FF)
     refine awp_rseq (by decide) fun KK hKK => ?_
     refine m_move ?_
     refine m_move ?_
     refine m_bin ?_
     refine m_bin ?_
     refine m_bin ?_
     refine hKK _ _ ?_
     clear hKK KK
     refine m_cond (fun hc => ?_) (fun hc => ?_)
     · have hbig : (9223372036854775808 - (c.toNat - 48)) / 10 < acc := by
         simp only [decide_eq_true_eq] at hc
         omega
       rw [if_pos hbig] at hres
       refine awp_rseq (by decide) fun KK hKK => ?_
       refine m_assign ?_
       refine m_assign ?_
       refine hKK _ _ ?_
       clear hKK KK
       refine awp_ret ⟨[_, _], ⟨xp, xp, trivial⟩, ?_⟩
       simp only [go_sem, reduceIte, Nat.reduceEqDiff, FF, tupled]
       rw [← hres]
       exact CV.Sub.refl _
     · have hbig : ¬ (9223372036854775808 - (c.toNat - 48)) / 10 < acc := by
         simp only [decide_eq_false_iff_not] at hc
         omega
       rw [if_neg hbig] at hres
       have w9 : IntKind.u64.wrap ((acc : Int) * 10) = ((acc * 10 : Nat) : Int) := by rw [wrap_u64 (by omega)]; omega
       have w10 : IntKind.u64.wrap (((acc * 10 : Nat) : Int) + ((c.toNat - 48 : Nat) : Int)) = ((acc * 10 + (c.toNat - 48) : Nat) : Int) := by rw [wrap_u64 (by omega)]; omega
       refine awp_skip ?_
       first | rw [thenQ_normal] | rw [blockQ_normal, thenQ_normal]
       have FF := And.intro w9 (And.intro w10 FF)
       refine awp_rlast (by decide) fun KK hKK => ?_
       refine m_move ?_
       refine m_bin ?_
       refine m_move ?_
       refine m_bin ?_
       refine m_assign ?_
       refine hKK _ _ ?_
       clear hKK KK
       first | rw [thenQ_normal] | rw [blockQ_normal, thenQ_normal]
       have FF := And.intro w3 FF
       refine awp_rlast (by decide) fun KK hKK => ?_
       refine m_move ?_
       refine m_bin ?_
       refine m_assign ?_
       refine hKK _ _ ?_
       clear hKK KK
       try rw [thenQ_normal]
       refine m_next ((i + 1, acc * 10 + (c.toNat - 48))) ?_ ?_
       · exact ⟨by dsimp only; omega, by dsimp only; omega, hres⟩
       · dsimp only; omega
   · have he : i = g.size := by
       simp only [decide_eq_false_iff_not] at hc
       omega
     subst he
     refine awp_exit ?_
     simp only [thenQ_exit, blockQ_exit, reduceIte, Nat.reduceEqDiff]
     try rw [thenQ_normal]
     try rw [thenQ_normal]
     refine ⟨acc, ?_, (by simp only [List.forall_mem_cons, List.forall_mem_nil, go_sem, reduceIte, Nat.reduceEqDiff, FF]; all_goals ((repeat' apply And.intro) <;> first | trivial | rfl | exact objLe_refl _ | (intro _ _; exact Subs.refl _))), (by simp only [List.forall_mem_cons, List.forall_mem_nil, go_sem, reduceIte, Nat.reduceEqDiff, FF]; all_goals ((repeat' apply And.intro) <;> first | trivial | rfl | exact objLe_refl _ | (intro _ _; exact Subs.refl _)))⟩
     rw [← hres, ← list_size, List.drop_length, accR]
 rintro u hu
 have hule := accR_le _ 0 u (by omega) hdig hu
 rw [hu]
 simp only
 refine awp_seq ?_
 refine awp_rseq (by decide) fun KK hKK => ?_
 refine m_move ?_
 refine m_len ?_
 refine m_move ?_
 refine m_len ?_
 refine m_bin ?_
 refine hKK _ _ ?_
 clear hKK KK
 refine m_cond (fun hc => ?_) (fun hc => ?_)
 · have hc' : decide ((g.size : Int) < b.size) = true := by simpa using hc
   rw [if_pos hc']
   have w12 : IntKind.i64.wrap (IntKind.u64.wrap (0 - (u : Int))) = -(u : Int) := by rw [IntKind.wrap_u64, IntKind.wrap_i64]; omega
   have FF := And.intro w12 FF
   refine awp_rseq (by decide) fun KK hKK => ?_
   refine m_move ?_
   refine m_neg ?_
   refine m_convert ?_
   refine m_assign ?_
   refine m_assign ?_
   refine hKK _ _ ?_
   clear hKK KK
   refine awp_ret ⟨[_, _], ⟨xp, xp, trivial⟩, ?_⟩
   simp only [go_sem, reduceIte, Nat.reduceEqDiff, FF, tupled]
   exact CV.Sub.refl _
 have hc' : ¬ decide ((g.size : Int) < b.size) = true := by simpa using hc
 rw [if_neg hc']
 refine awp_skip ?_
 first | rw [thenQ_normal] | rw [blockQ_normal, thenQ_normal]
 refine awp_seq ?_
 refine awp_rseq (by decide) fun KK hKK => ?_
 refine m_move ?_
 refine m_bin ?_
 refine hKK _ _ ?_
 clear hKK KK
 refine m_cond (fun hc => ?_) (fun hc => ?_)
 · have hc2 : u = 9223372036854775808 := by
     simp only [beq_iff_eq] at hc
     omega
   rw [if_pos hc2]
   refine awp_rseq (by decide) fun KK hKK => ?_
   refine m_assign ?_
   refine m_assign ?_
   refine hKK _ _ ?_
   clear hKK KK
   refine awp_ret ⟨[_, _], ⟨xp, xp, trivial⟩, ?_⟩
   simp only [go_sem, reduceIte, Nat.reduceEqDiff, FF, tupled]
   exact CV.Sub.refl _
 have hc2 : ¬ u = 9223372036854775808 := by
   simp only [beq_eq_false_iff_ne] at hc
   omega
 rw [if_neg hc2]
 have w11 : IntKind.i64.wrap ((u : Nat) : Int) = (u : Int) := wrap_in (by omega)
 refine awp_skip ?_
 first | rw [thenQ_normal] | rw [blockQ_normal, thenQ_normal]
 have FF := And.intro w11 FF
 refine awp_rseq (by decide) fun KK hKK => ?_
 refine m_move ?_
 refine m_convert ?_
 refine m_assign ?_
 refine m_assign ?_
 refine hKK _ _ ?_
 clear hKK KK
 refine awp_ret ⟨[_, _], ⟨xp, xp, trivial⟩, ?_⟩
 simp only [go_sem, reduceIte, Nat.reduceEqDiff, FF, tupled]
 exact CV.Sub.refl _
end Go.Am
namespace Go.Am
open Go.Proofs
theorem splitL_out (p : List UInt8) (c : UInt8) (hc : c ≠ 32) : ∀ {out : List (List UInt8)} {w : List UInt8}, splitL p = out ++ [w] → splitL (p ++ [c]) = out ++ [w ++ [c]] := by
 induction p with
 | nil =>
   intro out w h
   match out, h with
   | [], h =>
     simp only [splitL, List.nil_append, List.cons.injEq, and_true] at h
     subst h
     simp [splitL, hc]
   | a :: o, h => exact absurd (congrArg List.length h) (by simp [splitL])
 | cons d p ih =>
   intro out w h
   rw [List.cons_append, splitL]
   rw [splitL] at h
   by_cases hd : d = 32
   · rw [if_pos hd] at h ⊢
     match out, h with
     | [], h =>
       have := congrArg List.length h
       have hne := splitL_ne p
       cases hs : splitL p with
       | nil => exact absurd hs hne
       | cons a b => rw [hs] at this; simp at this
     | a :: o, h =>
       rw [List.cons_append, List.cons.injEq] at h
       obtain ⟨rfl, h⟩ := h
       rw [ih h]
       rfl
   · rw [if_neg hd] at h ⊢
     cases hs : splitL p with
     | nil => exact absurd hs (splitL_ne p)
     | cons a b =>
       rw [hs] at h
       simp only at h
       cases b with
       | nil =>
         match out, h with
         | [], h =>
           simp only [List.nil_append, List.cons.injEq, and_true] at h
           subst h
           rw [ih (out := []) (w := a) hs]
           rfl
         | x :: o, h => exact absurd (congrArg List.length h) (by simp)
       | cons b1 b2 =>
         match out, h with
         | [], h => exact absurd (congrArg List.length h) (by simp)
         | x :: o, h =>
           rw [List.cons_append, List.cons.injEq] at h
           obtain ⟨rfl, h⟩ := h
           rw [ih (out := a :: o) (w := w) (by rw [hs, h]; rfl)]
           rfl
theorem splitL_sp (p r : List UInt8) : splitL (p ++ 32 :: r) = splitL p ++ splitL r := by
 induction p with
 | nil => simp [splitL]
 | cons c p ih =>
   rw [List.cons_append, splitL, splitL, ih]
   by_cases hc : c = 32
   · rw [if_pos hc, if_pos hc]; rfl
   · rw [if_neg hc, if_neg hc]
     cases hs : splitL p with
     | nil => exact absurd hs (splitL_ne p)
     | cons a b => rfl
variable [Glb]
end Go.Am
namespace Go.Am
open Go.Proofs
attribute [local go_sem ↓] ofL_cons ofH_cons upd_apply
set_option maxHeartbeats 1000000
set_option linter.unusedSimpArgs false
variable [Glb]
theorem rcounted_ok (n : Int) : APure Tryz.prog 29 [.int n] (.bool (countB n)) := by
 have FF : True := trivial
 refine apure_of Tryz.func29 rfl (by kernel_rfl) (by simp [Tryz.ntmps29]) ?_
 rw [Tryz.ntmps29]
 refine awp_rseq (by decide) fun KK hKK => ?_
 refine m_assign ?_
 refine hKK _ _ ?_
 clear hKK KK
 refine awp_rseq (by decide) fun KK hKK => ?_
 refine m_move ?_
 refine m_bin ?_
 refine m_move ?_
 refine g_move ?_
 refine g_bin ?_
 refine m_pick ?_
 refine m_assign ?_
 refine hKK _ _ ?_
 clear hKK KK
 refine awp_ret ⟨[_], ⟨xp, trivial⟩, ?_⟩
 simp only [go_sem, reduceIte, Nat.reduceEqDiff, FF, tupled]
 exact CV.Sub.refl _
end Go.Am
namespace Go.Am
open Go.Proofs
attribute [local go_sem ↓] ofL_cons ofH_cons upd_apply
set_option maxHeartbeats 2000000
set_option linter.unusedSimpArgs false
theorem data_ne {s : ByteArray} {i : Nat} (h : i < s.size) : s.data.toList ≠ [] := fun e => by
 have h2 : s.data.toList.length = s.size := rfl
 rw [e] at h2
 simp only [List.length_nil] at h2
 omega
variable [Glb]
end Go.Am
namespace Go.Am
open Go.Proofs
attribute [local go_sem ↓] ofL_cons ofH_cons upd_apply
set_option maxHeartbeats 2000000
set_option linter.unusedSimpArgs false
abbrev wdR (l : List ByteArray) : Nat → List CV := fun i => (l.map strF).getD i []
theorem wdR_app (l m : List ByteArray) : ∀ i, i < l.length + m.length → (if i < l.length then wdR l i else wdR m (i - l.length)) = wdR (l ++ m) i := by
 intro i hi
 unfold wdR
 rw [List.map_append, List.getD_eq_getElem?_getD, List.getD_eq_getElem?_getD, List.getD_eq_getElem?_getD]
 split
 · rw [List.getElem?_append_left (by simpa using ‹_›)]
 · rw [List.getElem?_append_right (by simp; omega), List.length_map]
theorem take_next {s : ByteArray} {i : Nat} {c : UInt8} (h : s.data.toList[i]? = some c) : s.data.toList.take (i + 1) = s.data.toList.take i ++ [c] := by
 obtain ⟨hi, rfl⟩ := List.getElem?_eq_some_iff.1 h
 exact List.take_succ_eq_append_getElem hi
theorem cut_at {s : ByteArray} {i : Nat} {c : UInt8} (h : s.data.toList[i]? = some c) : s.data.toList = s.data.toList.take i ++ c :: s.data.toList.drop (i + 1) := by
 obtain ⟨hi, rfl⟩ := List.getElem?_eq_some_iff.1 h
 rw [← List.drop_eq_getElem_cons hi, List.take_append_drop]
theorem sub_one (s : ByteArray) {i : Nat} {c : UInt8} (h : s.data.toList[i]? = some c) : (s.extract i (i + 1)).data.toList = [c] := by
 obtain ⟨hi, rfl⟩ := List.getElem?_eq_some_iff.1 h
 rw [Lib.extract_data]
 rw [List.drop_eq_getElem_cons hi]
 simp
theorem winv_next {s : ByteArray} {i : Nat} {out : List ByteArray} {word : ByteArray} {c : UInt8} (W : WInv s i out word) (hi : i < s.size) (hc : s.data.toList[i]? = some c) (h32 : c ≠ 32) (hl : lineI (byteAt s i) = true) : WInv s (i + 1) out (word ++ s.extract i (i + 1)) where
 le := hi
 sp := by
   rw [take_next hc, splitL_out _ c h32 W.sp, ByteArray.data_append, Array.toList_append, sub_one s hc]
 ne := W.ne
 ln := by rw [allB, W.ln, hl]; rfl
 wd h := by
   have : (s.extract i (i + 1)).size = 1 := by
     have := congrArg List.length (sub_one s hc)
     exact this
   rw [ByteArray.size_append] at h
   omega
 sz := by have := W.sz; omega
 ws := by
   have : (s.extract i (i + 1)).size = 1 := by
     have := congrArg List.length (sub_one s hc)
     exact this
   have := W.ws
   rw [ByteArray.size_append]
   omega
theorem winv_space {s : ByteArray} {i : Nat} {out : List ByteArray} {word : ByteArray} (W : WInv s i out word) (hi : i < s.size) (hc : s.data.toList[i]? = some 32) (hw : neB word = true) (hl : i + 1 < s.size) (hb : lineI (byteAt s i) = true) : WInv s (i + 1) (out ++ [word]) ⟨#[]⟩ where
 le := hi
 sp := by
   rw [take_next hc, splitL_sp, W.sp, List.map_append]
   rfl
 ne := by rw [List.all_append, W.ne]; simp [hw]
 ln := by rw [allB, W.ln, hb]; rfl
 wd _ := .inr hl
 sz := by have := W.sz; simp; omega
 ws := Nat.zero_le _
theorem winv_empty {s : ByteArray} {i : Nat} {out : List ByteArray} {word : ByteArray} (W : WInv s i out word) (hi : i < s.size) (hc : s.data.toList[i]? = some 32) (hw : neB word = false ∨ i + 1 = s.size) : wordsF s = ([], 8) := by
 refine words_bad (.inr ⟨data_ne hi, ?_⟩)
 rw [cut_at hc, splitL_sp, W.sp, List.any_append, List.any_append]
 rcases hw with hw | hw
 · rw [neB_iff] at hw
   have : word.data.toList.isEmpty = true := by simpa using hw
   simp [this]
 · have : s.data.toList.drop (i + 1) = [] := List.drop_of_length_le (by show s.size ≤ i + 1; omega)
   rw [this]
   simp [splitL]
theorem winv_end {s : ByteArray} {out : List ByteArray} {word : ByteArray} (W : WInv s s.size out word) : wordsF s = (if neB word then out ++ [word] else out, 0) := by
 have hsp := W.sp
 rw [show s.data.toList.take s.size = s.data.toList from List.take_length ..] at hsp
 cases h : neB word with
 | true =>
   rw [if_pos rfl]
   have hm : (out ++ [word]).map (·.data.toList) = splitL s.data.toList := by rw [hsp, List.map_append]; rfl
   refine words_good (fun e => ?_) (line_good W.ln) ?_ hm
   · rw [e] at hsp
     have h1 := congrArg List.length hsp
     simp [splitL] at h1
     subst h1
     simp only [splitL, List.map_nil, List.nil_append, List.cons.injEq, and_true] at hsp
     rw [neB_iff, ← hsp] at h
     cases h
   · rw [any_split hm, List.all_append, W.ne]
     simp [h]
 | false =>
   rw [if_neg (by decide)]
   rw [neB_iff] at h
   have hw : word.data.toList = [] := by simpa using h
   have hz : word.size = 0 := by
     have : word.size = word.data.toList.length := rfl
     rw [this, hw]; rfl
   have h0 : s.size = 0 := by
     rcases W.wd hz with h | h <;> omega
   rw [words_nil (data_nil h0)]
   rw [data_nil h0, hw] at hsp
   have h1 := congrArg List.length hsp
   simp [splitL] at h1
   rw [h1]
variable [Glb]
theorem rwords_ok (s : ByteArray) (hs : s.size ≤ 1000000000) : APure Tryz.prog 47 [.str s] (.tup [wdL (wordsF s).1, .int (wordsF s).2]) := by
 have FF : True := trivial
 refine apure_of Tryz.func47 rfl (by kernel_rfl) (by simp [Tryz.ntmps47]) ?_
 rw [Tryz.ntmps47]
 refine awp_rseq (by decide) fun KK hKK => ?_
 refine m_assign ?_
 refine m_assign ?_
 refine hKK _ _ ?_
 clear hKK KK
 refine awp_rseq (by decide) fun KK hKK => ?_
 refine m_assign ?_
 refine hKK _ _ ?_
 clear hKK KK
 refine awp_rseq (by decide) fun KK hKK => ?_
 refine m_assign ?_
 refine hKK _ _ ?_
 clear hKK KK
 refine awp_seq ?_
 refine awp_rseq (by decide) fun KK hKK => ?_
 refine m_assign ?_
 refine hKK _ _ ?_
 clear hKK KK
 refine awp_block ?_
 refine AWp.weak (weak_adopt 4 100 9 1 (wdR []) (by simp only [go_sem, reduceIte, Nat.reduceEqDiff, FF]) (by simp only [go_sem, reduceIte, Nat.reduceEqDiff, FF])) ?_
 refine m_for (ι := Nat × List ByteArray × ByteArray) (fun p => [(0, .str s), (4, .own 100 p.2.1.length), (5, .str p.2.2), (6, .int p.1)]) (fun p => [(100, .row 9 1 p.2.1.length (wdR p.2.1))]) (fun p => s.size - p.1) (fun p => WInv s p.1 p.2.1 p.2.2) ((0, [], ⟨#[]⟩)) ?_ ?_
 · exact ⟨Nat.zero_le _, by simp [splitL], rfl, rfl, fun _ => .inl rfl, Nat.le_refl _, Nat.le_refl _⟩
 rintro ⟨i, out, word⟩ W
 dsimp only at W
 have hle := W.le
 have hos := W.sz
 have hws := W.ws
 refine awp_seq ?_
 refine awp_rseq (by decide) fun KK hKK => ?_
 refine m_move ?_
 refine m_move ?_
 refine m_len ?_
 refine m_bin ?_
 refine hKK _ _ ?_
 clear hKK KK
 refine m_cond (fun hc => ?_) (fun hc => ?_)
 · simp only [decide_eq_true_eq] at hc
   have hi' : i < s.size := by omega
   have w3 : IntKind.i64.wrap ((i : Int) + 1) = ((i + 1 : Nat) : Int) := wrap_in (by omega)
   have w4 : IntKind.i64.wrap ((s.size : Int) - 1) = (s.size : Int) - 1 := wrap_in (by omega)
   obtain ⟨c, hc1, hc2, _⟩ := byteAt_get s hi'
   refine awp_skip ?_
   first | rw [thenQ_normal] | rw [blockQ_normal, thenQ_normal]
   refine awp_seq (awp_block (awp_block ?_))
   clear hc
   refine awp_rseq (by decide) fun KK hKK => ?_
   refine m_move ?_
   refine m_move ?_
   refine m_idx ?_
   refine m_bin ?_
   refine m_move ?_
   refine g_move ?_
   refine g_move ?_
   refine g_idx ?_
   refine g_bin ?_
   refine m_pick ?_
   refine m_assign ?_
   refine hKK _ _ ?_
   clear hKK KK
   refine m_cond (fun hc => ?_) (fun hc => ?_)
   · refine awp_rseq (by decide) fun KK hKK => ?_
     refine m_assign ?_
     refine m_assign ?_
     refine hKK _ _ ?_
     clear hKK KK
     refine awp_ret ⟨[_, _], ⟨xp, xp, trivial⟩, ?_⟩
     simp only [go_sem, reduceIte, Nat.reduceEqDiff, FF, tupled]
     rw [words_bad (.inl (line_bad hi' (by unfold lineI; rw [hc]; rfl)))]
     exact sub_tup2' (CV.Sub.im0 rfl rfl) (CV.Sub.refl _)
   have hl : lineI (byteAt s i) = true := by unfold lineI; rw [hc]; rfl
   clear hc
   refine awp_rseq (by decide) fun KK hKK => ?_
   refine m_move ?_
   refine m_move ?_
   refine m_idx ?_
   refine m_bin ?_
   refine m_assign ?_
   refine hKK _ _ ?_
   clear hKK KK
   refine m_cond (fun hc => ?_) (fun hc => ?_)
   · have h32 : c ≠ 32 := by
       rintro rfl
       rw [hc2] at hc
       cases hc
     have e1 : (s.extract i (i + 1)).size = 1 := by
       have := congrArg List.length (sub_one s hc1)
       exact this
     have b0 : word.size + (s.extract i (i + 1)).size ≤ 9223372036854775807 := by omega
     have FF := And.intro w3 (And.intro b0 FF)
     refine awp_rlast (by decide) fun KK hKK => ?_
     refine m_move ?_
     refine m_move ?_
     refine m_move ?_
     refine m_move ?_
     refine m_bin ?_
     first | refine m_slOwn ?_ | refine m_slIm ?_ | refine m_slStr ?_ | refine m_slOsub ?_ | refine m_slEmp ?_
     refine m_bin ?_
     refine m_assign ?_
     refine hKK _ _ ?_
     clear hKK KK
     simp only [blockQ_normal, thenQ_normal]
     have FF := And.intro w3 FF
     refine awp_rlast (by decide) fun KK hKK => ?_
     refine m_move ?_
     refine m_bin ?_
     refine m_assign ?_
     refine hKK _ _ ?_
     clear hKK KK
     try rw [thenQ_normal]
     refine m_next ((i + 1, out, word ++ s.extract i (i + 1))) ?_ ?_
     · exact winv_next W hi' hc1 h32 hl
     · dsimp only
       omega
   · have h32 : c = 32 := by
       rw [hc2] at hc
       have h0 : (c.toNat : Int) = 32 := by simpa using hc
       exact UInt8.toNat_inj.1 (by show c.toNat = 32; omega)
     subst h32
     clear hc
     cases hE : word.toList == (⟨#[]⟩ : ByteArray).toList with
     | true =>
       refine awp_rseq (by decide) fun KK hKK => ?_
       refine st0 rfl (k_move (by simp only [go_sem, reduceIte, Nat.reduceEqDiff, FF, hE, w4] <;> rfl)) ?_
       refine st0 rfl (k_bin (by simp only [go_sem, reduceIte, Nat.reduceEqDiff, FF, hE, w4] <;> rfl) (by simp only [go_sem, reduceIte, Nat.reduceEqDiff, FF, hE, w4] <;> rfl) (by rfl) (by rfl) (by simp only [go_sem, reduceIte, Nat.reduceEqDiff, FF, hE, w4] <;> rfl) (by intro hG; simp only [go_sem])) ?_
       refine st0 rfl (k_move (by simp only [go_sem, reduceIte, Nat.reduceEqDiff, FF, hE, w4] <;> rfl)) ?_
       refine sgF rfl (by simp only [go_sem, reduceIte, Nat.reduceEqDiff, FF, hE, w4] <;> rfl) (by rfl) (by simp only [go_sem, reduceIte, Nat.reduceEqDiff, FF, hE, w4, hE] <;> rfl) ?_
       refine sgF rfl (by simp only [go_sem, reduceIte, Nat.reduceEqDiff, FF, hE, w4] <;> rfl) (by rfl) (by simp only [go_sem, reduceIte, Nat.reduceEqDiff, FF, hE, w4, hE] <;> rfl) ?_
       refine sgF rfl (by simp only [go_sem, reduceIte, Nat.reduceEqDiff, FF, hE, w4] <;> rfl) (by rfl) (by simp only [go_sem, reduceIte, Nat.reduceEqDiff, FF, hE, w4, hE] <;> rfl) ?_
       refine sgF rfl (by simp only [go_sem, reduceIte, Nat.reduceEqDiff, FF, hE, w4] <;> rfl) (by rfl) (by simp only [go_sem, reduceIte, Nat.reduceEqDiff, FF, hE, w4, hE] <;> rfl) ?_
       refine sgF rfl (by simp only [go_sem, reduceIte, Nat.reduceEqDiff, FF, hE, w4] <;> rfl) (by rfl) (by simp only [go_sem, reduceIte, Nat.reduceEqDiff, FF, hE, w4, hE] <;> rfl) ?_
       refine st0 rfl (k_pick (by simp only [go_sem, reduceIte, Nat.reduceEqDiff, FF, hE, w4] <;> rfl) (by simp only [go_sem, reduceIte, Nat.reduceEqDiff, FF, hE, w4] <;> rfl) (by simp only [go_sem, reduceIte, Nat.reduceEqDiff, FF, hE, w4] <;> rfl) (by rfl) (by rfl) (by rfl) (by intro hG; first | (simp only [go_sem, reduceIte, Nat.reduceEqDiff, FF, hE, w4, hE]; done) | (simp [go_sem]; done) | (simp [go_sem] at hG ⊢ <;> simp [hG] <;> (intros; simp_all))) (by first | (simp only [go_sem, reduceIte, Nat.reduceEqDiff, FF, hE, w4] <;> rfl) | rfl)) ?_
       refine st0 rfl (k_assign (by simp only [go_sem, reduceIte, Nat.reduceEqDiff, FF, hE, w4] <;> rfl)) ?_
       refine hKK _ _ ?_
       clear hKK KK
       refine awp_cond (by simp only [go_sem, reduceIte, Nat.reduceEqDiff, FF, hE] <;> rfl) (fun hc => ?_) (fun hc => ?_)
       · refine awp_rseq (by decide) fun KK hKK => ?_
         refine m_assign ?_
         refine m_assign ?_
         refine hKK _ _ ?_
         clear hKK KK
         refine awp_ret ⟨[_, _], ⟨xp, xp, trivial⟩, ?_⟩
         simp only [go_sem, reduceIte, Nat.reduceEqDiff, FF, tupled]
         rw [winv_empty W hi' hc1 (.inl (by unfold neB; rw [hE]; rfl))]
         exact sub_tup2' (CV.Sub.im0 rfl rfl) (CV.Sub.refl _)
       · cases hc
     | false =>
       have FF := And.intro hE (And.intro w4 FF)
       refine awp_rseq (by decide) fun KK hKK => ?_
       refine m_move ?_
       refine m_bin ?_
       refine m_move ?_
       refine g_move ?_
       refine g_move ?_
       refine g_len ?_
       refine g_bin ?_
       refine g_bin ?_
       refine m_pick ?_
       refine m_assign ?_
       refine hKK _ _ ?_
       clear hKK KK
       refine m_cond (fun hc => ?_) (fun hc => ?_)
       · refine awp_rseq (by decide) fun KK hKK => ?_
         refine m_assign ?_
         refine m_assign ?_
         refine hKK _ _ ?_
         clear hKK KK
         refine awp_ret ⟨[_, _], ⟨xp, xp, trivial⟩, ?_⟩
         simp only [go_sem, reduceIte, Nat.reduceEqDiff, FF, tupled]
         have h0 : (i : Int) = (s.size : Int) - 1 := by simpa using hc
         rw [winv_empty W hi' hc1 (.inr (by omega))]
         exact sub_tup2' (CV.Sub.im0 rfl rfl) (CV.Sub.refl _)
       have h0 : (i : Int) ≠ (s.size : Int) - 1 := by simpa using hc
       clear hc
       refine awp_rseq (by decide) fun KK hKK => ?_
       refine m_move ?_
       refine m_move ?_
       refine m_sliceN ?_
       first | refine m_appOwn ?_ | refine m_appEmp ?_
       refine m_assign ?_
       refine hKK _ _ ?_
       clear hKK KK
       refine awp_rlast (by decide) fun KK hKK => ?_
       refine m_assign ?_
       refine hKK _ _ ?_
       clear hKK KK
       simp only [blockQ_normal, thenQ_normal]
       have FF := And.intro w3 FF
       refine awp_rlast (by decide) fun KK hKK => ?_
       refine m_move ?_
       refine m_bin ?_
       refine m_assign ?_
       refine hKK _ _ ?_
       clear hKK KK
       try rw [thenQ_normal]
       refine ⟨(i + 1, out ++ [word], ⟨#[]⟩), ?_, ?_, (by simp only [List.forall_mem_cons, List.forall_mem_nil, go_sem, reduceIte, Nat.reduceEqDiff, FF, List.length_append, List.length_cons, List.length_nil]; all_goals ((repeat' apply And.intro) <;> first | trivial | rfl | exact objLe_refl _ | (intro _ _; exact Subs.refl _))), ?_⟩
       · exact winv_space W hi' hc1 (by unfold neB; rw [hE]; rfl) (by omega) hl
       · dsimp only
         omega
       · dsimp only
         simp only [List.forall_mem_cons, List.forall_mem_nil, go_sem, reduceIte, Nat.reduceEqDiff, and_true]
         rw [List.length_append]
         exact objLe_rown rfl (wdR_app out [word])
 · refine awp_exit ?_
   simp only [thenQ_exit, blockQ_exit, reduceIte, Nat.reduceEqDiff]
   try rw [thenQ_normal]
   have hi' : i = s.size := by simp only [decide_eq_false_iff_not] at hc; omega
   subst hi'
   have hw := winv_end W
   clear hc
   refine m_join (ι := List ByteArray) (fun o => [(4, .own 100 o.length)]) (fun o => [(100, .row 9 1 o.length (wdR o))]) (fun o => wordsF s = (o, 0)) ?_ ?_
   · refine awp_rseq (by decide) fun KK hKK => ?_
     refine m_move ?_
     refine m_bin ?_
     refine hKK _ _ ?_
     clear hKK KK
     refine m_cond (fun hc => ?_) (fun hc => ?_)
     · have hlen : (out ++ [word]).length = out.length + 1 := by simp
       refine awp_rlast (by decide) fun KK hKK => ?_
       refine m_move ?_
       refine m_move ?_
       refine m_sliceN ?_
       first | refine m_appOwn ?_ | refine m_appEmp ?_
       refine m_assign ?_
       refine hKK _ _ ?_
       clear hKK KK
       have FF := And.intro hlen FF
       try rw [thenQ_normal]
       refine ⟨out ++ [word], ?_, (by simp only [List.forall_mem_cons, List.forall_mem_nil, go_sem, reduceIte, Nat.reduceEqDiff, FF]; all_goals ((repeat' apply And.intro) <;> first | trivial | rfl | exact objLe_refl _ | (intro _ _; exact Subs.refl _))), ?_⟩
       · rw [hw, if_pos (by unfold neB; simpa using hc)]
       · simp only [List.forall_mem_cons, List.forall_mem_nil, go_sem, reduceIte, Nat.reduceEqDiff, and_true]
         rw [List.length_append]
         exact objLe_rown rfl (wdR_app out [word])
     refine awp_skip ?_
     try rw [thenQ_normal]
     refine ⟨out, ?_, (by simp only [List.forall_mem_cons, List.forall_mem_nil, go_sem, reduceIte, Nat.reduceEqDiff, FF]; all_goals ((repeat' apply And.intro) <;> first | trivial | rfl | exact objLe_refl _ | (intro _ _; exact Subs.refl _))), (by simp only [List.forall_mem_cons, List.forall_mem_nil, go_sem, reduceIte, Nat.reduceEqDiff, FF]; all_goals ((repeat' apply And.intro) <;> first | trivial | rfl | exact objLe_refl _ | (intro _ _; exact Subs.refl _)))⟩
     rw [hw, if_neg (by unfold neB; simpa using hc)]
   rintro o ho
   rw [ho]
   refine m_frz 100 [(4, .c (wdL o))] [] ?_
   refine awp_rseq (by decide) fun KK hKK => ?_
   refine m_move ?_
   refine m_assign ?_
   refine m_assign ?_
   refine hKK _ _ ?_
   clear hKK KK
   refine awp_ret ⟨[_, _], ⟨xp, xp, trivial⟩, ?_⟩
   simp only [go_sem, reduceIte, Nat.reduceEqDiff, FF, tupled]
   exact CV.Sub.refl _
end Go.Am
namespace Go.Am
open Go.Proofs
attribute [local go_sem ↓] ofL_cons ofH_cons upd_apply
set_option maxHeartbeats 1000000
set_option linter.unusedSimpArgs false
theorem le_not (x q : ByteArray) : (lessS x q || x.toList == q.toList) = !lessS q x := by
 rw [str_beq]
 cases h : lessS q x with
 | true =>
   rw [lessS_asymm h]
   have : x ≠ q := fun e => by
     rw [e, lessS_irrefl] at h
     cases h
   simp [this]
 | false =>
   cases h2 : lessS x q with
   | true => rfl
   | false => simp [lessS_total h2 h]
variable [Glb]
theorem rcheck_ok (r : Rn) (hl : r.items.length ≤ 9223372036854775807) : APure Tryz.prog 12 [.agg (rnC r)] (.int (checkF r)) := by
 have FF : True := trivial
 refine apure_of Tryz.func12 rfl (by kernel_rfl) (by simp [Tryz.ntmps12]) ?_
 rw [Tryz.ntmps12]
 unfold checkF
 refine awp_rseq (by decide) fun KK hKK => ?_
 refine m_box ?_
 refine m_assign ?_
 refine hKK _ _ ?_
 clear hKK KK
 refine awp_seq ?_
 refine awp_rseq (by decide) fun KK hKK => ?_
 refine m_field ?_
 refine m_load ?_
 refine m_call (fun hG => rname_ok r.name) ?_
 refine m_not ?_
 refine hKK _ _ ?_
 clear hKK KK
 refine m_cond (fun hc => ?_) (fun hc => ?_)
 · rw [if_pos hc]
   refine awp_rseq (by decide) fun KK hKK => ?_
   refine m_assign ?_
   refine hKK _ _ ?_
   clear hKK KK
   refine awp_ret ⟨[_], ⟨xp, trivial⟩, ?_⟩
   simp only [go_sem, reduceIte, Nat.reduceEqDiff, FF, tupled]
   exact CV.Sub.refl _
 rw [if_neg (by rw [hc]; decide)]
 clear hc
 refine awp_skip ?_
 first | rw [thenQ_normal] | rw [blockQ_normal, thenQ_normal]
 refine awp_seq ?_
 refine awp_rseq (by decide) fun KK hKK => ?_
 refine m_field ?_
 refine m_load ?_
 refine m_len ?_
 refine m_bin ?_
 refine hKK _ _ ?_
 clear hKK KK
 refine m_cond (fun hc => ?_) (fun hc => ?_)
 · rw [if_pos (by simpa using hc)]
   refine awp_rseq (by decide) fun KK hKK => ?_
   refine m_assign ?_
   refine hKK _ _ ?_
   clear hKK KK
   refine awp_ret ⟨[_], ⟨xp, trivial⟩, ?_⟩
   simp only [go_sem, reduceIte, Nat.reduceEqDiff, FF, tupled]
   exact CV.Sub.refl _
 rw [if_neg (by simpa using hc)]
 clear hc
 refine awp_skip ?_
 first | rw [thenQ_normal] | rw [blockQ_normal, thenQ_normal]
 refine awp_seq ?_
 refine awp_rseq (by decide) fun KK hKK => ?_
 refine m_assign ?_
 refine hKK _ _ ?_
 clear hKK KK
 refine awp_block ?_
 refine m_for (ι := Nat) (fun i => [(1, .ptr 1 0), (3, .int i)]) (fun i => [(1, .box 24 ((rnC r).map .c))]) (fun i => r.items.length - i) (fun i => i ≤ r.items.length ∧ chkItems (prevI r.items i) (r.items.drop i) = chkItems none r.items) (0) ?_ ?_
 · exact ⟨Nat.zero_le _, rfl⟩
 rintro i ⟨hi, hres⟩
 refine awp_seq ?_
 refine awp_rseq (by decide) fun KK hKK => ?_
 refine m_move ?_
 refine m_field ?_
 refine m_load ?_
 refine m_len ?_
 refine m_bin ?_
 refine hKK _ _ ?_
 clear hKK KK
 refine m_cond (fun hc => ?_) (fun hc => ?_)
 · simp only [decide_eq_true_eq] at hc
   have hi' : i < r.items.length := by omega
   have w3 : IntKind.i64.wrap ((i : Int) + 1) = ((i + 1 : Nat) : Int) := wrap_in (by omega)
   have eK := itL_get hi'
   rw [chk_drop hi'] at hres
   generalize hx : r.items.getD i default = x at *
   refine awp_skip ?_
   first | rw [thenQ_normal] | rw [blockQ_normal, thenQ_normal]
   refine awp_seq (awp_block ?_)
   clear hc
   have FF := And.intro eK FF
   refine awp_rseq (by decide) fun KK hKK => ?_
   refine m_field ?_
   refine m_load ?_
   refine m_move ?_
   first | refine m_index ?_ | refine m_idxA ?_
   refine m_load ?_
   refine m_alloc ?_
   first | refine m_stPtr ?_ | refine m_stRp ?_
   refine hKK _ _ ?_
   clear hKK KK
   refine m_cut [(1, .ptr 1 0), (3, .int i), (4, .ptr 4 0)] [(1, .box 24 ((rnC r).map .c)), (4, .box 47 ((itC x).map .c))] ?_
   refine awp_seq ?_
   refine awp_rseq (by decide) fun KK hKK => ?_
   refine m_field ?_
   refine m_load ?_
   refine m_call (fun hG => rname_ok x.id) ?_
   refine m_not ?_
   refine hKK _ _ ?_
   clear hKK KK
   refine m_cond (fun hc => ?_) (fun hc => ?_)
   · refine awp_rseq (by decide) fun KK hKK => ?_
     refine m_assign ?_
     refine hKK _ _ ?_
     clear hKK KK
     refine awp_ret ⟨[_], ⟨xp, trivial⟩, ?_⟩
     simp only [go_sem, reduceIte, Nat.reduceEqDiff, FF, tupled]
     have e0 : itemE (prevI r.items i) x = 1 := by unfold itemE; rw [if_pos hc]
     rw [← hres, e0]
     exact CV.Sub.refl _
   have hnm := hc
   clear hc
   refine awp_skip ?_
   first | rw [thenQ_normal] | rw [blockQ_normal, thenQ_normal]
   refine m_join (ι := Unit) (fun u => [(1, .ptr 1 0), (3, .int i), (4, .ptr 4 0)]) (fun u => [(1, .box 24 ((rnC r).map .c)), (4, .box 47 ((itC x).map .c))]) (fun u => ordE (prevI r.items i) x.id = false) ?_ ?_
   · cases hE : decide ((0 : Int) < (i : Nat)) with
     | false =>
       have hi0 : i = 0 := by simp only [decide_eq_false_iff_not] at hE; omega
       refine awp_rseq_draw Tryz.mixed (by decide) (by kernel_rfl) fun KK hKK => ?_
       refine st0 rfl (k_move (by simp only [go_sem, reduceIte, Nat.reduceEqDiff, FF, hE] <;> rfl)) ?_
       refine st0 rfl (k_bin (by simp only [go_sem, reduceIte, Nat.reduceEqDiff, FF, hE] <;> rfl) (by simp only [go_sem, reduceIte, Nat.reduceEqDiff, FF, hE] <;> rfl) (by rfl) (by rfl) (by simp only [go_sem, reduceIte, Nat.reduceEqDiff, FF, hE] <;> rfl) (by intro hG; simp only [go_sem])) ?_
       refine st0 rfl (k_move (by simp only [go_sem, reduceIte, Nat.reduceEqDiff, FF, hE] <;> rfl)) ?_
       refine sgF rfl (by simp only [go_sem, reduceIte, Nat.reduceEqDiff, FF, hE] <;> rfl) (by rfl) (by simp only [go_sem, reduceIte, Nat.reduceEqDiff, FF, hE, hE] <;> rfl) ?_
       refine sgF rfl (by simp only [go_sem, reduceIte, Nat.reduceEqDiff, FF, hE] <;> rfl) (by rfl) (by simp only [go_sem, reduceIte, Nat.reduceEqDiff, FF, hE, hE] <;> rfl) ?_
       refine sgF rfl (by simp only [go_sem, reduceIte, Nat.reduceEqDiff, FF, hE] <;> rfl) (by rfl) (by simp only [go_sem, reduceIte, Nat.reduceEqDiff, FF, hE, hE] <;> rfl) ?_
       refine sgF rfl (by simp only [go_sem, reduceIte, Nat.reduceEqDiff, FF, hE] <;> rfl) (by rfl) (by simp only [go_sem, reduceIte, Nat.reduceEqDiff, FF, hE, hE] <;> rfl) ?_
       refine sgF rfl (by simp only [go_sem, reduceIte, Nat.reduceEqDiff, FF, hE] <;> rfl) (by rfl) (by simp only [go_sem, reduceIte, Nat.reduceEqDiff, FF, hE, hE] <;> rfl) ?_
       refine sgF rfl (by simp only [go_sem, reduceIte, Nat.reduceEqDiff, FF, hE] <;> rfl) (by rfl) (by simp only [go_sem, reduceIte, Nat.reduceEqDiff, FF, hE, hE] <;> rfl) ?_
       refine sgF rfl (by simp only [go_sem, reduceIte, Nat.reduceEqDiff, FF, hE] <;> rfl) (by rfl) (by simp only [go_sem, reduceIte, Nat.reduceEqDiff, FF, hE, hE] <;> rfl) ?_
       refine sgF rfl (by simp only [go_sem, reduceIte, Nat.reduceEqDiff, FF, hE] <;> rfl) (by rfl) (by simp only [go_sem, reduceIte, Nat.reduceEqDiff, FF, hE, hE] <;> rfl) ?_
       refine sgF rfl (by simp only [go_sem, reduceIte, Nat.reduceEqDiff, FF, hE] <;> rfl) (by rfl) (by simp only [go_sem, reduceIte, Nat.reduceEqDiff, FF, hE, hE] <;> rfl) ?_
       refine sgF rfl (by simp only [go_sem, reduceIte, Nat.reduceEqDiff, FF, hE] <;> rfl) (by rfl) (by simp only [go_sem, reduceIte, Nat.reduceEqDiff, FF, hE, hE] <;> rfl) ?_
       refine st0 rfl (k_pick (by simp only [go_sem, reduceIte, Nat.reduceEqDiff, FF, hE] <;> rfl) (by simp only [go_sem, reduceIte, Nat.reduceEqDiff, FF, hE] <;> rfl) (by simp only [go_sem, reduceIte, Nat.reduceEqDiff, FF, hE] <;> rfl) (by rfl) (by rfl) (by rfl) (by intro hG; first | (simp only [go_sem, reduceIte, Nat.reduceEqDiff, FF, hE, hE]; done) | (simp [go_sem]; done) | (simp [go_sem] at hG ⊢ <;> simp [hG] <;> (intros; simp_all))) (by first | (simp only [go_sem, reduceIte, Nat.reduceEqDiff, FF, hE] <;> rfl) | rfl)) ?_
       refine hKK _ _ ?_
       clear hKK KK
       refine awp_cond (by simp only [go_sem, reduceIte, Nat.reduceEqDiff, FF, hE] <;> rfl) (fun hc => ?_) (fun hc => ?_)
       · cases hc
       refine awp_skip ?_
       try rw [thenQ_normal]
       refine ⟨(), ?_, (by simp only [List.forall_mem_cons, List.forall_mem_nil, go_sem, reduceIte, Nat.reduceEqDiff, FF]; all_goals ((repeat' apply And.intro) <;> first | trivial | rfl | exact objLe_refl _ | (intro _ _; exact Subs.refl _))), (by simp only [List.forall_mem_cons, List.forall_mem_nil, go_sem, reduceIte, Nat.reduceEqDiff, FF]; all_goals ((repeat' apply And.intro) <;> first | trivial | rfl | exact objLe_refl _ | (intro _ _; exact Subs.refl _)))⟩
       rw [hi0]
       rfl
     | true =>
       obtain ⟨j, rfl⟩ : ∃ j, i = j + 1 := ⟨i - 1, by simp only [decide_eq_true_eq] at hE; omega⟩
       have wP : IntKind.i64.wrap (((j + 1 : Nat) : Int) - 1) = (j : Int) := by rw [wrap_in (by omega)]; omega
       have eP := itL_get (l := r.items) (i := j) (by omega)
       have hp : prevI r.items (j + 1) = some (r.items.getD j default).id := rfl
       rw [hp] at hres ⊢
       generalize r.items.getD j default = y at *
       have FF := And.intro hE (And.intro wP (And.intro eP FF))
       refine awp_rseq_draw Tryz.mixed (by decide) (by kernel_rfl) fun KK hKK => ?_
       refine m_move ?_
       refine m_bin ?_
       refine m_move ?_
       refine g_field ?_
       refine g_load ?_
       refine g_field ?_
       refine g_load ?_
       refine g_move ?_
       refine g_bin ?_
       first | refine g_index ?_ | refine g_idxA ?_
       refine g_field ?_
       refine g_load ?_
       refine g_bin ?_
       refine m_pick ?_
       refine hKK _ _ ?_
       clear hKK KK
       refine m_cond (fun hc => ?_) (fun hc => ?_)
       · rw [lessT, le_not] at hc
         refine awp_rseq (by decide) fun KK hKK => ?_
         refine m_assign ?_
         refine hKK _ _ ?_
         clear hKK KK
         refine awp_ret ⟨[_], ⟨xp, trivial⟩, ?_⟩
         simp only [go_sem, reduceIte, Nat.reduceEqDiff, FF, tupled]
         have e0 : itemE (some y.id) x = 3 := by
           unfold itemE
           rw [hnm, if_neg (by decide)]
           exact if_pos hc
         rw [← hres, e0]
         exact CV.Sub.refl _
       rw [lessT, le_not] at hc
       refine awp_skip ?_
       try rw [thenQ_normal]
       refine ⟨(), ?_, (by simp only [List.forall_mem_cons, List.forall_mem_nil, go_sem, reduceIte, Nat.reduceEqDiff, FF]; all_goals ((repeat' apply And.intro) <;> first | trivial | rfl | exact objLe_refl _ | (intro _ _; exact Subs.refl _))), (by simp only [List.forall_mem_cons, List.forall_mem_nil, go_sem, reduceIte, Nat.reduceEqDiff, FF]; all_goals ((repeat' apply And.intro) <;> first | trivial | rfl | exact objLe_refl _ | (intro _ _; exact Subs.refl _)))⟩
       exact hc
   rintro - hb
   refine awp_rseq (by decide) fun KK hKK => ?_
   refine m_field ?_
   refine m_load ?_
   refine m_call (fun hG => rcounted_ok _) ?_
   refine m_not ?_
   refine m_move ?_
   refine g_field ?_
   refine g_load ?_
   refine g_call (fun hG => rcounted_ok _) ?_
   refine g_not ?_
   refine m_pick ?_
   refine m_move ?_
   refine g_field ?_
   refine g_load ?_
   refine g_call (fun hG => rcounted_ok _) ?_
   refine g_not ?_
   refine m_pick ?_
   refine hKK _ _ ?_
   clear hKK KK
   refine m_cond (fun hc => ?_) (fun hc => ?_)
   · refine awp_rseq (by decide) fun KK hKK => ?_
     refine m_assign ?_
     refine hKK _ _ ?_
     clear hKK KK
     refine awp_ret ⟨[_], ⟨xp, trivial⟩, ?_⟩
     simp only [go_sem, reduceIte, Nat.reduceEqDiff, FF, tupled]
     have e0 : itemE (prevI r.items i) x = 2 := by
       unfold itemE
       rw [hnm, hb, if_neg (by decide), if_neg (by decide), if_pos hc]
     rw [← hres, e0]
     exact CV.Sub.refl _
   refine awp_skip ?_
   first | rw [thenQ_normal] | rw [blockQ_normal, thenQ_normal]
   have e0 : itemE (prevI r.items i) x = 0 := by
     unfold itemE
     rw [hnm, hb, if_neg (by decide), if_neg (by decide), if_neg (by rw [hc]; decide)]
   rw [e0, if_pos rfl] at hres
   have FF := And.intro w3 FF
   refine awp_rlast (by decide) fun KK hKK => ?_
   refine m_move ?_
   refine m_bin ?_
   refine m_assign ?_
   refine hKK _ _ ?_
   clear hKK KK
   try rw [thenQ_normal]
   refine m_next (i + 1) ?_ ?_
   · exact ⟨hi', hres⟩
   · omega
 · refine awp_exit ?_
   simp only [thenQ_exit, blockQ_exit, reduceIte, Nat.reduceEqDiff]
   try rw [thenQ_normal]
   have hi' : i = r.items.length := by simp only [decide_eq_false_iff_not] at hc; omega
   refine awp_rseq (by decide) fun KK hKK => ?_
   refine m_assign ?_
   refine hKK _ _ ?_
   clear hKK KK
   refine awp_ret ⟨[_], ⟨xp, trivial⟩, ?_⟩
   simp only [go_sem, reduceIte, Nat.reduceEqDiff, FF, tupled]
   rw [hi', List.drop_length] at hres
   rw [← hres]
   exact CV.Sub.refl _
end Go.Am
namespace Go.Am
open Go.Proofs
theorem decode_zero {s : ByteArray} (h : (decodeF s).2 ≠ 0) : (decodeF s).1 = rn0 := by
 revert h
 unfold decodeF endF
 split
 · simp
 · split
   · simp
   · split
     · simp
     · split
       · simp
       · split <;> simp
end Go.Am
namespace Go.Am
open Go.Proofs
theorem parse_mono : ∀ (l : List UInt8) (acc u : Nat), Lib.parseUint10 acc l = .ok u → acc ≤ u
 | [], acc, u, h => by
   simp only [Lib.parseUint10] at h
   injection h with h
   omega
 | c :: l, acc, u, h => by
   rw [Lib.parseUint10] at h
   split at h
   · split at h
     · cases h
     · split at h
       · cases h
       · have := parse_mono l _ u h
         omega
   · cases h
theorem acc_parse : ∀ (l : List UInt8) (acc : Nat), acc ≤ 9223372036854775808 → (∀ c ∈ l, isD c = true) → accR l acc = match Lib.parseUint10 acc l with
   | .ok u => if u ≤ 9223372036854775808 then some u else none
   | _ => none
 | [], acc, h, _ => by
   simp only [accR, Lib.parseUint10]
   rw [if_pos h]
 | c :: r, acc, h, hd => by
   have hc := hd c (List.mem_cons_self ..)
   simp only [isD, Bool.and_eq_true, decide_eq_true_eq] at hc
   rw [accR, Lib.parseUint10, if_pos hc]
   by_cases hb : (9223372036854775808 - (c.toNat - 48)) / 10 < acc
   · rw [if_pos hb]
     split
     · rename_i u hu
       split at hu
       · cases hu
       · split at hu
         · cases hu
         · have := parse_mono r _ u hu
           rw [if_neg (by omega)]
     · rfl
   · rw [if_neg hb, if_neg (by omega), if_neg (by omega)]
     exact acc_parse r _ (by omega) fun x hx => hd x (List.mem_cons_of_mem _ hx)
theorem allB_list (l : List UInt8) : allB digitB ⟨l.toArray⟩ (⟨l.toArray⟩ : ByteArray).size = l.all isD := by
 rw [Bool.eq_iff_iff, allB_iff, List.all_eq_true]
 have hsz : (⟨l.toArray⟩ : ByteArray).size = l.length := by simp [ByteArray.size]
 have hb : ∀ i, byteAt ⟨l.toArray⟩ i = ((l[i]?.getD 0).toNat : Int) := fun i => by
   rw [byteAt_list]
 have key : ∀ c : UInt8, digitB ((c.toNat : Nat) : Int) = isD c := fun c => by
   rw [Bool.eq_iff_iff]
   simp only [digitB, isD, Bool.and_eq_true, decide_eq_true_eq]
   omega
 constructor
 · intro h c hc
   obtain ⟨i, hi, rfl⟩ := List.getElem_of_mem hc
   have := h i (by rw [hsz]; exact hi)
   rw [hb, List.getElem?_eq_getElem hi, Option.getD_some, key] at this
   exact this
 · intro h i hi
   rw [hsz] at hi
   rw [hb, List.getElem?_eq_getElem hi, Option.getD_some, key]
   exact h _ (List.getElem_mem hi)
theorem digsOf_neg (r : List UInt8) : digsOf ⟨(45 :: r).toArray⟩ = ⟨r.toArray⟩ := by
 have h1 : byteAt ⟨(45 :: r).toArray⟩ 0 = 45 := byteAt0 45 r
 have h2 : (⟨(45 :: r).toArray⟩ : ByteArray).size = r.length + 1 := by simp [ByteArray.size]
 rw [digsOf, if_pos]
 · refine ba_eq ?_
   rw [ext_list, h2]
   simp
 · rw [h1, h2]
   simp
theorem digsOf_pos {c : UInt8} (r : List UInt8) (h : c ≠ 45) : digsOf ⟨(c :: r).toArray⟩ = ⟨(c :: r).toArray⟩ := by
 have h1 : byteAt ⟨(c :: r).toArray⟩ 0 = c.toNat := byteAt0 c r
 rw [digsOf, if_neg]
 rw [h1]
 intro hc
 rw [Bool.and_eq_true, beq_iff_eq] at hc
 have h45 : (45 : UInt8).toNat = 45 := rfl
 exact h (UInt8.toNat_inj.1 (by have := hc.2; omega))
theorem rnum_eq (b : ByteArray) : rnumB b = numB b := by
 obtain ⟨⟨l⟩⟩ := b
 match l with
 | [] =>
   show rnumB ⟨⟨[]⟩⟩ = numB ⟨⟨[]⟩⟩
   kernel_rfl
 | c :: r =>
   by_cases hc : c = 45
   · subst hc
     match r with
     | [] =>
       show rnumB ⟨⟨[45]⟩⟩ = numB ⟨⟨[45]⟩⟩
       kernel_rfl
     | c :: r =>
       rw [numB_neg]
       show rnumB ⟨(45 :: c :: r).toArray⟩ = _
       unfold rnumB
       rw [digsOf_neg (c :: r), allB_list]
       have e1 : ((⟨(c :: r).toArray⟩ : ByteArray).toList == (⟨#[]⟩ : ByteArray).toList) = false := by simp [Lib.toList_data]
       have e2 : decide ((1 : Int) < (⟨(45 :: c :: r).toArray⟩ : ByteArray).size) = true := by simp [ByteArray.size]; omega
       have e3 : decide (((⟨(c :: r).toArray⟩ : ByteArray).size : Int) < (⟨(45 :: c :: r).toArray⟩ : ByteArray).size) = true := by simp [ByteArray.size]; omega
       have e4 : (byteAt ⟨(c :: r).toArray⟩ 0 == 48) = (c.toNat == 48) := by
         rw [byteAt0, Bool.eq_iff_iff]
         simp
         omega
       rw [e1, e2, e3, e4, Bool.or_true, Bool.and_true, Bool.false_or]
       cases h48 : c.toNat == 48 with
       | true => simp
       | false =>
         cases ha : (c :: r).all isD with
         | false => simp
         | true =>
           have hd := List.all_eq_true.1 ha
           rw [if_neg (by decide), if_neg (by decide), if_neg (by decide), acc_parse (c :: r) 0 (by omega) hd]
           have : (⟨(c :: r).toArray⟩ : ByteArray).data.toList = c :: r := rfl
           cases hp : Lib.parseUint10 0 (c :: r) with
           | ok u =>
             simp only [this, hp]
             by_cases hu : 9223372036854775808 < u
             · rw [if_neg (by omega), if_pos hu]
             · rw [if_pos (by omega), if_neg hu]
               simp
           | _ => simp only [this, hp]
   · cases hd : isD c with
     | false =>
       have h1 : numB ⟨(c :: r).toArray⟩ = (0, 8) := by
         unfold numB
         rw [numSyn_of (s := ⟨(c :: r).toArray⟩) (trimP_pos r hc), if_pos (by simp [hd])]
       show rnumB ⟨(c :: r).toArray⟩ = _
       rw [h1]
       unfold rnumB
       rw [digsOf_pos r hc, allB_list]
       split
       · rfl
       · rw [if_pos (by simp [hd])]
     | true =>
       rw [numB_pos c r hd]
       show rnumB ⟨(c :: r).toArray⟩ = _
       unfold rnumB
       rw [digsOf_pos r hc, allB_list]
       have e1 : ((⟨(c :: r).toArray⟩ : ByteArray).toList == (⟨#[]⟩ : ByteArray).toList) = false := by simp [Lib.toList_data]
       have e2 : decide ((1 : Int) < (⟨(c :: r).toArray⟩ : ByteArray).size) = !(r == []) := by
         cases r <;> simp [ByteArray.size]
         omega
       have e3 : decide (((⟨(c :: r).toArray⟩ : ByteArray).size : Int) < (⟨(c :: r).toArray⟩ : ByteArray).size) = false := by simp
       have e4 : (byteAt ⟨(c :: r).toArray⟩ 0 == 48) = (c.toNat == 48) := by
         rw [byteAt0, Bool.eq_iff_iff]
         simp
         omega
       rw [e1, e2, e3, e4, Bool.or_self, Bool.false_or]
       cases hx : (c.toNat == 48 && !(r == [])) with
       | true => simp
       | false =>
         cases ha : (c :: r).all isD with
         | false => simp
         | true =>
           have hd' := List.all_eq_true.1 ha
           rw [if_neg (by decide), if_neg (by decide), if_neg (by decide), acc_parse (c :: r) 0 (by omega) hd']
           have : (⟨(c :: r).toArray⟩ : ByteArray).data.toList = c :: r := rfl
           cases hp : Lib.parseUint10 0 (c :: r) with
           | ok u =>
             simp only [this, hp]
             by_cases hu : 9223372036854775808 ≤ u
             · rw [if_pos hu]
               by_cases hu2 : u ≤ 9223372036854775808
               · rw [if_pos hu2]
                 simp only [Bool.false_eq_true, if_false]
                 rw [if_pos (by omega)]
               · rw [if_neg hu2]
             · rw [if_neg hu, if_pos (by omega)]
               simp only [Bool.false_eq_true, if_false]
               rw [if_neg (by omega)]
           | _ => simp only [this, hp]
end Go.Am
namespace Go.Am
open Go.Proofs
attribute [local go_sem ↓] ofL_cons ofH_cons upd_apply
set_option maxHeartbeats 2000000
set_option linter.unusedSimpArgs false
def cutB (s : ByteArray) : ByteArray × ByteArray × Bool := match cutL s.data.toList with
 | some (l, r) => (ofB l, ofB r, true)
 | none => (s, ⟨#[]⟩, false)
theorem cutB_at {s : ByteArray} {i : Nat} (hi : i < s.size) (h : byteAt s i = 10) (hn : ∀ k, k < i → s.data.toList[k]? ≠ some 10) : cutB s = (s.extract 0 i, s.extract (i + 1) s.size, true) := by
 obtain ⟨c, h1, h2, _⟩ := byteAt_get s hi
 have hc : c = 10 := UInt8.toNat_inj.1 (by rw [h2] at h; show c.toNat = 10; omega)
 subst hc
 unfold cutB
 rw [cutL_at h1 hn, ext_take, ext_drop]
theorem cutB_no {s : ByteArray} (hn : ∀ k : Nat, s.data.toList[k]? ≠ some 10) : cutB s = (s, ⟨#[]⟩, false) := by
 unfold cutB
 rw [cutL_no hn]
theorem no_next {s : ByteArray} {i : Nat} (hi : i < s.size) (h : byteAt s i ≠ 10) (hn : ∀ k, k < i → s.data.toList[k]? ≠ some 10) : ∀ k, k < i + 1 → s.data.toList[k]? ≠ some 10 := by
 intro k hk
 by_cases e : k = i
 · subst e
   obtain ⟨c, h1, h2, _⟩ := byteAt_get s hi
   rw [h1]
   intro e
   rw [Option.some.injEq] at e
   subst e
   exact h h2
 · exact hn k (by omega)
variable [Glb]
theorem cut_ok (s : ByteArray) (hs : s.size ≤ 1000000000) : APure Tryz.prog 46 [.str s] (.tup [.str (cutB s).1, .str (cutB s).2.1, .bool (cutB s).2.2]) := by
 have FF : True := trivial
 refine apure_of Tryz.func46 rfl (by kernel_rfl) (by simp [Tryz.ntmps46]) ?_
 rw [Tryz.ntmps46]
 refine awp_rseq (by decide) fun KK hKK => ?_
 refine m_assign ?_
 refine m_assign ?_
 refine m_assign ?_
 refine hKK _ _ ?_
 clear hKK KK
 refine awp_seq ?_
 refine awp_rseq (by decide) fun KK hKK => ?_
 refine m_assign ?_
 refine hKK _ _ ?_
 clear hKK KK
 refine awp_block ?_
 refine m_for (ι := Nat) (fun i => [(0, .str s), (5, .int i)]) (fun i => []) (fun i => s.size - i) (fun i => i ≤ s.size ∧ (∀ k, k < i → s.data.toList[k]? ≠ some 10)) (0) ?_ ?_
 · exact ⟨Nat.zero_le _, fun k hk => by omega⟩
 rintro i ⟨hi, hres⟩
 refine awp_seq ?_
 refine awp_rseq (by decide) fun KK hKK => ?_
 refine m_move ?_
 refine m_move ?_
 refine m_len ?_
 refine m_bin ?_
 refine hKK _ _ ?_
 clear hKK KK
 refine m_cond (fun hc => ?_) (fun hc => ?_)
 · simp only [decide_eq_true_eq] at hc
   have hi' : i < s.size := by omega
   have w3 : IntKind.i64.wrap ((i : Int) + 1) = ((i + 1 : Nat) : Int) := wrap_in (by omega)
   refine awp_skip ?_
   first | rw [thenQ_normal] | rw [blockQ_normal, thenQ_normal]
   refine awp_seq (awp_block ?_)
   clear hc
   refine awp_rseq (by decide) fun KK hKK => ?_
   refine m_move ?_
   refine m_move ?_
   refine m_idx ?_
   refine m_bin ?_
   refine hKK _ _ ?_
   clear hKK KK
   refine m_cond (fun hc => ?_) (fun hc => ?_)
   · have FF := And.intro w3 FF
     refine awp_rseq_draw Tryz.mixed (by decide) (by kernel_rfl) fun KK hKK => ?_
     refine m_move ?_
     refine m_move ?_
     first | refine m_slOwn ?_ | refine m_slIm ?_ | refine m_slStr ?_ | refine m_slOsub ?_ | refine m_slEmp ?_
     refine m_move ?_
     refine m_move ?_
     refine m_bin ?_
     first | refine m_slOwn ?_ | refine m_slIm ?_ | refine m_slStr ?_ | refine m_slOsub ?_ | refine m_slEmp ?_
     refine m_assign ?_
     refine m_assign ?_
     refine m_assign ?_
     refine hKK _ _ ?_
     clear hKK KK
     refine awp_ret ⟨[_, _, _], ⟨xp, xp, xp, trivial⟩, ?_⟩
     simp only [go_sem, reduceIte, Nat.reduceEqDiff, FF, tupled]
     rw [cutB_at hi' (by simpa using hc) hres]
     exact CV.Sub.refl _
   refine awp_skip ?_
   first | rw [thenQ_normal] | rw [blockQ_normal, thenQ_normal]
   have FF := And.intro w3 FF
   refine awp_rlast (by decide) fun KK hKK => ?_
   refine m_move ?_
   refine m_bin ?_
   refine m_assign ?_
   refine hKK _ _ ?_
   clear hKK KK
   try rw [thenQ_normal]
   refine m_next (i + 1) ?_ ?_
   · exact ⟨hi', no_next hi' (by simpa using hc) hres⟩
   · omega
 · refine awp_exit ?_
   simp only [thenQ_exit, blockQ_exit, reduceIte, Nat.reduceEqDiff]
   try rw [thenQ_normal]
   have hi' : i = s.size := by simp only [decide_eq_false_iff_not] at hc; omega
   subst hi'
   have hno : ∀ k : Nat, s.data.toList[k]? ≠ some 10 := fun k => by
     by_cases hk : k < s.size
     · exact hres k hk
     · rw [List.getElem?_eq_none (by have : s.size = s.data.toList.length := rfl; omega)]
       exact fun e => by cases e
   refine awp_rseq (by decide) fun KK hKK => ?_
   refine m_move ?_
   refine m_assign ?_
   refine m_assign ?_
   refine m_assign ?_
   refine hKK _ _ ?_
   clear hKK KK
   refine awp_ret ⟨[_, _, _], ⟨xp, xp, xp, trivial⟩, ?_⟩
   simp only [go_sem, reduceIte, Nat.reduceEqDiff, FF, tupled]
   rw [cutB_no hno]
   exact CV.Sub.refl _
theorem ritem_ok (W : List ByteArray) (hW : ∀ w ∈ W, w.size ≤ 1000000000) : APure Tryz.prog 48 [wdL W] (.tup [.agg (itC (if shapeW W then itW W else it0)), .bool (shapeW W && numsW W)]) := by
 have FF : True := trivial
 refine apure_of Tryz.func48 rfl (by kernel_rfl) (by simp [Tryz.ntmps48]) ?_
 rw [Tryz.ntmps48]
 have g := getD_size hW
 refine awp_rseq (by decide) fun KK hKK => ?_
 refine m_alloc ?_
 refine m_assign ?_
 refine hKK _ _ ?_
 clear hKK KK
 refine awp_seq ?_
 by_cases h5 : W.length = 5
 · have i0 := wdL_get (l := W) (i := 0) (by omega)
   have i1 := wdL_get (l := W) (i := 1) (by omega)
   have i2 := wdL_get (l := W) (i := 2) (by omega)
   have i3 := wdL_get (l := W) (i := 3) (by omega)
   have i4 := wdL_get (l := W) (i := 4) (by omega)
   have FF := And.intro i4 FF
   refine awp_rseq (by decide) fun KK hKK => ?_
   refine m_move ?_
   refine m_len ?_
   refine m_bin ?_
   refine m_move ?_
   refine g_move ?_
   first | refine g_index ?_ | refine g_idxA ?_
   refine g_load ?_
   refine g_bin ?_
   refine g_move ?_
   refine g_move ?_
   first | refine g_index ?_ | refine g_idxA ?_
   refine g_load ?_
   refine g_bin ?_
   refine g_pick ?_
   refine m_pick ?_
   refine hKK _ _ ?_
   clear hKK KK
   refine m_cond (fun hc => ?_) (fun hc => ?_)
   · have hs : shapeW W = false := by
       unfold shapeW
       simp only [str_beq, Bool.or_eq_true, Bool.and_eq_true, Bool.not_eq_true', decide_eq_false_iff_not, bne_iff_ne, ne_eq] at hc
       rw [Bool.eq_false_iff]
       intro q
       simp only [Bool.and_eq_true, Bool.or_eq_true, decide_eq_true_eq] at q
       rcases hc with hc | hc
       · omega
       · rcases q.2 with q | q
         · exact hc.1 q
         · exact hc.2 q
     refine awp_rseq (by decide) fun KK hKK => ?_
     first | refine m_build ?_ | refine m_buildA ?_
     first | refine m_stPtr ?_ | refine m_stRp ?_
     refine m_assign ?_
     refine hKK _ _ ?_
     clear hKK KK
     refine awp_ret ⟨[_, _], ⟨xk, xp, trivial⟩, ?_⟩
     simp only [go_sem, reduceIte, Nat.reduceEqDiff, FF, tupled]
     rw [hs]
     exact CV.Sub.refl _
   have hs : shapeW W = true := by
     unfold shapeW
     simp only [str_beq, Bool.or_eq_false_iff, Bool.and_eq_false_iff, Bool.not_eq_false', decide_eq_true_eq] at hc
     simp only [Bool.and_eq_true, Bool.or_eq_true, decide_eq_true_eq]
     exact ⟨h5, hc.2⟩
   rw [hs, if_pos rfl, Bool.true_and]
   clear hc
   refine awp_skip ?_
   first | rw [thenQ_normal] | rw [blockQ_normal, thenQ_normal]
   have FF := And.intro i1 FF
   refine awp_rseq (by decide) fun KK hKK => ?_
   refine m_move ?_
   first | refine m_index ?_ | refine m_idxA ?_
   refine m_load ?_
   refine m_call (fun hG => rnumber_ok _ (g 1)) ?_
   refine m_move ?_
   refine m_extract ?_
   refine m_extract ?_
   refine m_assign ?_
   refine m_assign ?_
   refine hKK _ _ ?_
   clear hKK KK
   have FF := And.intro i2 FF
   refine awp_rseq (by decide) fun KK hKK => ?_
   refine m_move ?_
   first | refine m_index ?_ | refine m_idxA ?_
   refine m_load ?_
   refine m_call (fun hG => rnumber_ok _ (g 2)) ?_
   refine m_move ?_
   refine m_extract ?_
   refine m_extract ?_
   refine m_assign ?_
   refine m_assign ?_
   refine hKK _ _ ?_
   clear hKK KK
   have FF := And.intro i3 FF
   refine awp_rseq (by decide) fun KK hKK => ?_
   refine m_move ?_
   first | refine m_index ?_ | refine m_idxA ?_
   refine m_load ?_
   refine m_call (fun hG => rnumber_ok _ (g 3)) ?_
   refine m_move ?_
   refine m_extract ?_
   refine m_extract ?_
   refine m_assign ?_
   refine m_assign ?_
   refine hKK _ _ ?_
   clear hKK KK
   have FF := And.intro i0 (And.intro i4 FF)
   refine awp_rseq_draw Tryz.mixed (by decide) (by kernel_rfl) fun KK hKK => ?_
   refine m_move ?_
   first | refine m_index ?_ | refine m_idxA ?_
   refine m_load ?_
   refine m_move ?_
   refine m_move ?_
   refine m_move ?_
   refine m_move ?_
   first | refine m_index ?_ | refine m_idxA ?_
   refine m_load ?_
   refine m_bin ?_
   first | refine m_build ?_ | refine m_buildA ?_
   refine m_move ?_
   refine m_bin ?_
   refine m_move ?_
   refine g_move ?_
   refine g_bin ?_
   refine m_pick ?_
   refine m_move ?_
   refine g_move ?_
   refine g_bin ?_
   refine m_pick ?_
   first | refine m_stPtr ?_ | refine m_stRp ?_
   refine m_assign ?_
   refine hKK _ _ ?_
   clear hKK KK
   refine awp_ret ⟨[_, _], ⟨xk, xp, trivial⟩, ?_⟩
   simp only [go_sem, reduceIte, Nat.reduceEqDiff, FF, tupled]
   unfold itW numsW
   rw [rnum_eq, rnum_eq, rnum_eq, str_beq]
   exact CV.Sub.refl _
 · have hb : ((W.length : Int) != 5) = true := by simp only [bne_iff_ne, ne_eq]; omega
   have hs : shapeW W = false := by
     unfold shapeW
     rw [decide_eq_false h5]
     rfl
   refine awp_rseq (by decide) fun KK hKK => ?_
   refine st0 rfl (k_move (by simp only [go_sem, reduceIte, Nat.reduceEqDiff, FF, hb] <;> rfl)) ?_
   refine st1 rfl (k_len (by simp only [go_sem, reduceIte, Nat.reduceEqDiff, FF, hb] <;> rfl) (by intro hG; simp only [go_sem]) (by first | exact nm_im (by simp only [go_sem] <;> rfl) | exact nm_own (by simp only [go_sem] <;> rfl) (by simp only [go_sem, reduceIte, Nat.reduceEqDiff, FF, hb] <;> rfl) (by intro hG; (repeat' apply And.intro) <;> first | rfl | omega | (dsimp only; omega) | (simp; done)) | exact nm_emp (by simp only [go_sem] <;> rfl) | exact nm_osub (by simp only [go_sem] <;> rfl) (by simp only [go_sem, reduceIte, Nat.reduceEqDiff, FF, hb] <;> rfl) (by intro hG; (repeat' apply And.intro) <;> first | rfl | omega | (dsimp only; omega) | (simp; done)) | exact nm_str (by simp only [go_sem] <;> rfl))) ?_
   refine st0 rfl (k_bin (by simp only [go_sem, reduceIte, Nat.reduceEqDiff, FF, hb] <;> rfl) (by simp only [go_sem, reduceIte, Nat.reduceEqDiff, FF, hb] <;> rfl) (by rfl) (by rfl) (by simp only [go_sem, reduceIte, Nat.reduceEqDiff, FF, hb] <;> rfl) (by intro hG; simp only [go_sem])) ?_
   refine st0 rfl (k_move (by simp only [go_sem, reduceIte, Nat.reduceEqDiff, FF, hb] <;> rfl)) ?_
   refine sgF rfl (by simp only [go_sem, reduceIte, Nat.reduceEqDiff, FF, hb] <;> rfl) (by rfl) (by simp only [go_sem, reduceIte, Nat.reduceEqDiff, FF, hb, hb] <;> rfl) ?_
   refine sgF rfl (by simp only [go_sem, reduceIte, Nat.reduceEqDiff, FF, hb] <;> rfl) (by rfl) (by simp only [go_sem, reduceIte, Nat.reduceEqDiff, FF, hb, hb] <;> rfl) ?_
   refine sgF rfl (by simp only [go_sem, reduceIte, Nat.reduceEqDiff, FF, hb] <;> rfl) (by rfl) (by simp only [go_sem, reduceIte, Nat.reduceEqDiff, FF, hb, hb] <;> rfl) ?_
   refine sgF rfl (by simp only [go_sem, reduceIte, Nat.reduceEqDiff, FF, hb] <;> rfl) (by rfl) (by simp only [go_sem, reduceIte, Nat.reduceEqDiff, FF, hb, hb] <;> rfl) ?_
   refine sgF rfl (by simp only [go_sem, reduceIte, Nat.reduceEqDiff, FF, hb] <;> rfl) (by rfl) (by simp only [go_sem, reduceIte, Nat.reduceEqDiff, FF, hb, hb] <;> rfl) ?_
   refine sgF rfl (by simp only [go_sem, reduceIte, Nat.reduceEqDiff, FF, hb] <;> rfl) (by rfl) (by simp only [go_sem, reduceIte, Nat.reduceEqDiff, FF, hb, hb] <;> rfl) ?_
   refine sgF rfl (by simp only [go_sem, reduceIte, Nat.reduceEqDiff, FF, hb] <;> rfl) (by rfl) (by simp only [go_sem, reduceIte, Nat.reduceEqDiff, FF, hb, hb] <;> rfl) ?_
   refine sgF rfl (by simp only [go_sem, reduceIte, Nat.reduceEqDiff, FF, hb] <;> rfl) (by rfl) (by simp only [go_sem, reduceIte, Nat.reduceEqDiff, FF, hb, hb] <;> rfl) ?_
   refine sgF rfl (by simp only [go_sem, reduceIte, Nat.reduceEqDiff, FF, hb] <;> rfl) (by rfl) (by simp only [go_sem, reduceIte, Nat.reduceEqDiff, FF, hb, hb] <;> rfl) ?_
   refine sgF rfl (by simp only [go_sem, reduceIte, Nat.reduceEqDiff, FF, hb] <;> rfl) (by rfl) (by simp only [go_sem, reduceIte, Nat.reduceEqDiff, FF, hb, hb] <;> rfl) ?_
   refine st0 rfl (k_pick (by simp only [go_sem, reduceIte, Nat.reduceEqDiff, FF, hb] <;> rfl) (by simp only [go_sem, reduceIte, Nat.reduceEqDiff, FF, hb] <;> rfl) (by simp only [go_sem, reduceIte, Nat.reduceEqDiff, FF, hb] <;> rfl) (by rfl) (by rfl) (by rfl) (by intro hG; first | (simp only [go_sem, reduceIte, Nat.reduceEqDiff, FF, hb, hb]; done) | (simp [go_sem]; done) | (simp [go_sem] at hG ⊢ <;> simp [hG] <;> (intros; simp_all))) (by first | (simp only [go_sem, reduceIte, Nat.reduceEqDiff, FF, hb] <;> rfl) | rfl)) ?_
   refine hKK _ _ ?_
   clear hKK KK
   refine awp_cond (by simp only [go_sem, reduceIte, Nat.reduceEqDiff, FF, hb] <;> rfl) (fun hc => ?_) (fun hc => ?_)
   · refine awp_rseq (by decide) fun KK hKK => ?_
     first | refine m_build ?_ | refine m_buildA ?_
     first | refine m_stPtr ?_ | refine m_stRp ?_
     refine m_assign ?_
     refine hKK _ _ ?_
     clear hKK KK
     refine awp_ret ⟨[_, _], ⟨xk, xp, trivial⟩, ?_⟩
     simp only [go_sem, reduceIte, Nat.reduceEqDiff, FF, tupled]
     rw [hs]
     exact CV.Sub.refl _
   · cases hc
end Go.Am
namespace Go.Am
open Go.Proofs
attribute [local go_sem ↓] ofL_cons ofH_cons upd_apply
set_option maxHeartbeats 2000000
set_option linter.unusedSimpArgs false
theorem cut_true {t l u : ByteArray} (h : cutB t = (l, u, true)) : cutL t.data.toList = some (l.data.toList, u.data.toList) := by
 unfold cutB at h
 cases hc : cutL t.data.toList with
 | none => rw [hc] at h; cases h
 | some p =>
   rw [hc] at h
   obtain ⟨a, b⟩ := p
   simp only [Prod.mk.injEq, and_true] at h
   obtain ⟨rfl, rfl⟩ := h
   rfl
theorem cut_false {t l u : ByteArray} (h : cutB t = (l, u, false)) : cutL t.data.toList = none := by
 unfold cutB at h
 cases hc : cutL t.data.toList with
 | none => rfl
 | some p => rw [hc] at h; cases h
variable [Glb]
theorem rdecode_ok (s : ByteArray) : APure Tryz.prog 22 [.str s] (.tup [.agg (rnC (decodeF s).1), .int (decodeF s).2]) := by
 have FF : True := trivial
 refine apure_of Tryz.func22 rfl (by kernel_rfl) (by simp [Tryz.ntmps22]) ?_
 rw [Tryz.ntmps22]
 refine awp_rseq (by decide) fun KK hKK => ?_
 refine m_alloc ?_
 refine m_assign ?_
 refine hKK _ _ ?_
 clear hKK KK
 refine awp_seq ?_
 refine awp_rseq (by decide) fun KK hKK => ?_
 refine m_move ?_
 refine m_len ?_
 refine m_bin ?_
 refine hKK _ _ ?_
 clear hKK KK
 refine m_cond (fun hc => ?_) (fun hc => ?_)
 · simp only [decide_eq_true_eq] at hc
   have e0 : decodeF s = (rn0, 7) := by unfold decodeF; rw [if_pos (by omega)]
   rw [e0]
   refine awp_rseq (by decide) fun KK hKK => ?_
   first | refine m_build ?_ | refine m_buildA ?_
   first | refine m_stPtr ?_ | refine m_stRp ?_
   refine m_assign ?_
   refine hKK _ _ ?_
   clear hKK KK
   refine awp_ret ⟨[_, _], ⟨xk, xp, trivial⟩, ?_⟩
   simp only [go_sem, reduceIte, Nat.reduceEqDiff, FF, tupled]
   exact sub_tup2 rn0_sub (CV.Sub.refl _)
 have hsz : s.size ≤ 65536 := by simp only [decide_eq_false_iff_not] at hc; omega
 clear hc
 refine awp_skip ?_
 first | rw [thenQ_normal] | rw [blockQ_normal, thenQ_normal]
 refine awp_seq ?_
 refine awp_rseq (by decide) fun KK hKK => ?_
 refine m_move ?_
 refine m_bin ?_
 refine hKK _ _ ?_
 clear hKK KK
 refine m_cond (fun hc => ?_) (fun hc => ?_)
 · have e0 : decodeF s = (rn0, 9) := d_none (d_start hsz) (by rw [data_nil (empty_size hc)]; rfl) (.inl rfl)
   rw [e0]
   refine awp_rseq (by decide) fun KK hKK => ?_
   first | refine m_build ?_ | refine m_buildA ?_
   first | refine m_stPtr ?_ | refine m_stRp ?_
   refine m_assign ?_
   refine hKK _ _ ?_
   clear hKK KK
   refine awp_ret ⟨[_, _], ⟨xk, xp, trivial⟩, ?_⟩
   simp only [go_sem, reduceIte, Nat.reduceEqDiff, FF, tupled]
   exact sub_tup2 rn0_sub (CV.Sub.refl _)
 have hne := empty_not hc
 clear hc
 refine awp_skip ?_
 first | rw [thenQ_normal] | rw [blockQ_normal, thenQ_normal]
 refine awp_rseq (by decide) fun KK hKK => ?_
 refine m_alloc ?_
 refine hKK _ _ ?_
 clear hKK KK
 refine awp_seq ?_
 refine awp_rseq (by decide) fun KK hKK => ?_
 refine m_assign ?_
 refine hKK _ _ ?_
 clear hKK KK
 refine awp_block ?_
 refine AWp.weak (weak_adoptB 4 1 100 _ _ 47 5 (itR []) (by simp only [go_sem, reduceIte, Nat.reduceEqDiff, FF] <;> rfl) (by rfl) (by simp only [go_sem, reduceIte, Nat.reduceEqDiff, FF])) ?_
 refine m_for (ι := Nat × Rn × ByteArray) (fun p => [(0, .str p.2.2), (2, .ptr 2 0), (4, .ptr 4 0), (5, .int p.1)]) (fun p => [(2, .box 24 [.str ⟨#[]⟩, .emp]), (4, .box 24 [.str p.2.1.name, .own 100 p.2.1.items.length]), (100, .row 47 5 p.2.1.items.length (itR p.2.1.items))]) (fun p => p.2.2.size) (fun p => DInv s (decide (p.1 = 0)) p.2.1 p.2.2 ∧ p.1 + p.2.2.size ≤ 65536) ((0, rn0, s)) ?_ ?_
 · exact ⟨d_start hsz, by dsimp only; omega⟩
 rintro ⟨n, r, t⟩ ⟨H, hnt⟩
 dsimp only at H hnt
 have w3 : IntKind.i64.wrap ((n : Int) + 1) = ((n + 1 : Nat) : Int) := wrap_in (by omega)
 refine awp_seq ?_
 refine awp_rseq (by decide) fun KK hKK => ?_
 refine m_move ?_
 refine m_bin ?_
 refine hKK _ _ ?_
 clear hKK KK
 refine m_cond (fun hc => ?_) (fun hc => ?_)
 · have ht : t.size ≠ 0 := empty_not (by simpa using hc)
   clear hc
   refine awp_skip ?_
   first | rw [thenQ_normal] | rw [blockQ_normal, thenQ_normal]
   refine awp_seq (awp_block ?_)
   refine awp_rseq (by decide) fun KK hKK => ?_
   refine m_move ?_
   refine m_call (fun hG => cut_ok t (by omega)) ?_
   refine m_move ?_
   refine m_extract ?_
   refine m_extract ?_
   refine m_extract ?_
   refine m_assign ?_
   refine m_assign ?_
   refine m_assign ?_
   refine hKK _ _ ?_
   clear hKK KK
   generalize hcb : cutB t = cb
   obtain ⟨l, u, b⟩ := cb
   refine m_cut [(0, .str t), (2, .ptr 2 0), (4, .ptr 4 0), (5, .int n), (6, .str l), (7, .str u), (8, .bool b)] [(2, .box 24 [.str ⟨#[]⟩, .emp]), (4, .box 24 [.str r.name, .own 100 r.items.length]), (100, .row 47 5 r.items.length (itR r.items))] ?_
   refine awp_seq ?_
   refine awp_rseq (by decide) fun KK hKK => ?_
   refine m_move ?_
   refine m_not ?_
   refine hKK _ _ ?_
   clear hKK KK
   refine m_cond (fun hc => ?_) (fun hc => ?_)
   · obtain rfl : b = false := by simpa using hc
     rw [d_none H (cut_false hcb) (.inr ht)]
     refine awp_rseq (by decide) fun KK hKK => ?_
     first | refine m_build ?_ | refine m_buildA ?_
     first | refine m_stPtr ?_ | refine m_stRp ?_
     refine m_assign ?_
     refine hKK _ _ ?_
     clear hKK KK
     refine awp_ret ⟨[_, _], ⟨xk, xp, trivial⟩, ?_⟩
     simp only [go_sem, reduceIte, Nat.reduceEqDiff, FF, tupled]
     exact sub_tup2 rn0_sub (CV.Sub.refl _)
   obtain rfl : b = true := by simpa using hc
   have hcut := cut_true hcb
   have hsz2 := cut_size hcut
   clear hc hcb
   refine awp_skip ?_
   first | rw [thenQ_normal] | rw [blockQ_normal, thenQ_normal]
   refine awp_rseq (by decide) fun KK hKK => ?_
   refine m_move ?_
   refine m_assign ?_
   refine hKK _ _ ?_
   clear hKK KK
   refine awp_rseq (by decide) fun KK hKK => ?_
   refine m_move ?_
   refine m_call (fun hG => rwords_ok l (by omega)) ?_
   refine m_move ?_
   refine m_extract ?_
   refine m_extract ?_
   refine m_assign ?_
   refine m_assign ?_
   refine hKK _ _ ?_
   clear hKK KK
   have hW := words_size l
   have hhead := headF_W l
   have hitem := itemF_B l
   generalize wordsF l = q at *
   obtain ⟨W, e⟩ := q
   dsimp only at hW hhead hitem
   have g := getD_size hW
   refine m_cut [(0, .str u), (2, .ptr 2 0), (4, .ptr 4 0), (5, .int n), (9, .c (wdL W)), (10, .int e)] [(2, .box 24 [.str ⟨#[]⟩, .emp]), (4, .box 24 [.str r.name, .own 100 r.items.length]), (100, .row 47 5 r.items.length (itR r.items))] ?_
   refine awp_seq ?_
   refine awp_rseq (by decide) fun KK hKK => ?_
   refine m_move ?_
   refine m_bin ?_
   refine hKK _ _ ?_
   clear hKK KK
   refine m_cond (fun hc => ?_) (fun hc => ?_)
   · have he : e ≠ 0 := by simpa using hc
     rw [if_neg (fun q => he q.1)] at hhead hitem
     have e0 : decodeF s = (rn0, 8) := by
       cases hn : decide (n = 0) with
       | true => rw [hn] at H; exact d_bad0 H hcut hhead
       | false => rw [hn] at H; exact d_bad1 H hcut hitem
     rw [e0]
     refine awp_rseq (by decide) fun KK hKK => ?_
     first | refine m_build ?_ | refine m_buildA ?_
     first | refine m_stPtr ?_ | refine m_stRp ?_
     refine m_assign ?_
     refine hKK _ _ ?_
     clear hKK KK
     refine awp_ret ⟨[_, _], ⟨xk, xp, trivial⟩, ?_⟩
     simp only [go_sem, reduceIte, Nat.reduceEqDiff, FF, tupled]
     exact sub_tup2 rn0_sub (CV.Sub.refl _)
   obtain rfl : e = 0 := by simpa using hc
   clear hc
   simp only [true_and] at hhead hitem
   refine awp_skip ?_
   first | rw [thenQ_normal] | rw [blockQ_normal, thenQ_normal]
   refine awp_seq ?_
   refine awp_rseq (by decide) fun KK hKK => ?_
   refine m_move ?_
   refine m_bin ?_
   refine hKK _ _ ?_
   clear hKK KK
   refine m_cond (fun hc => ?_) (fun hc => ?_)
   · obtain rfl : n = 0 := by simpa using hc
     clear hc
     refine awp_seq ?_
     by_cases h2 : W.length = 2
     · have i0 := wdL_get (l := W) (i := 0) (by omega)
       have i1 := wdL_get (l := W) (i := 1) (by omega)
       have FF := And.intro i0 FF
       refine awp_rseq (by decide) fun KK hKK => ?_
       refine m_move ?_
       refine m_len ?_
       refine m_bin ?_
       refine m_move ?_
       refine g_move ?_
       first | refine g_index ?_ | refine g_idxA ?_
       refine g_load ?_
       refine g_bin ?_
       refine m_pick ?_
       refine hKK _ _ ?_
       clear hKK KK
       refine m_cond (fun hc => ?_) (fun hc => ?_)
       · have hs : headW W = false := by
           simp only [str_beq] at hc
           unfold headW
           generalize W.getD 0 ⟨#[]⟩ = x at *
           simpa [h2] using hc
         rw [if_neg (by rw [hs]; decide)] at hhead
         rw [d_bad0 H hcut hhead]
         refine awp_rseq (by decide) fun KK hKK => ?_
         first | refine m_build ?_ | refine m_buildA ?_
         first | refine m_stPtr ?_ | refine m_stRp ?_
         refine m_assign ?_
         refine hKK _ _ ?_
         clear hKK KK
         refine awp_ret ⟨[_, _], ⟨xk, xp, trivial⟩, ?_⟩
         simp only [go_sem, reduceIte, Nat.reduceEqDiff, FF, tupled]
         exact sub_tup2 rn0_sub (CV.Sub.refl _)
       have hs : headW W = true := by
         simp only [str_beq] at hc
         unfold headW
         generalize W.getD 0 ⟨#[]⟩ = x at *
         simpa [h2] using hc
       rw [if_pos hs] at hhead
       have hr : r = rn0 := (H.f rfl).2
       have hN := d_next0 H hcut hhead
       clear hc
       subst hr
       refine awp_skip ?_
       first | rw [thenQ_normal] | rw [blockQ_normal, thenQ_normal]
       have FF := And.intro i1 FF
       refine awp_rseq (by decide) fun KK hKK => ?_
       refine m_move ?_
       first | refine m_index ?_ | refine m_idxA ?_
       refine m_load ?_
       refine m_field ?_
       first | refine m_stPtr ?_ | refine m_stRp ?_
       refine hKK _ _ ?_
       clear hKK KK
       refine awp_exit ?_
       simp only [thenQ_exit, blockQ_exit, reduceIte, Nat.reduceEqDiff]
       try rw [thenQ_normal]
       have FF := And.intro w3 FF
       refine awp_rlast (by decide) fun KK hKK => ?_
       refine m_move ?_
       refine m_bin ?_
       refine m_assign ?_
       refine hKK _ _ ?_
       clear hKK KK
       try rw [thenQ_normal]
       refine m_next ((1, ⟨W.getD 1 ⟨#[]⟩, []⟩, u)) ?_ ?_
       · exact ⟨hN, by dsimp only; omega⟩
       · dsimp only
         omega
     · have hb : ((W.length : Int) != 2) = true := by simp only [bne_iff_ne, ne_eq]; omega
       refine awp_rseq (by decide) fun KK hKK => ?_
       refine st0 rfl (k_move (by simp only [go_sem, reduceIte, Nat.reduceEqDiff, FF, hb] <;> rfl)) ?_
       refine st1 rfl (k_len (by simp only [go_sem, reduceIte, Nat.reduceEqDiff, FF, hb] <;> rfl) (by intro hG; simp only [go_sem]) (by first | exact nm_im (by simp only [go_sem] <;> rfl) | exact nm_own (by simp only [go_sem] <;> rfl) (by simp only [go_sem, reduceIte, Nat.reduceEqDiff, FF, hb] <;> rfl) (by intro hG; (repeat' apply And.intro) <;> first | rfl | omega | (dsimp only; omega) | (simp; done)) | exact nm_emp (by simp only [go_sem] <;> rfl) | exact nm_osub (by simp only [go_sem] <;> rfl) (by simp only [go_sem, reduceIte, Nat.reduceEqDiff, FF, hb] <;> rfl) (by intro hG; (repeat' apply And.intro) <;> first | rfl | omega | (dsimp only; omega) | (simp; done)) | exact nm_str (by simp only [go_sem] <;> rfl))) ?_
       refine st0 rfl (k_bin (by simp only [go_sem, reduceIte, Nat.reduceEqDiff, FF, hb] <;> rfl) (by simp only [go_sem, reduceIte, Nat.reduceEqDiff, FF, hb] <;> rfl) (by rfl) (by rfl) (by simp only [go_sem, reduceIte, Nat.reduceEqDiff, FF, hb] <;> rfl) (by intro hG; simp only [go_sem])) ?_
       refine st0 rfl (k_move (by simp only [go_sem, reduceIte, Nat.reduceEqDiff, FF, hb] <;> rfl)) ?_
       refine sgF rfl (by simp only [go_sem, reduceIte, Nat.reduceEqDiff, FF, hb] <;> rfl) (by rfl) (by simp only [go_sem, reduceIte, Nat.reduceEqDiff, FF, hb, hb] <;> rfl) ?_
       refine sgF rfl (by simp only [go_sem, reduceIte, Nat.reduceEqDiff, FF, hb] <;> rfl) (by rfl) (by simp only [go_sem, reduceIte, Nat.reduceEqDiff, FF, hb, hb] <;> rfl) ?_
       refine sgF rfl (by simp only [go_sem, reduceIte, Nat.reduceEqDiff, FF, hb] <;> rfl) (by rfl) (by simp only [go_sem, reduceIte, Nat.reduceEqDiff, FF, hb, hb] <;> rfl) ?_
       refine sgF rfl (by simp only [go_sem, reduceIte, Nat.reduceEqDiff, FF, hb] <;> rfl) (by rfl) (by simp only [go_sem, reduceIte, Nat.reduceEqDiff, FF, hb, hb] <;> rfl) ?_
       refine st0 rfl (k_pick (by simp only [go_sem, reduceIte, Nat.reduceEqDiff, FF, hb] <;> rfl) (by simp only [go_sem, reduceIte, Nat.reduceEqDiff, FF, hb] <;> rfl) (by simp only [go_sem, reduceIte, Nat.reduceEqDiff, FF, hb] <;> rfl) (by rfl) (by rfl) (by rfl) (by intro hG; first | (simp only [go_sem, reduceIte, Nat.reduceEqDiff, FF, hb, hb]; done) | (simp [go_sem]; done) | (simp [go_sem] at hG ⊢ <;> simp [hG] <;> (intros; simp_all))) (by first | (simp only [go_sem, reduceIte, Nat.reduceEqDiff, FF, hb] <;> rfl) | rfl)) ?_
       refine hKK _ _ ?_
       clear hKK KK
       refine awp_cond (by simp only [go_sem, reduceIte, Nat.reduceEqDiff, FF, hb] <;> rfl) (fun hc => ?_) (fun hc => ?_)
       · have hs : headW W = false := by unfold headW; rw [decide_eq_false h2]; rfl
         rw [if_neg (by rw [hs]; decide)] at hhead
         rw [d_bad0 H hcut hhead]
         refine awp_rseq (by decide) fun KK hKK => ?_
         first | refine m_build ?_ | refine m_buildA ?_
         first | refine m_stPtr ?_ | refine m_stRp ?_
         refine m_assign ?_
         refine hKK _ _ ?_
         clear hKK KK
         refine awp_ret ⟨[_, _], ⟨xk, xp, trivial⟩, ?_⟩
         simp only [go_sem, reduceIte, Nat.reduceEqDiff, FF, tupled]
         exact sub_tup2 rn0_sub (CV.Sub.refl _)
       · cases hc
   have hn0 : decide (n = 0) = false := by
     rw [decide_eq_false_iff_not]
     intro q
     subst q
     simp at hc
   rw [hn0] at H
   clear hc
   refine awp_skip ?_
   first | rw [thenQ_normal] | rw [blockQ_normal, thenQ_normal]
   refine awp_rseq (by decide) fun KK hKK => ?_
   refine m_move ?_
   refine m_call (fun hG => ritem_ok W (fun w hw => Nat.le_trans (hW w hw) (by omega))) ?_
   refine m_move ?_
   refine m_extract ?_
   refine m_extract ?_
   refine m_alloc ?_
   first | refine m_stPtr ?_ | refine m_stRp ?_
   refine m_assign ?_
   refine hKK _ _ ?_
   clear hKK KK
   have hle := H.le
   generalize hx : (if shapeW W then itW W else it0) = x
   generalize ho : (shapeW W && numsW W) = o
   refine m_cut [(0, .str u), (2, .ptr 2 0), (4, .ptr 4 0), (5, .int n), (11, .ptr 11 0), (12, .bool o)] [(2, .box 24 [.str ⟨#[]⟩, .emp]), (4, .box 24 [.str r.name, .own 100 r.items.length]), (11, .box 47 ((itC x).map .c)), (100, .row 47 5 r.items.length (itR r.items))] ?_
   refine awp_seq ?_
   refine awp_rseq (by decide) fun KK hKK => ?_
   refine m_move ?_
   refine m_not ?_
   refine hKK _ _ ?_
   clear hKK KK
   refine m_cond (fun hc => ?_) (fun hc => ?_)
   · obtain rfl : o = false := by simpa using hc
     rw [if_neg (fun q => by rw [q.1, q.2] at ho; cases ho)] at hitem
     rw [d_bad1 H hcut hitem]
     refine awp_rseq (by decide) fun KK hKK => ?_
     first | refine m_build ?_ | refine m_buildA ?_
     first | refine m_stPtr ?_ | refine m_stRp ?_
     refine m_assign ?_
     refine hKK _ _ ?_
     clear hKK KK
     refine awp_ret ⟨[_, _], ⟨xk, xp, trivial⟩, ?_⟩
     simp only [go_sem, reduceIte, Nat.reduceEqDiff, FF, tupled]
     exact sub_tup2 rn0_sub (CV.Sub.refl _)
   obtain rfl : o = true := by simpa using hc
   simp only [Bool.and_eq_true] at ho
   rw [if_pos ho] at hitem
   rw [ho.1, if_pos rfl] at hx
   rw [hx] at hitem
   have hN := d_next1 H hcut hitem
   clear hc
   refine awp_skip ?_
   first | rw [thenQ_normal] | rw [blockQ_normal, thenQ_normal]
   refine awp_rlast (by decide) fun KK hKK => ?_
   refine m_field ?_
   refine m_load ?_
   refine m_load ?_
   refine m_sliceN ?_
   first | refine m_appOwn ?_ | refine m_appEmp ?_
   refine m_field ?_
   first | refine m_stPtr ?_ | refine m_stRp ?_
   refine hKK _ _ ?_
   clear hKK KK
   simp only [blockQ_normal, thenQ_normal]
   have FF := And.intro w3 FF
   refine awp_rlast (by decide) fun KK hKK => ?_
   refine m_move ?_
   refine m_bin ?_
   refine m_assign ?_
   refine hKK _ _ ?_
   clear hKK KK
   try rw [thenQ_normal]
   refine ⟨(n + 1, ⟨r.name, r.items ++ [x]⟩, u), ?_, ?_, (by simp only [List.forall_mem_cons, List.forall_mem_nil, go_sem, reduceIte, Nat.reduceEqDiff, FF, List.length_append, List.length_cons, List.length_nil]; all_goals ((repeat' apply And.intro) <;> first | trivial | rfl | exact objLe_refl _ | (intro _ _; exact Subs.refl _))), ?_⟩
   · exact ⟨hN, by dsimp only; omega⟩
   · dsimp only
     omega
   · dsimp only
     simp only [List.forall_mem_cons, List.forall_mem_nil, go_sem, reduceIte, Nat.reduceEqDiff, and_true]
     refine ⟨objLe_refl _, ?_, ?_⟩
     · rw [List.length_append]
       exact objLe_refl _
     · rw [List.length_append]
       exact objLe_rown rfl (itR_app r.items [x])
 · refine awp_exit ?_
   simp only [thenQ_exit, blockQ_exit, reduceIte, Nat.reduceEqDiff]
   try rw [thenQ_normal]
   have ht : t.size = 0 := empty_size (by simpa using hc)
   have hn0 : decide (n = 0) = false := by
     rw [decide_eq_false_iff_not]
     intro q
     subst q
     exact hne (by rw [← (H.f rfl).1]; exact ht)
   rw [hn0] at H
   have hle := H.le
   rw [d_end H ht]
   clear hc
   obtain ⟨name, items⟩ := r
   dsimp only at hle ⊢
   refine m_frz 100 [(2, .ptr 2 0), (4, .ptr 4 0)] [(2, .box 24 [.str ⟨#[]⟩, .emp]), (4, .box 24 [.str name, .c (itL items)])] ?_
   refine awp_rseq (by decide) fun KK hKK => ?_
   refine m_load ?_
   refine m_call (fun hG => rcheck_ok ⟨name, items⟩ (by dsimp only; omega)) ?_
   refine m_assign ?_
   refine hKK _ _ ?_
   clear hKK KK
   refine awp_seq ?_
   refine awp_rseq (by decide) fun KK hKK => ?_
   refine m_move ?_
   refine m_bin ?_
   refine hKK _ _ ?_
   clear hKK KK
   unfold endF
   rw [if_neg (by simp)]
   refine m_cond (fun hc => ?_) (fun hc => ?_)
   · rw [if_pos (by simpa using hc)]
     refine awp_rseq (by decide) fun KK hKK => ?_
     first | refine m_build ?_ | refine m_buildA ?_
     refine m_move ?_
     first | refine m_stPtr ?_ | refine m_stRp ?_
     refine m_assign ?_
     refine hKK _ _ ?_
     clear hKK KK
     refine awp_ret ⟨[_, _], ⟨xk, xp, trivial⟩, ?_⟩
     simp only [go_sem, reduceIte, Nat.reduceEqDiff, FF, tupled]
     exact sub_tup2 rn0_sub (CV.Sub.refl _)
   rw [if_neg (by simpa using hc)]
   refine awp_skip ?_
   first | rw [thenQ_normal] | rw [blockQ_normal, thenQ_normal]
   refine awp_rseq (by decide) fun KK hKK => ?_
   refine m_load ?_
   first | refine m_stPtr ?_ | refine m_stRp ?_
   refine m_assign ?_
   refine hKK _ _ ?_
   clear hKK KK
   refine awp_ret ⟨[_, _], ⟨xk, xp, trivial⟩, ?_⟩
   simp only [go_sem, reduceIte, Nat.reduceEqDiff, FF, tupled]
   exact CV.Sub.refl _
end Go.Am
namespace Go.Am
open Go.Proofs
attribute [local go_sem ↓] ofL_cons ofH_cons upd_apply
set_option maxHeartbeats 4000000
set_option linter.unusedSimpArgs false
theorem decode_len (s : ByteArray) : (decodeF s).1.items.length ≤ 256 := by
 by_cases h : (decodeF s).2 = 0
 · have h0 : decodeF s = ((decodeF s).1, 0) := Prod.ext rfl h
   exact check_len (decode_ok.1 h0).2.2
 · rw [decode_zero h]
   exact Nat.zero_le _
variable [Glb] [NoDr] [Tabs] [TabM]
theorem decodes_ok (s : ByteArray) : APure Tryz.prog 6 [.str s] (.bool true) := by
 have FF : True := trivial
 refine apure_of Tryz.func6 rfl (by kernel_rfl) (by simp [Tryz.ntmps6]) ?_
 rw [Tryz.ntmps6]
 refine awp_rseq (by decide) fun KK hKK => ?_
 refine m_assign ?_
 refine hKK _ _ ?_
 clear hKK KK
 refine awp_seq ?_
 refine awp_rseq (by decide) fun KK hKK => ?_
 refine m_move ?_
 refine m_len ?_
 refine m_bin ?_
 refine m_move ?_
 refine g_move ?_
 refine g_len ?_
 refine g_bin ?_
 refine m_pick ?_
 refine hKK _ _ ?_
 clear hKK KK
 refine m_cond (fun hc => ?_) (fun hc => ?_)
 · refine awp_rseq (by decide) fun KK hKK => ?_
   refine m_call (fun hG => ex_ok) ?_
   refine m_assign ?_
   refine hKK _ _ ?_
   clear hKK KK
   refine awp_ret ⟨[_], ⟨xp, trivial⟩, ?_⟩
   simp only [go_sem, reduceIte, Nat.reduceEqDiff, FF, tupled]
   exact CV.Sub.refl _
 clear hc
 refine awp_skip ?_
 first | rw [thenQ_normal] | rw [blockQ_normal, thenQ_normal]
 refine awp_rseq (by decide) fun KK hKK => ?_
 refine m_move ?_
 refine m_call (fun hG => decode_go s) ?_
 refine m_move ?_
 refine m_extract ?_
 refine m_extract ?_
 refine m_alloc ?_
 first | refine m_stPtr ?_ | refine m_stRp ?_
 refine m_assign ?_
 refine hKK _ _ ?_
 clear hKK KK
 refine awp_rseq (by decide) fun KK hKK => ?_
 refine m_move ?_
 refine m_call (fun hG => rdecode_ok s) ?_
 refine m_move ?_
 refine m_extract ?_
 refine m_extract ?_
 refine m_alloc ?_
 first | refine m_stPtr ?_ | refine m_stRp ?_
 refine m_assign ?_
 refine hKK _ _ ?_
 clear hKK KK
 have hlen := decode_len s
 generalize decodeF s = p at *
 refine awp_rseq (by decide) fun KK hKK => ?_
 refine m_move ?_
 refine m_move ?_
 refine m_bin ?_
 refine m_move ?_
 refine g_load ?_
 refine g_load ?_
 refine g_call (fun hG => rsame_ok p.1 p.1 (by omega)) ?_
 refine m_pick ?_
 refine m_move ?_
 refine g_call (fun hG => ex_ok) ?_
 refine m_pick ?_
 refine m_assign ?_
 refine hKK _ _ ?_
 clear hKK KK
 refine awp_ret ⟨[_], ⟨xp, trivial⟩, ?_⟩
 simp only [go_sem, reduceIte, Nat.reduceEqDiff, FF, tupled]
 refine CV.Sub.of_eq ?_
 simp
end Go.Am
