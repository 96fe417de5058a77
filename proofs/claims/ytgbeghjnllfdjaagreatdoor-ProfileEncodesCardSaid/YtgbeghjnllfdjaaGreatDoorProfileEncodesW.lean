/- The walk of the law ProfileEncodes. No condition. -/
import Derived.Test.YtgbeghjnllfdjaaGreatDoorM2
import Derived.Test.YtgbeghjnllfdjaaGreatDoorM3
import Derived.Test.YtgbeghjnllfdjaaGreatDoorS1
import Derived.Test.YtgbeghjnllfdjaaGreatDoorS2
import Derived.Test.YtgbeghjnllfdjaaGreatDoorT
import Derived.Lib.OthersKept
import Derived.Laws.RangeString
import Derived.Laws.IdiomStrings
set_option linter.unusedVariables false
set_option linter.unusedSimpArgs false
namespace Go.Am
open Go.RowKit
section
variable {P : Program} {s : Slots} {h : AH} {G : Bool} {x : AV}
theorem k_neg {t : TypeId} {y : Operand} {u : AV} {k : IntKind} {n r : Int} (h1 : ev s y = u) (e1 : u.strip = .c (.raw (.int k n))) (hw : G = true → u.wh = true) (hr : k.wrap (0 - n) = r) : aop0 P (.unOp .neg t y) (ev s) G (.c (.raw (.int k r))) := by
 subst h1 hr
 exact ⟨k, n, e1, hw, rfl⟩
theorem k_convert {t t2 : TypeId} {y : Operand} {u : AV} {d : TypeDesc} {k k' : IntKind} {n r : Int} (h1 : ev s y = u) (hd : P.underlying t = some d) (ht : P.underlying t2 = some (.int k)) (e1 : u.strip = .c (.raw (.int k' n))) (hw : G = true → u.wh = true) (hr : k.wrap n = r) :
   aop0 P (.convert t t2 y) (ev s) G (.c (.raw (.int k r))) := by
 subst h1 hr
 exact ⟨k, k', n, ⟨d, hd⟩, ht, e1, hw, rfl⟩
end
attribute [go_sem] List.set_cons_zero List.set_cons_succ frzS_apply frzH_apply frz_c frz_ptr frz_emp frz_own frz_agg frz_box frz_row Bool.and_false Bool.false_and Bool.or_false Bool.false_or Bool.or_true Bool.true_or ofL_nil ofH_nil bndOf AV.one cond_and cond_or List.cons_append List.nil_append List.append_nil bfill partsC AV.closedCells srcOf
attribute [go_sem] ne_eq not_false_eq_true not_true_eq_false true_and and_true forall_const imp_self implies_true Bool.true_and Bool.and_true Bool.false_eq_true false_implies List.getElem?_cons_zero List.getElem?_cons_succ List.drop_zero List.drop_succ_cons
attribute [go_sem] List.length_cons List.length_nil List.headD_cons List.take_succ_cons List.take_zero List.map_cons List.map_nil Nat.add_zero Nat.zero_add List.all_cons List.all_nil Bool.and_self or_self Int.toNat_natCast decide_eq_true_eq List.getElem?_toArray Option.bind_some List.getD_cons_zero List.getD_cons_succ List.toList_toArray
attribute [go_sem] List.mem_cons List.not_mem_nil or_false false_or or_true true_or forall_eq_or_imp forall_eq eq_self and_self
end Go.Am
namespace Go.Am
open Go.RowKit
set_option linter.unusedVariables false
section
variable {P : Program} {ops : Array Oper} {K : Slots → AH → Prop} {r : List Oper} {s : Slots} {h : AH} {d : Nat} {ty : TypeId} {pos : String} {af : Array Edge} {x : AV}
theorem m_neg [Glb] {t : TypeId} {y : Operand} {u : AV} {k : IntKind} {n n2 : Int}  (hn : aRun P ops K r (upd s d (.c (.raw (.int k n2)))) h) (h1 : ev s y = u := by simp only [go_sem, reduceIte, Nat.reduceEqDiff, FF] <;> rfl) (e1 : u.strip = .c (.raw (.int k n)) := by rfl) (hw : true = true → u.wh = true := by intro hG; simp only [go_sem]) (hr : k.wrap (0 - n) = n2 := by first | (simp only [go_sem, reduceIte, Nat.reduceEqDiff, FF] <;> rfl) | rfl) : aRun P ops K (⟨some d, .unOp .neg t y, ty, pos, af, none⟩ :: r) s h := st0 rfl (k_neg h1 e1 hw hr) hn
theorem m_convert [Glb] {t t2 : TypeId} {y : Operand} {u : AV} {d0 : TypeDesc} {k k' : IntKind} {n n2 : Int}  (hn : aRun P ops K r (upd s d (.c (.raw (.int k n2)))) h) (h1 : ev s y = u := by simp only [go_sem, reduceIte, Nat.reduceEqDiff, FF] <;> rfl) (hd : P.underlying t = some d0 := by simp only [go_sem] <;> rfl) (ht1 : P.underlying t2 = some (.int k) := by simp only [go_sem] <;> rfl) (e1 : u.strip = .c (.raw (.int k' n)) := by rfl) (hw : true = true → u.wh = true := by intro hG; simp only [go_sem]) (hr : k.wrap n = n2 := by first | (simp only [go_sem, reduceIte, Nat.reduceEqDiff, FF] <;> rfl) | rfl) : aRun P ops K (⟨some d, .convert t t2 y, ty, pos, af, none⟩ :: r) s h := st0 rfl (k_convert h1 hd ht1 e1 hw hr) hn
end
section
variable {P : Program} {nt : Nat} {fo : List Nat} {Q : APost} {s : Slots} {h : AH} {c : Code}
end
end Go.Am
namespace Go.Am
open Go.RowKit
set_option linter.unusedVariables false
section
variable {P : Program} {nt : Nat} {fo : List Nat} {s : Slots} {h : AH} {Q : APost} {ops : Array Oper} {l : List Oper}
theorem awpl_b2s [Glb] {d : Tmp} {t u e ty : TypeId} {y : Operand} {pos : String} {af : Array Edge} {n : Nat} {f : Nat → List CV} {str : ByteArray} (hy : ev s y = .c (.im 1 n f)) (h0 : 0 < n) (hn' : str.size = n) (hf : ∀ i, i < n → f i = strRow str i) (ht : P.underlying t = some (.slice e)) (he : P.underlying e = some (.int .u8)) (hu : P.underlying u = some .string) (hd : d < nt)
   (hn : AWpL P nt fo ops l Q (upd s d (.c (.raw (.string str)))) h) : AWpL P nt fo ops (⟨some d, .convert t u y, ty, pos, af, none⟩ :: l) Q s h := by
 intro E a w I ⟨gs, R⟩
 have hv := ev_ok R y
 rw [hy] at hv
 unfold wpList
 rw [if_pos (by simp [Region.wanted])]
 refine .inl ?_
 unfold Oper.wp
 have hr : (execOp a.eval ⟨some d, .convert t u y, ty, pos, af, none⟩).run P w = .ok (.value (.string str)) w := by
   generalize hv0 : a.eval y = v at hv
   cases hv with
   | c _ _ hx =>
     cases hx with
     | nul => omega
     | im ad _ c _ _ g hb hlt hnc hc ho hf' hh =>
       have hlen : str.data.toList.length = n := hn'
       have := run_convert_bytes_back (P := P) w t u e ad c str.data.toList ht he hu (fun j hj => by
         have hjn : j < n := by rw [← hlen]; exact hj
         have h1 := hh j 0 hjn (by decide)
         rw [hf j hjn] at h1
         simp only [Nat.mul_one, Nat.add_zero, strRow, List.getD_cons_zero] at h1
         have h2 : g j = (Lib.strCells str).getD j undef := h1.raw_inv
         rw [hc j (by omega), h2]
         rw [getD_lt (by rw [Lib.strCells_length, hn']; exact hjn)]
         simp [Lib.strCells])
       rw [hlen] at this
       simp [execOp, hv0, this]
 rw [hr]
 exact hn E _ _ I ⟨_, RelG.put R hd (.c _ _ (.raw _))⟩
end
section
variable {P : Program} {ops : Array Oper} {K : Slots → AH → Prop} {r : List Oper} {s : Slots} {h : AH} {d : Nat} {ty : TypeId} {pos : String} {af : Array Edge} {x : AV}
end
end Go.Am
namespace Go.Am
theorem less_irrefl : ∀ l : List UInt8, Op.bytesLess l l = false
 | [] => rfl
 | c :: l => by simp [Op.bytesLess, less_irrefl l]
theorem less_total : ∀ a b : List UInt8, Op.bytesLess a b = false → Op.bytesLess b a = false → a = b
 | [], [], _, _ => rfl
 | [], _ :: _, h, _ => by simp [Op.bytesLess] at h
 | _ :: _, [], _, h => by simp [Op.bytesLess] at h
 | c :: a, d :: b, h1, h2 => by
   simp only [Op.bytesLess] at h1 h2
   by_cases e : c = d
   · subst e
     simp at h1 h2
     rw [less_total a b h1 h2]
   · exfalso
     by_cases hlt : c < d
     · simp [hlt] at h1
     · have : d < c := by
         rcases UInt8.lt_or_lt_of_ne e with h | h
         · exact absurd h hlt
         · exact h
       simp [this] at h2
theorem lessS_total {a b : ByteArray} (h1 : lessS a b = false) (h2 : lessS b a = false) : a = b := by
 obtain ⟨⟨x⟩⟩ := a
 obtain ⟨⟨y⟩⟩ := b
 have := less_total x y h1 h2
 rw [this]
theorem lessS_irrefl (a : ByteArray) : lessS a a = false := less_irrefl _
theorem less_asymm : ∀ a b : List UInt8, Op.bytesLess a b = true → Op.bytesLess b a = false
 | [], [], h => by simp [Op.bytesLess] at h
 | [], _ :: _, _ => by simp [Op.bytesLess]
 | _ :: _, [], h => by simp [Op.bytesLess] at h
 | c :: a, d :: b, h => by
   simp only [Op.bytesLess, Bool.or_eq_true, decide_eq_true_eq, Bool.and_eq_true, beq_iff_eq] at h
   simp only [Op.bytesLess, Bool.or_eq_false_iff, decide_eq_false_iff_not, Bool.and_eq_false_iff]
   rcases h with h | ⟨rfl, h⟩
   · refine ⟨fun h2 => ?_, .inl ?_⟩
     · exact absurd (UInt8.lt_trans h h2) (UInt8.lt_irrefl _)
     · simp only [beq_eq_false_iff_ne, ne_eq]
       intro e
       subst e
       exact absurd h (UInt8.lt_irrefl _)
   · exact ⟨UInt8.lt_irrefl _, .inr (less_asymm a b h)⟩
theorem lessS_asymm {a b : ByteArray} (h : lessS a b = true) : lessS b a = false := less_asymm _ _ h
end Go.Am
namespace Go.Am
open Go.Proofs
attribute [local go_sem ↓] ofL_cons ofH_cons upd_apply
set_option maxHeartbeats 2000000
set_option linter.unusedSimpArgs false
def digs (u : Nat) : List UInt8 := if u = 0 then [] else Lib.decDigits u
theorem digs_step {u : Nat} (h : 0 < u) : digs u = digs (u / 10) ++ [UInt8.ofNat (48 + u % 10)] := by
 unfold digs
 rw [if_neg (by omega)]
 by_cases h1 : u < 10
 · rw [if_pos (by omega), Lib.decDigits_one h1, Nat.mod_eq_of_lt h1]; rfl
 · rw [if_neg (by omega), Lib.decDigits, dif_neg h1]
theorem Tryz.undBytes : Tryz.prog.underlying 83 = some (.slice 5) := by kernel_rfl
theorem Tryz.undU8 : Tryz.prog.underlying 5 = some (.int .u8) := by kernel_rfl
variable [Glb]
theorem rdec_ok {n : Int} (h : inI n) : APure Tryz.prog 41 [.int n] (.str (decB n)) := by
 obtain ⟨h0, h1⟩ := h
 have FF : True := trivial
 refine apure_of Tryz.func41 rfl (by kernel_rfl) (by simp [Tryz.ntmps41]) ?_
 rw [Tryz.ntmps41]
 refine awp_rseq (by decide) fun KK hKK => ?_
 refine m_assign ?_
 refine hKK _ _ ?_
 clear hKK KK
 refine awp_seq ?_
 refine awp_rseq (by decide) fun KK hKK => ?_
 refine m_move ?_
 refine m_bin ?_
 refine hKK _ _ ?_
 clear hKK KK
 refine m_cond (fun hc => ?_) (fun hc => ?_)
 · refine awp_rseq (by decide) fun KK hKK => ?_
   refine m_assign ?_
   refine hKK _ _ ?_
   clear hKK KK
   refine awp_ret ⟨[_], ⟨⟨(by simp only [go_sem, reduceIte, Nat.reduceEqDiff, FF]), (by simp only [go_sem, reduceIte, Nat.reduceEqDiff, FF] <;> rfl)⟩, trivial⟩, ?_⟩
   simp only [go_sem, reduceIte, Nat.reduceEqDiff, FF, tupled]
   have : n = 0 := by simpa using hc
   subst this
   have e0 : decB 0 = ⟨#[48]⟩ := by
     unfold decB Lib.itoa
     rw [if_neg (by decide), Lib.decDigits_one (by decide)]
     rfl
   exact CV.Sub.of_eq (by rw [e0])
 refine awp_skip ?_
 first | rw [thenQ_normal] | rw [blockQ_normal, thenQ_normal]
 have hn0 : n ≠ 0 := by simpa using hc
 clear hc
 refine awp_rseq (by decide) fun KK hKK => ?_
 refine m_move ?_
 refine m_convert ?_
 refine m_assign ?_
 refine hKK _ _ ?_
 clear hKK KK
 refine m_join (ι := Nat) (fun U => [(0, .int n), (3, .c (.raw (.int .u64 U)))]) (fun U => []) (fun U => U = n.natAbs) ?_ ?_
 · refine awp_rseq (by decide) fun KK hKK => ?_
   refine m_move ?_
   refine m_bin ?_
   refine hKK _ _ ?_
   clear hKK KK
   refine m_cond (fun hc => ?_) (fun hc => ?_)
   · have hlt : n < 0 := by simpa using hc
     clear hc
     have w0 : IntKind.u64.wrap (0 - IntKind.u64.wrap n) = (n.natAbs : Int) := by
       rw [IntKind.wrap_u64, IntKind.wrap_u64]
       omega
     have FF := And.intro w0 FF
     refine awp_rlast (by decide) fun KK hKK => ?_
     refine m_move ?_
     refine m_neg ?_
     refine m_assign ?_
     refine hKK _ _ ?_
     clear hKK KK
     try rw [thenQ_normal]
     refine ⟨n.natAbs, ?_, (by simp only [List.forall_mem_cons, List.forall_mem_nil, go_sem, reduceIte, Nat.reduceEqDiff, FF]; all_goals ((repeat' apply And.intro) <;> first | trivial | rfl | exact objLe_refl _ | (intro _ _; exact Subs.refl _))), (by simp only [List.forall_mem_cons, List.forall_mem_nil, go_sem, reduceIte, Nat.reduceEqDiff, FF]; all_goals ((repeat' apply And.intro) <;> first | trivial | rfl | exact objLe_refl _ | (intro _ _; exact Subs.refl _)))⟩
     rfl
   · have hlt : ¬ n < 0 := by simpa using hc
     have w0 : IntKind.u64.wrap n = (n.natAbs : Int) := by
       rw [IntKind.wrap_u64]
       omega
     refine awp_skip ?_
     have FF := And.intro w0 FF
     try rw [thenQ_normal]
     refine ⟨n.natAbs, ?_, (by simp only [List.forall_mem_cons, List.forall_mem_nil, go_sem, reduceIte, Nat.reduceEqDiff, FF]; all_goals ((repeat' apply And.intro) <;> first | trivial | rfl | exact objLe_refl _ | (intro _ _; exact Subs.refl _))), (by simp only [List.forall_mem_cons, List.forall_mem_nil, go_sem, reduceIte, Nat.reduceEqDiff, FF]; all_goals ((repeat' apply And.intro) <;> first | trivial | rfl | exact objLe_refl _ | (intro _ _; exact Subs.refl _)))⟩
     rfl
 rintro U hU
 have hU64 : U < 18446744073709551616 := by omega
 have hU0 : 0 < U := by omega
 have hdU : (digs U).length ≤ 20 := by
   unfold digs
   rw [if_neg (by omega)]
   exact decD_len 19 U (by omega)
 refine awp_rseq (by decide) fun KK hKK => ?_
 refine m_assign ?_
 refine hKK _ _ ?_
 clear hKK KK
 refine m_join (ι := ByteArray) (fun A => [(0, .int n), (4, .str A)]) (fun A => []) (fun A => A.data.toList = digs U) ?_ ?_
 · refine awp_block ?_
   refine m_for (ι := Nat × ByteArray) (fun p => [(0, .int n), (3, .c (.raw (.int .u64 p.1))), (4, .str p.2)]) (fun p => []) (fun p => p.1) (fun p => p.1 ≤ U ∧ digs p.1 ++ p.2.data.toList = digs U) ((U, ⟨#[]⟩)) ?_ ?_
   · exact ⟨Nat.le_refl _, by simp⟩
   rintro ⟨u, A⟩ ⟨hu, hA⟩
   dsimp only at hu hA
   have hAs : A.size ≤ 20 := by
     have h2 : A.size = A.data.toList.length := rfl
     have h3 := congrArg List.length hA
     rw [List.length_append] at h3
     omega
   refine awp_seq ?_
   refine awp_rseq (by decide) fun KK hKK => ?_
   refine m_move ?_
   refine m_bin ?_
   refine hKK _ _ ?_
   clear hKK KK
   refine m_cond (fun hc => ?_) (fun hc => ?_)
   · have hu0 : 0 < u := by simpa using hc
     clear hc
     obtain ⟨D, hD⟩ : ∃ D : ByteArray, D = ⟨#[UInt8.ofNat (48 + u % 10)]⟩ := ⟨_, rfl⟩
     have hDs : D.size = 1 := by rw [hD]; rfl
     have w0 : ((10 : Int) = 0) = False := by simp
     have w1 : IntKind.u64.wrap (48 + (u : Int).tmod 10) = ((48 + u % 10 : Nat) : Int) := by
       rw [IntKind.wrap_u64, Int.tmod_eq_emod_of_nonneg (by omega)]
       omega
     have w2 : IntKind.u8.wrap ((48 + u % 10 : Nat) : Int) = ((48 + u % 10 : Nat) : Int) := by
       rw [IntKind.wrap_u8]
       omega
     have w3 : IntKind.u64.wrap ((u : Int).tdiv 10) = ((u / 10 : Nat) : Int) := by
       rw [IntKind.wrap_u64, Int.tdiv_eq_ediv_of_nonneg (by omega)]
       omega
     have w4 : D.size + A.size ≤ 9223372036854775807 := by omega
     have hrow : ∀ i, i < 1 → [[CV.raw (.int .u8 ((48 + u % 10 : Nat) : Int))]].getD i [] = strRow D i := fun i hi => by
       match i, hi with
       | 0, _ =>
         subst hD
         simp [strRow, Lib.strCells]
         omega
     refine awp_skip ?_
     first | rw [thenQ_normal] | rw [blockQ_normal, thenQ_normal]
     refine awp_block ?_
     have FF := And.intro w0 (And.intro w1 (And.intro w2 (And.intro w4 FF)))
     refine awp_seqL ?_
     refine awpl_op (by rfl) (by rfl) ?_
     refine m_move ?_
     refine run_nil ?_
     refine awpl_op (by rfl) (by rfl) ?_
     refine m_bin ?_
     refine run_nil ?_
     refine awpl_op (by rfl) (by rfl) ?_
     refine m_bin ?_
     refine run_nil ?_
     refine awpl_op (by rfl) (by rfl) ?_
     refine m_convert ?_
     refine run_nil ?_
     refine awpl_op (by rfl) (by rfl) ?_
     refine m_sliceN ?_
     refine run_nil ?_
     refine awpl_b2s (str := D) (by simp only [go_sem, reduceIte, Nat.reduceEqDiff, FF] <;> rfl) (by decide) hDs hrow Tryz.undBytes Tryz.undU8 Tryz.undStr (by decide) ?_
     refine awpl_op (by rfl) (by rfl) ?_
     refine m_move ?_
     refine run_nil ?_
     refine awpl_op (by rfl) (by rfl) ?_
     refine m_bin ?_
     refine run_nil ?_
     refine awpl_op (by rfl) (by rfl) ?_
     refine m_assign ?_
     refine run_nil ?_
     refine awpl_end ?_
     rw [thenQ_normal]
     have FF := And.intro w0 (And.intro w3 FF)
     refine awp_rlast (by decide) fun KK hKK => ?_
     refine m_move ?_
     refine m_bin ?_
     refine m_assign ?_
     refine hKK _ _ ?_
     clear hKK KK
     rw [blockQ_normal]
     have hdl : (D ++ A).data.toList = UInt8.ofNat (48 + u % 10) :: A.data.toList := by rw [hD]; simp
     try rw [thenQ_normal]
     refine m_next ((u / 10, D ++ A)) ?_ ?_
     · refine ⟨by dsimp only; omega, ?_⟩
       dsimp only
       rw [hdl, ← hA, digs_step hu0, List.append_assoc]
       rfl
     · dsimp only; omega
   · refine awp_exit ?_
     simp only [thenQ_exit, blockQ_exit, reduceIte, Nat.reduceEqDiff]
     try rw [thenQ_normal]
     have hu0 : u = 0 := by
       have : ¬ 0 < u := by simpa using hc
       omega
     try rw [thenQ_normal]
     refine ⟨A, ?_, (by simp only [List.forall_mem_cons, List.forall_mem_nil, go_sem, reduceIte, Nat.reduceEqDiff, FF]; all_goals ((repeat' apply And.intro) <;> first | trivial | rfl | exact objLe_refl _ | (intro _ _; exact Subs.refl _))), (by simp only [List.forall_mem_cons, List.forall_mem_nil, go_sem, reduceIte, Nat.reduceEqDiff, FF]; all_goals ((repeat' apply And.intro) <;> first | trivial | rfl | exact objLe_refl _ | (intro _ _; exact Subs.refl _)))⟩
     rw [hu0] at hA
     exact hA
 rintro A hA
 refine awp_seq ?_
 refine awp_rseq (by decide) fun KK hKK => ?_
 refine m_move ?_
 refine m_bin ?_
 refine hKK _ _ ?_
 clear hKK KK
 refine m_cond (fun hc => ?_) (fun hc => ?_)
 · have hlt : n < 0 := by simpa using hc
   have w5 : #[(45 : UInt8)].size + A.size ≤ 9223372036854775807 := by
     have h2 : A.size = A.data.toList.length := rfl
     have h3 : #[(45 : UInt8)].size = 1 := rfl
     rw [hA] at h2
     omega
   have FF := And.intro w5 FF
   refine awp_rseq (by decide) fun KK hKK => ?_
   refine m_move ?_
   refine m_bin ?_
   refine m_assign ?_
   refine hKK _ _ ?_
   clear hKK KK
   refine awp_ret ⟨[_], ⟨⟨(by simp only [go_sem, reduceIte, Nat.reduceEqDiff, FF]), (by simp only [go_sem, reduceIte, Nat.reduceEqDiff, FF] <;> rfl)⟩, trivial⟩, ?_⟩
   simp only [go_sem, reduceIte, Nat.reduceEqDiff, FF, tupled]
   have e0 : decB n = ⟨#[45]⟩ ++ A := by
     apply ba_ext
     unfold decB Lib.itoa
     rw [if_pos hlt, ← hU]
     unfold digs at hA
     rw [if_neg (by omega)] at hA
     simp [hA]
   exact CV.Sub.of_eq (by rw [e0])
 · have hlt : ¬ n < 0 := by simpa using hc
   refine awp_skip ?_
   first | rw [thenQ_normal] | rw [blockQ_normal, thenQ_normal]
   refine awp_rseq (by decide) fun KK hKK => ?_
   refine m_move ?_
   refine m_assign ?_
   refine hKK _ _ ?_
   clear hKK KK
   refine awp_ret ⟨[_], ⟨⟨(by simp only [go_sem, reduceIte, Nat.reduceEqDiff, FF]), (by simp only [go_sem, reduceIte, Nat.reduceEqDiff, FF] <;> rfl)⟩, trivial⟩, ?_⟩
   simp only [go_sem, reduceIte, Nat.reduceEqDiff, FF, tupled]
   have e0 : decB n = A := by
     apply ba_ext
     unfold decB Lib.itoa
     rw [if_neg hlt, show n.toNat = U by omega]
     unfold digs at hA
     rw [if_neg (by omega)] at hA
     simp [hA]
   exact CV.Sub.of_eq (by rw [e0])
end Go.Am
namespace Go.Am
open Go.Proofs
attribute [local go_sem ↓] ofL_cons ofH_cons upd_apply
set_option maxHeartbeats 1000000
set_option linter.unusedSimpArgs false
variable [Glb]
theorem digit_ok (c : Int) : APure Tryz.prog 100 [.raw (.int .u8 c)] (.bool (digitB c)) := by
 have FF : True := trivial
 refine apure_of Tryz.func100 rfl (by kernel_rfl) (by simp [Tryz.ntmps100]) ?_
 rw [Tryz.ntmps100]
 refine awp_rseq (by decide) fun KK hKK => ?_
 refine m_assign ?_
 refine hKK _ _ ?_
 clear hKK KK
 refine awp_rseq (by decide) fun KK hKK => ?_
 refine m_move ?_
 refine m_bin ?_
 refine m_move ?_
 refine g_move ?_
 refine g_bin ?_
 refine m_pick ?_
 refine m_assign ?_
 refine hKK _ _ ?_
 clear hKK KK
 refine awp_ret ⟨[_], ⟨⟨(by simp only [go_sem, reduceIte, Nat.reduceEqDiff, FF]), (by simp only [go_sem, reduceIte, Nat.reduceEqDiff, FF] <;> rfl)⟩, trivial⟩, ?_⟩
 simp only [go_sem, reduceIte, Nat.reduceEqDiff, FF, tupled]
 exact CV.Sub.refl _
theorem lower_ok (c : Int) : APure Tryz.prog 201 [.raw (.int .u8 c)] (.bool (lowerB c)) := by
 have FF : True := trivial
 refine apure_of Tryz.func201 rfl (by kernel_rfl) (by simp [Tryz.ntmps201]) ?_
 rw [Tryz.ntmps201]
 refine awp_rseq (by decide) fun KK hKK => ?_
 refine m_assign ?_
 refine hKK _ _ ?_
 clear hKK KK
 refine awp_rseq (by decide) fun KK hKK => ?_
 refine m_move ?_
 refine m_bin ?_
 refine m_move ?_
 refine g_move ?_
 refine g_bin ?_
 refine m_pick ?_
 refine m_assign ?_
 refine hKK _ _ ?_
 clear hKK KK
 refine awp_ret ⟨[_], ⟨⟨(by simp only [go_sem, reduceIte, Nat.reduceEqDiff, FF]), (by simp only [go_sem, reduceIte, Nat.reduceEqDiff, FF] <;> rfl)⟩, trivial⟩, ?_⟩
 simp only [go_sem, reduceIte, Nat.reduceEqDiff, FF, tupled]
 exact CV.Sub.refl _
theorem upper_ok (c : Int) : APure Tryz.prog 200 [.raw (.int .u8 c)] (.bool (upperB c)) := by
 have FF : True := trivial
 refine apure_of Tryz.func200 rfl (by kernel_rfl) (by simp [Tryz.ntmps200]) ?_
 rw [Tryz.ntmps200]
 refine awp_rseq (by decide) fun KK hKK => ?_
 refine m_assign ?_
 refine hKK _ _ ?_
 clear hKK KK
 refine awp_rseq (by decide) fun KK hKK => ?_
 refine m_move ?_
 refine m_bin ?_
 refine m_move ?_
 refine g_move ?_
 refine g_bin ?_
 refine m_pick ?_
 refine m_assign ?_
 refine hKK _ _ ?_
 clear hKK KK
 refine awp_ret ⟨[_], ⟨⟨(by simp only [go_sem, reduceIte, Nat.reduceEqDiff, FF]), (by simp only [go_sem, reduceIte, Nat.reduceEqDiff, FF] <;> rfl)⟩, trivial⟩, ?_⟩
 simp only [go_sem, reduceIte, Nat.reduceEqDiff, FF, tupled]
 exact CV.Sub.refl _
theorem part_ok (c : Int) (big : Bool) : APure Tryz.prog 101 [.raw (.int .u8 c), .bool big] (.bool (partB c big)) := by
 have FF : True := trivial
 refine apure_of Tryz.func101 rfl (by kernel_rfl) (by simp [Tryz.ntmps101]) ?_
 rw [Tryz.ntmps101]
 cases big
 · refine awp_rseq (by decide) fun KK hKK => ?_
   refine m_assign ?_
   refine hKK _ _ ?_
   clear hKK KK
   refine awp_rseq (by decide) fun KK hKK => ?_
   refine m_move ?_
   refine m_call (fun hG => digit_ok c) ?_
   refine m_move ?_
   refine g_move ?_
   refine g_bin ?_
   refine m_pick ?_
   refine m_move ?_
   refine g_move ?_
   refine g_move ?_
   refine g_move ?_
   refine g_call (fun hG => upper_ok c) ?_
   refine g_pick ?_
   refine m_pick ?_
   refine m_move ?_
   refine g_move ?_
   refine g_not ?_
   refine g_move ?_
   refine g_move ?_
   refine g_call (fun hG => lower_ok c) ?_
   refine g_pick ?_
   refine m_pick ?_
   refine m_assign ?_
   refine hKK _ _ ?_
   clear hKK KK
   refine awp_ret ⟨[_], ⟨⟨(by simp only [go_sem, reduceIte, Nat.reduceEqDiff, FF]), (by simp only [go_sem, reduceIte, Nat.reduceEqDiff, FF] <;> rfl)⟩, trivial⟩, ?_⟩
   simp only [go_sem, reduceIte, Nat.reduceEqDiff, FF, tupled]
   exact CV.Sub.of_eq (by simp [partB])
 · refine awp_rseq (by decide) fun KK hKK => ?_
   refine m_assign ?_
   refine hKK _ _ ?_
   clear hKK KK
   refine awp_rseq (by decide) fun KK hKK => ?_
   refine m_move ?_
   refine m_call (fun hG => digit_ok c) ?_
   refine m_move ?_
   refine g_move ?_
   refine g_bin ?_
   refine m_pick ?_
   refine m_move ?_
   refine g_move ?_
   refine g_move ?_
   refine g_move ?_
   refine g_call (fun hG => upper_ok c) ?_
   refine g_pick ?_
   refine m_pick ?_
   refine m_move ?_
   refine g_move ?_
   refine g_not ?_
   refine g_move ?_
   refine g_move ?_
   refine g_call (fun hG => lower_ok c) ?_
   refine g_pick ?_
   refine m_pick ?_
   refine m_assign ?_
   refine hKK _ _ ?_
   clear hKK KK
   refine awp_ret ⟨[_], ⟨⟨(by simp only [go_sem, reduceIte, Nat.reduceEqDiff, FF]), (by simp only [go_sem, reduceIte, Nat.reduceEqDiff, FF] <;> rfl)⟩, trivial⟩, ?_⟩
   simp only [go_sem, reduceIte, Nat.reduceEqDiff, FF, tupled]
   exact CV.Sub.of_eq (by simp [partB])
theorem named_ok (s : ByteArray) (big : Bool) : APure Tryz.prog 64 [.str s, .bool big] (.bool (namedB s big)) := by
 have FF : True := trivial
 refine apure_of Tryz.func64 rfl (by kernel_rfl) (by simp [Tryz.ntmps64]) ?_
 rw [Tryz.ntmps64]
 unfold namedB
 refine awp_rseq (by decide) fun KK hKK => ?_
 refine m_assign ?_
 refine hKK _ _ ?_
 clear hKK KK
 refine awp_seq ?_
 refine awp_rseq (by decide) fun KK hKK => ?_
 refine m_move ?_
 refine m_len ?_
 refine m_bin ?_
 refine m_move ?_
 refine g_move ?_
 refine g_len ?_
 refine g_bin ?_
 refine m_pick ?_
 refine m_move ?_
 refine g_move ?_
 refine g_idx ?_
 refine g_call (fun hG => digit_ok _) ?_
 refine m_pick ?_
 refine m_move ?_
 refine g_move ?_
 refine g_idx ?_
 refine g_bin ?_
 refine m_pick ?_
 refine hKK _ _ ?_
 clear hKK KK
 refine m_cond (fun hc => ?_) (fun hc => ?_)
 · rw [if_pos hc]
   refine awp_rseq (by decide) fun KK hKK => ?_
   refine m_assign ?_
   refine hKK _ _ ?_
   clear hKK KK
   refine awp_ret ⟨[_], ⟨⟨(by simp only [go_sem, reduceIte, Nat.reduceEqDiff, FF]), (by simp only [go_sem, reduceIte, Nat.reduceEqDiff, FF] <;> rfl)⟩, trivial⟩, ?_⟩
   simp only [go_sem, reduceIte, Nat.reduceEqDiff, FF, tupled]
   exact CV.Sub.refl _
 rw [if_neg (by rw [hc]; decide)]
 have hsz : s.size ≤ 32 := by simp only [Bool.or_eq_false_iff, decide_eq_false_iff_not] at hc; omega
 clear hc
 refine awp_skip ?_
 first | rw [thenQ_normal] | rw [blockQ_normal, thenQ_normal]
 refine awp_seq ?_
 refine awp_rseq (by decide) fun KK hKK => ?_
 refine m_assign ?_
 refine hKK _ _ ?_
 clear hKK KK
 refine awp_block ?_
 refine m_for (ι := Nat) (fun i => [(0, .str s), (1, .bool big), (5, .int i)]) (fun i => []) (fun i => s.size - i) (fun i => i ≤ s.size ∧ allB (fun c => partB c big) s i = true) (0) ?_ ?_
 · exact ⟨Nat.zero_le _, rfl⟩
 rintro i ⟨hi, hres⟩
 refine awp_seq ?_
 refine awp_rseq (by decide) fun KK hKK => ?_
 refine m_move ?_
 refine m_move ?_
 refine m_len ?_
 refine m_bin ?_
 refine hKK _ _ ?_
 clear hKK KK
 refine m_cond (fun hc => ?_) (fun hc => ?_)
 · simp only [decide_eq_true_eq] at hc
   have hi' : i < s.size := by omega
   have w3 : IntKind.i64.wrap ((i : Int) + 1) = ((i + 1 : Nat) : Int) := wrap_in (by omega)
   refine awp_skip ?_
   first | rw [thenQ_normal] | rw [blockQ_normal, thenQ_normal]
   refine awp_seq (awp_block ?_)
   clear hc
   refine awp_rseq (by decide) fun KK hKK => ?_
   refine m_move ?_
   refine m_move ?_
   refine m_idx ?_
   refine m_move ?_
   refine m_call (fun hG => part_ok (byteAt s i) big) ?_
   refine m_not ?_
   refine hKK _ _ ?_
   clear hKK KK
   refine m_cond (fun hc => ?_) (fun hc => ?_)
   · refine awp_rseq (by decide) fun KK hKK => ?_
     refine m_assign ?_
     refine hKK _ _ ?_
     clear hKK KK
     refine awp_ret ⟨[_], ⟨⟨(by simp only [go_sem, reduceIte, Nat.reduceEqDiff, FF]), (by simp only [go_sem, reduceIte, Nat.reduceEqDiff, FF] <;> rfl)⟩, trivial⟩, ?_⟩
     simp only [go_sem, reduceIte, Nat.reduceEqDiff, FF, tupled]
     rw [allB_false (p := fun c => partB c big) (i := i) (by simpa using hc) s.size hi']
     exact CV.Sub.refl _
   refine awp_skip ?_
   first | rw [thenQ_normal] | rw [blockQ_normal, thenQ_normal]
   have FF := And.intro w3 FF
   refine awp_rlast (by decide) fun KK hKK => ?_
   refine m_move ?_
   refine m_bin ?_
   refine m_assign ?_
   refine hKK _ _ ?_
   clear hKK KK
   try rw [thenQ_normal]
   refine m_next (i + 1) ?_ ?_
   · exact ⟨hi', by rw [allB, hres, Bool.true_and]; simpa using hc⟩
   · omega
 · refine awp_exit ?_
   simp only [thenQ_exit, blockQ_exit, reduceIte, Nat.reduceEqDiff]
   try rw [thenQ_normal]
   have hi' : i = s.size := by simp only [decide_eq_false_iff_not] at hc; omega
   refine awp_rseq (by decide) fun KK hKK => ?_
   refine m_assign ?_
   refine hKK _ _ ?_
   clear hKK KK
   refine awp_ret ⟨[_], ⟨⟨(by simp only [go_sem, reduceIte, Nat.reduceEqDiff, FF]), (by simp only [go_sem, reduceIte, Nat.reduceEqDiff, FF] <;> rfl)⟩, trivial⟩, ?_⟩
   simp only [go_sem, reduceIte, Nat.reduceEqDiff, FF, tupled]
   rw [hi'] at hres
   rw [hres]
   exact CV.Sub.refl _
theorem rname_ok (s : ByteArray) : APure Tryz.prog 28 [.str s] (.bool (namedB s false)) := by
 have FF : True := trivial
 refine apure_of Tryz.func28 rfl (by kernel_rfl) (by simp [Tryz.ntmps28]) ?_
 rw [Tryz.ntmps28]
 refine awp_rseq (by decide) fun KK hKK => ?_
 refine m_assign ?_
 refine hKK _ _ ?_
 clear hKK KK
 refine awp_rseq (by decide) fun KK hKK => ?_
 refine m_move ?_
 refine m_call (fun hG => named_ok s false) ?_
 refine m_assign ?_
 refine hKK _ _ ?_
 clear hKK KK
 refine awp_ret ⟨[_], ⟨⟨(by simp only [go_sem, reduceIte, Nat.reduceEqDiff, FF]), (by simp only [go_sem, reduceIte, Nat.reduceEqDiff, FF] <;> rfl)⟩, trivial⟩, ?_⟩
 simp only [go_sem, reduceIte, Nat.reduceEqDiff, FF, tupled]
 exact CV.Sub.refl _
end Go.Am
namespace Go.Am
open Go.Proofs
attribute [local go_sem ↓] ofL_cons ofH_cons upd_apply
set_option maxHeartbeats 4000000
set_option linter.unusedSimpArgs false
theorem wrap_u64 {n : Int} (h : 0 ≤ n ∧ n ≤ 18446744073709551615) : IntKind.u64.wrap n = n := by
 unfold IntKind.wrap
 simp [IntKind.bits, IntKind.signed, IntKind.min, IntKind.max]
 omega
theorem wrap_u8 {n : Int} {m : Nat} (h : n = m ∧ m ≤ 255) : IntKind.u8.wrap n = (m : Int) := by
 obtain ⟨rfl, h⟩ := h
 unfold IntKind.wrap
 simp [IntKind.bits, IntKind.signed, IntKind.min, IntKind.max]
 omega
attribute [local go_sem] bin_kmul
variable [Glb]
end Go.Am
namespace Go.Am
open Go.Proofs
attribute [local go_sem ↓] ofL_cons ofH_cons upd_apply
set_option maxHeartbeats 1000000
set_option linter.unusedSimpArgs false
theorem all_take {α : Type} [Inhabited α] {l : List α} {i : Nat} (h : i < l.length) (p : α → Bool) : (l.take (i + 1)).all p = ((l.take i).all p && p (l.getD i default)) := by
 rw [List.take_succ_eq_append_getElem h, List.all_append, getD_lt h]
 simp
theorem all_not {α : Type} [Inhabited α] {l : List α} {i : Nat} (h : i < l.length) {p : α → Bool} (hp : p (l.getD i default) = false) : l.all p = false := by
 rw [List.all_eq_false]
 refine ⟨l[i], List.getElem_mem h, ?_⟩
 rw [getD_lt h] at hp
 simp [hp]
def lightB (r : Rn) : Bool := !(decide ((100 : Int) < r.name.size) || decide ((270 : Int) < r.items.length)) && r.items.all fun x => !decide ((100 : Int) < x.id.size)
variable [Glb]
theorem rlight_ok (r : Rn) (hl : r.items.length ≤ 9223372036854775807) : APure Tryz.prog 10 [.agg (rnC r)] (.bool (lightB r)) := by
 have FF : True := trivial
 refine apure_of Tryz.func10 rfl (by kernel_rfl) (by simp [Tryz.ntmps10]) ?_
 rw [Tryz.ntmps10]
 refine awp_rseq (by decide) fun KK hKK => ?_
 refine m_box ?_
 refine m_assign ?_
 refine hKK _ _ ?_
 clear hKK KK
 refine awp_seq ?_
 refine awp_rseq (by decide) fun KK hKK => ?_
 refine m_field ?_
 refine m_load ?_
 refine m_len ?_
 refine m_bin ?_
 refine m_move ?_
 refine g_field ?_
 refine g_load ?_
 refine g_len ?_
 refine g_bin ?_
 refine m_pick ?_
 refine hKK _ _ ?_
 clear hKK KK
 refine m_cond (fun hc => ?_) (fun hc => ?_)
 · refine awp_rseq (by decide) fun KK hKK => ?_
   refine m_assign ?_
   refine hKK _ _ ?_
   clear hKK KK
   refine awp_ret ⟨[_], ⟨⟨(by simp only [go_sem, reduceIte, Nat.reduceEqDiff, FF]), (by simp only [go_sem, reduceIte, Nat.reduceEqDiff, FF] <;> rfl)⟩, trivial⟩, ?_⟩
   simp only [go_sem, reduceIte, Nat.reduceEqDiff, FF, tupled]
   have e0 : lightB r = false := by unfold lightB; rw [hc]; rfl
   rw [e0]
   exact CV.Sub.refl _
 refine awp_skip ?_
 first | rw [thenQ_normal] | rw [blockQ_normal, thenQ_normal]
 refine awp_seq ?_
 refine awp_rseq (by decide) fun KK hKK => ?_
 refine m_assign ?_
 refine hKK _ _ ?_
 clear hKK KK
 refine awp_block ?_
 refine m_for (ι := Nat) (fun i => [(1, .ptr 1 0), (3, .int i)]) (fun i => [(1, .box 24 ((rnC r).map .c))]) (fun i => r.items.length - i) (fun i => i ≤ r.items.length ∧ (r.items.take i).all (fun x => !decide ((100 : Int) < x.id.size)) = true) (0) ?_ ?_
 · exact ⟨Nat.zero_le _, rfl⟩
 rintro i ⟨hi, hres⟩
 have hc0 := hc
 clear hc
 refine awp_seq ?_
 refine awp_rseq (by decide) fun KK hKK => ?_
 refine m_move ?_
 refine m_field ?_
 refine m_load ?_
 refine m_len ?_
 refine m_bin ?_
 refine hKK _ _ ?_
 clear hKK KK
 refine m_cond (fun hc => ?_) (fun hc => ?_)
 · simp only [decide_eq_true_eq] at hc
   have hi' : i < r.items.length := by omega
   have w3 : IntKind.i64.wrap ((i : Int) + 1) = ((i + 1 : Nat) : Int) := wrap_in (by omega)
   have eK := itL_get hi'
   refine awp_skip ?_
   first | rw [thenQ_normal] | rw [blockQ_normal, thenQ_normal]
   refine awp_seq (awp_block ?_)
   clear hc
   have FF := And.intro eK FF
   refine awp_rseq (by decide) fun KK hKK => ?_
   refine m_field ?_
   refine m_load ?_
   refine m_move ?_
   first | refine m_index ?_ | refine m_idxA ?_
   refine m_field ?_
   refine m_load ?_
   refine m_len ?_
   refine m_bin ?_
   refine hKK _ _ ?_
   clear hKK KK
   refine m_cond (fun hc => ?_) (fun hc => ?_)
   · refine awp_rseq (by decide) fun KK hKK => ?_
     refine m_assign ?_
     refine hKK _ _ ?_
     clear hKK KK
     refine awp_ret ⟨[_], ⟨⟨(by simp only [go_sem, reduceIte, Nat.reduceEqDiff, FF]), (by simp only [go_sem, reduceIte, Nat.reduceEqDiff, FF] <;> rfl)⟩, trivial⟩, ?_⟩
     simp only [go_sem, reduceIte, Nat.reduceEqDiff, FF, tupled]
     have e0 : lightB r = false := by unfold lightB; rw [all_not hi' (by rw [hc]; rfl)]; simp
     rw [e0]
     exact CV.Sub.refl _
   refine awp_skip ?_
   first | rw [thenQ_normal] | rw [blockQ_normal, thenQ_normal]
   have FF := And.intro w3 FF
   refine awp_rlast (by decide) fun KK hKK => ?_
   refine m_move ?_
   refine m_bin ?_
   refine m_assign ?_
   refine hKK _ _ ?_
   clear hKK KK
   try rw [thenQ_normal]
   refine m_next (i + 1) ?_ ?_
   · exact ⟨hi', by rw [all_take hi', hres, hc]; rfl⟩
   · omega
 · refine awp_exit ?_
   simp only [thenQ_exit, blockQ_exit, reduceIte, Nat.reduceEqDiff]
   try rw [thenQ_normal]
   have hi' : i = r.items.length := by simp only [decide_eq_false_iff_not] at hc; omega
   refine awp_rseq (by decide) fun KK hKK => ?_
   refine m_assign ?_
   refine hKK _ _ ?_
   clear hKK KK
   refine awp_ret ⟨[_], ⟨⟨(by simp only [go_sem, reduceIte, Nat.reduceEqDiff, FF]), (by simp only [go_sem, reduceIte, Nat.reduceEqDiff, FF] <;> rfl)⟩, trivial⟩, ?_⟩
   simp only [go_sem, reduceIte, Nat.reduceEqDiff, FF, tupled]
   have e0 : lightB r = true := by
     unfold lightB
     rw [hi', List.take_length] at hres
     rw [hc0, hres]; rfl
   rw [e0]
   exact CV.Sub.refl _
theorem rcounted_ok (n : Int) : APure Tryz.prog 29 [.int n] (.bool (countB n)) := by
 have FF : True := trivial
 refine apure_of Tryz.func29 rfl (by kernel_rfl) (by simp [Tryz.ntmps29]) ?_
 rw [Tryz.ntmps29]
 refine awp_rseq (by decide) fun KK hKK => ?_
 refine m_assign ?_
 refine hKK _ _ ?_
 clear hKK KK
 refine awp_rseq (by decide) fun KK hKK => ?_
 refine m_move ?_
 refine m_bin ?_
 refine m_move ?_
 refine g_move ?_
 refine g_bin ?_
 refine m_pick ?_
 refine m_assign ?_
 refine hKK _ _ ?_
 clear hKK KK
 refine awp_ret ⟨[_], ⟨⟨(by simp only [go_sem, reduceIte, Nat.reduceEqDiff, FF]), (by simp only [go_sem, reduceIte, Nat.reduceEqDiff, FF] <;> rfl)⟩, trivial⟩, ?_⟩
 simp only [go_sem, reduceIte, Nat.reduceEqDiff, FF, tupled]
 exact CV.Sub.refl _
theorem bit01_ok (b : Bool) : APure Tryz.prog 42 [.bool b] (.int (bitI b)) := by
 have FF : True := trivial
 refine apure_of Tryz.func42 rfl (by kernel_rfl) (by simp [Tryz.ntmps42]) ?_
 rw [Tryz.ntmps42]
 refine awp_rseq (by decide) fun KK hKK => ?_
 refine m_assign ?_
 refine hKK _ _ ?_
 clear hKK KK
 refine awp_seq ?_
 refine awp_rseq (by decide) fun KK hKK => ?_
 refine m_move ?_
 refine hKK _ _ ?_
 clear hKK KK
 refine m_cond (fun hc => ?_) (fun hc => ?_)
 · refine awp_rseq (by decide) fun KK hKK => ?_
   refine m_assign ?_
   refine hKK _ _ ?_
   clear hKK KK
   refine awp_ret ⟨[_], ⟨⟨(by simp only [go_sem, reduceIte, Nat.reduceEqDiff, FF]), (by simp only [go_sem, reduceIte, Nat.reduceEqDiff, FF] <;> rfl)⟩, trivial⟩, ?_⟩
   simp only [go_sem, reduceIte, Nat.reduceEqDiff, FF, tupled]
   rw [hc]
   exact CV.Sub.refl _
 refine awp_skip ?_
 first | rw [thenQ_normal] | rw [blockQ_normal, thenQ_normal]
 refine awp_rseq (by decide) fun KK hKK => ?_
 refine m_assign ?_
 refine hKK _ _ ?_
 clear hKK KK
 refine awp_ret ⟨[_], ⟨⟨(by simp only [go_sem, reduceIte, Nat.reduceEqDiff, FF]), (by simp only [go_sem, reduceIte, Nat.reduceEqDiff, FF] <;> rfl)⟩, trivial⟩, ?_⟩
 simp only [go_sem, reduceIte, Nat.reduceEqDiff, FF, tupled]
 rw [hc]
 exact CV.Sub.refl _
end Go.Am
namespace Go.Am
open Go.Proofs
attribute [local go_sem ↓] ofL_cons ofH_cons upd_apply
set_option maxHeartbeats 1000000
set_option linter.unusedSimpArgs false
theorem le_not (x q : ByteArray) : (lessS x q || x.toList == q.toList) = !lessS q x := by
 rw [str_beq]
 cases h : lessS q x with
 | true =>
   rw [lessS_asymm h]
   have : x ≠ q := fun e => by
     rw [e, lessS_irrefl] at h
     cases h
   simp [this]
 | false =>
   cases h2 : lessS x q with
   | true => rfl
   | false => simp [lessS_total h2 h]
variable [Glb]
theorem rcheck_ok (r : Rn) (hl : r.items.length ≤ 9223372036854775807) : APure Tryz.prog 12 [.agg (rnC r)] (.int (checkF r)) := by
 have FF : True := trivial
 refine apure_of Tryz.func12 rfl (by kernel_rfl) (by simp [Tryz.ntmps12]) ?_
 rw [Tryz.ntmps12]
 unfold checkF
 refine awp_rseq (by decide) fun KK hKK => ?_
 refine m_box ?_
 refine m_assign ?_
 refine hKK _ _ ?_
 clear hKK KK
 refine awp_seq ?_
 refine awp_rseq (by decide) fun KK hKK => ?_
 refine m_field ?_
 refine m_load ?_
 refine m_call (fun hG => rname_ok r.name) ?_
 refine m_not ?_
 refine hKK _ _ ?_
 clear hKK KK
 refine m_cond (fun hc => ?_) (fun hc => ?_)
 · rw [if_pos hc]
   refine awp_rseq (by decide) fun KK hKK => ?_
   refine m_assign ?_
   refine hKK _ _ ?_
   clear hKK KK
   refine awp_ret ⟨[_], ⟨⟨(by simp only [go_sem, reduceIte, Nat.reduceEqDiff, FF]), (by simp only [go_sem, reduceIte, Nat.reduceEqDiff, FF] <;> rfl)⟩, trivial⟩, ?_⟩
   simp only [go_sem, reduceIte, Nat.reduceEqDiff, FF, tupled]
   exact CV.Sub.refl _
 rw [if_neg (by rw [hc]; decide)]
 clear hc
 refine awp_skip ?_
 first | rw [thenQ_normal] | rw [blockQ_normal, thenQ_normal]
 refine awp_seq ?_
 refine awp_rseq (by decide) fun KK hKK => ?_
 refine m_field ?_
 refine m_load ?_
 refine m_len ?_
 refine m_bin ?_
 refine hKK _ _ ?_
 clear hKK KK
 refine m_cond (fun hc => ?_) (fun hc => ?_)
 · rw [if_pos (by simpa using hc)]
   refine awp_rseq (by decide) fun KK hKK => ?_
   refine m_assign ?_
   refine hKK _ _ ?_
   clear hKK KK
   refine awp_ret ⟨[_], ⟨⟨(by simp only [go_sem, reduceIte, Nat.reduceEqDiff, FF]), (by simp only [go_sem, reduceIte, Nat.reduceEqDiff, FF] <;> rfl)⟩, trivial⟩, ?_⟩
   simp only [go_sem, reduceIte, Nat.reduceEqDiff, FF, tupled]
   exact CV.Sub.refl _
 rw [if_neg (by simpa using hc)]
 clear hc
 refine awp_skip ?_
 first | rw [thenQ_normal] | rw [blockQ_normal, thenQ_normal]
 refine awp_seq ?_
 refine awp_rseq (by decide) fun KK hKK => ?_
 refine m_assign ?_
 refine hKK _ _ ?_
 clear hKK KK
 refine awp_block ?_
 refine m_for (ι := Nat) (fun i => [(1, .ptr 1 0), (3, .int i)]) (fun i => [(1, .box 24 ((rnC r).map .c))]) (fun i => r.items.length - i) (fun i => i ≤ r.items.length ∧ chkItems (prevI r.items i) (r.items.drop i) = chkItems none r.items) (0) ?_ ?_
 · exact ⟨Nat.zero_le _, rfl⟩
 rintro i ⟨hi, hres⟩
 refine awp_seq ?_
 refine awp_rseq (by decide) fun KK hKK => ?_
 refine m_move ?_
 refine m_field ?_
 refine m_load ?_
 refine m_len ?_
 refine m_bin ?_
 refine hKK _ _ ?_
 clear hKK KK
 refine m_cond (fun hc => ?_) (fun hc => ?_)
 · simp only [decide_eq_true_eq] at hc
   have hi' : i < r.items.length := by omega
   have w3 : IntKind.i64.wrap ((i : Int) + 1) = ((i + 1 : Nat) : Int) := wrap_in (by omega)
   have eK := itL_get hi'
   rw [chk_drop hi'] at hres
   generalize hx : r.items.getD i default = x at *
   refine awp_skip ?_
   first | rw [thenQ_normal] | rw [blockQ_normal, thenQ_normal]
   refine awp_seq (awp_block ?_)
   clear hc
   have FF := And.intro eK FF
   refine awp_rseq (by decide) fun KK hKK => ?_
   refine m_field ?_
   refine m_load ?_
   refine m_move ?_
   first | refine m_index ?_ | refine m_idxA ?_
   refine m_load ?_
   refine m_alloc ?_
   first | refine m_stPtr ?_ | refine m_stRp ?_
   refine hKK _ _ ?_
   clear hKK KK
   refine m_cut [(1, .ptr 1 0), (3, .int i), (4, .ptr 4 0)] [(1, .box 24 ((rnC r).map .c)), (4, .box 47 ((itC x).map .c))] ?_
   refine awp_seq ?_
   refine awp_rseq (by decide) fun KK hKK => ?_
   refine m_field ?_
   refine m_load ?_
   refine m_call (fun hG => rname_ok x.id) ?_
   refine m_not ?_
   refine hKK _ _ ?_
   clear hKK KK
   refine m_cond (fun hc => ?_) (fun hc => ?_)
   · refine awp_rseq (by decide) fun KK hKK => ?_
     refine m_assign ?_
     refine hKK _ _ ?_
     clear hKK KK
     refine awp_ret ⟨[_], ⟨⟨(by simp only [go_sem, reduceIte, Nat.reduceEqDiff, FF]), (by simp only [go_sem, reduceIte, Nat.reduceEqDiff, FF] <;> rfl)⟩, trivial⟩, ?_⟩
     simp only [go_sem, reduceIte, Nat.reduceEqDiff, FF, tupled]
     have e0 : itemE (prevI r.items i) x = 1 := by unfold itemE; rw [if_pos hc]
     rw [← hres, e0]
     exact CV.Sub.refl _
   have hnm := hc
   clear hc
   refine awp_skip ?_
   first | rw [thenQ_normal] | rw [blockQ_normal, thenQ_normal]
   refine m_join (ι := Unit) (fun u => [(1, .ptr 1 0), (3, .int i), (4, .ptr 4 0)]) (fun u => [(1, .box 24 ((rnC r).map .c)), (4, .box 47 ((itC x).map .c))]) (fun u => ordE (prevI r.items i) x.id = false) ?_ ?_
   · cases hE : decide ((0 : Int) < (i : Nat)) with
     | false =>
       have hi0 : i = 0 := by simp only [decide_eq_false_iff_not] at hE; omega
       refine awp_rseq_draw Tryz.mixed (by decide) (by kernel_rfl) fun KK hKK => ?_
       refine st0 rfl (k_move (by simp only [go_sem, reduceIte, Nat.reduceEqDiff, FF, hE] <;> rfl)) ?_
       refine st0 rfl (k_bin (by simp only [go_sem, reduceIte, Nat.reduceEqDiff, FF, hE] <;> rfl) (by simp only [go_sem, reduceIte, Nat.reduceEqDiff, FF, hE] <;> rfl) (by rfl) (by rfl) (by simp only [go_sem, reduceIte, Nat.reduceEqDiff, FF, hE] <;> rfl) (by intro hG; simp only [go_sem])) ?_
       refine st0 rfl (k_move (by simp only [go_sem, reduceIte, Nat.reduceEqDiff, FF, hE] <;> rfl)) ?_
       refine sgF rfl (by simp only [go_sem, reduceIte, Nat.reduceEqDiff, FF, hE] <;> rfl) (by rfl) (by simp only [go_sem, reduceIte, Nat.reduceEqDiff, FF, hE, hE] <;> rfl) ?_
       refine sgF rfl (by simp only [go_sem, reduceIte, Nat.reduceEqDiff, FF, hE] <;> rfl) (by rfl) (by simp only [go_sem, reduceIte, Nat.reduceEqDiff, FF, hE, hE] <;> rfl) ?_
       refine sgF rfl (by simp only [go_sem, reduceIte, Nat.reduceEqDiff, FF, hE] <;> rfl) (by rfl) (by simp only [go_sem, reduceIte, Nat.reduceEqDiff, FF, hE, hE] <;> rfl) ?_
       refine sgF rfl (by simp only [go_sem, reduceIte, Nat.reduceEqDiff, FF, hE] <;> rfl) (by rfl) (by simp only [go_sem, reduceIte, Nat.reduceEqDiff, FF, hE, hE] <;> rfl) ?_
       refine sgF rfl (by simp only [go_sem, reduceIte, Nat.reduceEqDiff, FF, hE] <;> rfl) (by rfl) (by simp only [go_sem, reduceIte, Nat.reduceEqDiff, FF, hE, hE] <;> rfl) ?_
       refine sgF rfl (by simp only [go_sem, reduceIte, Nat.reduceEqDiff, FF, hE] <;> rfl) (by rfl) (by simp only [go_sem, reduceIte, Nat.reduceEqDiff, FF, hE, hE] <;> rfl) ?_
       refine sgF rfl (by simp only [go_sem, reduceIte, Nat.reduceEqDiff, FF, hE] <;> rfl) (by rfl) (by simp only [go_sem, reduceIte, Nat.reduceEqDiff, FF, hE, hE] <;> rfl) ?_
       refine sgF rfl (by simp only [go_sem, reduceIte, Nat.reduceEqDiff, FF, hE] <;> rfl) (by rfl) (by simp only [go_sem, reduceIte, Nat.reduceEqDiff, FF, hE, hE] <;> rfl) ?_
       refine sgF rfl (by simp only [go_sem, reduceIte, Nat.reduceEqDiff, FF, hE] <;> rfl) (by rfl) (by simp only [go_sem, reduceIte, Nat.reduceEqDiff, FF, hE, hE] <;> rfl) ?_
       refine sgF rfl (by simp only [go_sem, reduceIte, Nat.reduceEqDiff, FF, hE] <;> rfl) (by rfl) (by simp only [go_sem, reduceIte, Nat.reduceEqDiff, FF, hE, hE] <;> rfl) ?_
       refine st0 rfl (k_pick (by simp only [go_sem, reduceIte, Nat.reduceEqDiff, FF, hE] <;> rfl) (by simp only [go_sem, reduceIte, Nat.reduceEqDiff, FF, hE] <;> rfl) (by simp only [go_sem, reduceIte, Nat.reduceEqDiff, FF, hE] <;> rfl) (by rfl) (by rfl) (by rfl) (by intro hG; first | (simp only [go_sem, reduceIte, Nat.reduceEqDiff, FF, hE, hE]; done) | (simp [go_sem]; done) | (simp [go_sem] at hG ⊢ <;> simp [hG] <;> (intros; simp_all))) (by first | (simp only [go_sem, reduceIte, Nat.reduceEqDiff, FF, hE] <;> rfl) | rfl)) ?_
       refine hKK _ _ ?_
       clear hKK KK
       refine awp_cond (by simp only [go_sem, reduceIte, Nat.reduceEqDiff, FF, hE] <;> rfl) (fun hc => ?_) (fun hc => ?_)
       · cases hc
       refine awp_skip ?_
       try rw [thenQ_normal]
       refine ⟨(), ?_, (by simp only [List.forall_mem_cons, List.forall_mem_nil, go_sem, reduceIte, Nat.reduceEqDiff, FF]; all_goals ((repeat' apply And.intro) <;> first | trivial | rfl | exact objLe_refl _ | (intro _ _; exact Subs.refl _))), (by simp only [List.forall_mem_cons, List.forall_mem_nil, go_sem, reduceIte, Nat.reduceEqDiff, FF]; all_goals ((repeat' apply And.intro) <;> first | trivial | rfl | exact objLe_refl _ | (intro _ _; exact Subs.refl _)))⟩
       rw [hi0]
       rfl
     | true =>
       obtain ⟨j, rfl⟩ : ∃ j, i = j + 1 := ⟨i - 1, by simp only [decide_eq_true_eq] at hE; omega⟩
       have wP : IntKind.i64.wrap (((j + 1 : Nat) : Int) - 1) = (j : Int) := by rw [wrap_in (by omega)]; omega
       have eP := itL_get (l := r.items) (i := j) (by omega)
       have hp : prevI r.items (j + 1) = some (r.items.getD j default).id := rfl
       rw [hp] at hres ⊢
       generalize r.items.getD j default = y at *
       have FF := And.intro hE (And.intro wP (And.intro eP FF))
       refine awp_rseq_draw Tryz.mixed (by decide) (by kernel_rfl) fun KK hKK => ?_
       refine m_move ?_
       refine m_bin ?_
       refine m_move ?_
       refine g_field ?_
       refine g_load ?_
       refine g_field ?_
       refine g_load ?_
       refine g_move ?_
       refine g_bin ?_
       first | refine g_index ?_ | refine g_idxA ?_
       refine g_field ?_
       refine g_load ?_
       refine g_bin ?_
       refine m_pick ?_
       refine hKK _ _ ?_
       clear hKK KK
       refine m_cond (fun hc => ?_) (fun hc => ?_)
       · rw [lessT, le_not] at hc
         refine awp_rseq (by decide) fun KK hKK => ?_
         refine m_assign ?_
         refine hKK _ _ ?_
         clear hKK KK
         refine awp_ret ⟨[_], ⟨⟨(by simp only [go_sem, reduceIte, Nat.reduceEqDiff, FF]), (by simp only [go_sem, reduceIte, Nat.reduceEqDiff, FF] <;> rfl)⟩, trivial⟩, ?_⟩
         simp only [go_sem, reduceIte, Nat.reduceEqDiff, FF, tupled]
         have e0 : itemE (some y.id) x = 3 := by
           unfold itemE
           rw [hnm, if_neg (by decide)]
           exact if_pos hc
         rw [← hres, e0]
         exact CV.Sub.refl _
       rw [lessT, le_not] at hc
       refine awp_skip ?_
       try rw [thenQ_normal]
       refine ⟨(), ?_, (by simp only [List.forall_mem_cons, List.forall_mem_nil, go_sem, reduceIte, Nat.reduceEqDiff, FF]; all_goals ((repeat' apply And.intro) <;> first | trivial | rfl | exact objLe_refl _ | (intro _ _; exact Subs.refl _))), (by simp only [List.forall_mem_cons, List.forall_mem_nil, go_sem, reduceIte, Nat.reduceEqDiff, FF]; all_goals ((repeat' apply And.intro) <;> first | trivial | rfl | exact objLe_refl _ | (intro _ _; exact Subs.refl _)))⟩
       exact hc
   rintro - hb
   refine awp_rseq (by decide) fun KK hKK => ?_
   refine m_field ?_
   refine m_load ?_
   refine m_call (fun hG => rcounted_ok _) ?_
   refine m_not ?_
   refine m_move ?_
   refine g_field ?_
   refine g_load ?_
   refine g_call (fun hG => rcounted_ok _) ?_
   refine g_not ?_
   refine m_pick ?_
   refine m_move ?_
   refine g_field ?_
   refine g_load ?_
   refine g_call (fun hG => rcounted_ok _) ?_
   refine g_not ?_
   refine m_pick ?_
   refine hKK _ _ ?_
   clear hKK KK
   refine m_cond (fun hc => ?_) (fun hc => ?_)
   · refine awp_rseq (by decide) fun KK hKK => ?_
     refine m_assign ?_
     refine hKK _ _ ?_
     clear hKK KK
     refine awp_ret ⟨[_], ⟨⟨(by simp only [go_sem, reduceIte, Nat.reduceEqDiff, FF]), (by simp only [go_sem, reduceIte, Nat.reduceEqDiff, FF] <;> rfl)⟩, trivial⟩, ?_⟩
     simp only [go_sem, reduceIte, Nat.reduceEqDiff, FF, tupled]
     have e0 : itemE (prevI r.items i) x = 2 := by
       unfold itemE
       rw [hnm, hb, if_neg (by decide), if_neg (by decide), if_pos hc]
     rw [← hres, e0]
     exact CV.Sub.refl _
   refine awp_skip ?_
   first | rw [thenQ_normal] | rw [blockQ_normal, thenQ_normal]
   have e0 : itemE (prevI r.items i) x = 0 := by
     unfold itemE
     rw [hnm, hb, if_neg (by decide), if_neg (by decide), if_neg (by rw [hc]; decide)]
   rw [e0, if_pos rfl] at hres
   have FF := And.intro w3 FF
   refine awp_rlast (by decide) fun KK hKK => ?_
   refine m_move ?_
   refine m_bin ?_
   refine m_assign ?_
   refine hKK _ _ ?_
   clear hKK KK
   try rw [thenQ_normal]
   refine m_next (i + 1) ?_ ?_
   · exact ⟨hi', hres⟩
   · omega
 · refine awp_exit ?_
   simp only [thenQ_exit, blockQ_exit, reduceIte, Nat.reduceEqDiff]
   try rw [thenQ_normal]
   have hi' : i = r.items.length := by simp only [decide_eq_false_iff_not] at hc; omega
   refine awp_rseq (by decide) fun KK hKK => ?_
   refine m_assign ?_
   refine hKK _ _ ?_
   clear hKK KK
   refine awp_ret ⟨[_], ⟨⟨(by simp only [go_sem, reduceIte, Nat.reduceEqDiff, FF]), (by simp only [go_sem, reduceIte, Nat.reduceEqDiff, FF] <;> rfl)⟩, trivial⟩, ?_⟩
   simp only [go_sem, reduceIte, Nat.reduceEqDiff, FF, tupled]
   rw [hi', List.drop_length] at hres
   rw [← hres]
   exact CV.Sub.refl _
end Go.Am
namespace Go.Am
open Go.Proofs Go.RowKit
attribute [local go_sem ↓] ofL_cons ofH_cons upd_apply
set_option maxHeartbeats 2000000
set_option maxRecDepth 100000
set_option linter.unusedSimpArgs false
variable [Glb]
theorem rencode_ok (r : Rn) (hl : r.items.length ≤ 9223372036854775807) : APure Tryz.prog 20 [.agg (rnC r)] (.tup [.str (encodeF r).1, .int (encodeF r).2]) := by
 have FF : True := trivial
 refine apure_of Tryz.func20 rfl (by kernel_rfl) (by simp [Tryz.ntmps20]) ?_
 rw [Tryz.ntmps20]
 unfold encodeF
 refine awp_rseq (by decide) fun KK hKK => ?_
 refine m_box ?_
 refine m_assign ?_
 refine m_assign ?_
 refine hKK _ _ ?_
 clear hKK KK
 refine awp_rseq (by decide) fun KK hKK => ?_
 refine m_load ?_
 refine m_call (fun hG => rcheck_ok r hl) ?_
 refine m_assign ?_
 refine hKK _ _ ?_
 clear hKK KK
 refine awp_seq ?_
 refine awp_rseq (by decide) fun KK hKK => ?_
 refine m_move ?_
 refine m_bin ?_
 refine hKK _ _ ?_
 clear hKK KK
 refine m_cond (fun hc => ?_) (fun hc => ?_)
 · rw [if_pos (by simpa using hc)]
   refine awp_rseq (by decide) fun KK hKK => ?_
   refine m_move ?_
   refine m_assign ?_
   refine m_assign ?_
   refine hKK _ _ ?_
   clear hKK KK
   refine awp_ret ⟨[_, _], ⟨⟨(by simp only [go_sem, reduceIte, Nat.reduceEqDiff, FF]), (by simp only [go_sem, reduceIte, Nat.reduceEqDiff, FF] <;> rfl)⟩, ⟨(by simp only [go_sem, reduceIte, Nat.reduceEqDiff, FF]), (by simp only [go_sem, reduceIte, Nat.reduceEqDiff, FF] <;> rfl)⟩, trivial⟩, ?_⟩
   simp only [go_sem, reduceIte, Nat.reduceEqDiff, FF, tupled]
   exact CV.Sub.refl _
 have ec : checkF r = 0 := by simpa using hc
 rw [if_neg (by simpa using hc)]
 clear hc
 obtain ⟨h1, h2, h3⟩ := check_facts ec
 have hs := named_size h1
 refine awp_skip ?_
 first | rw [thenQ_normal] | rw [blockQ_normal, thenQ_normal]
 have b0 : #[(114 : UInt8), 117, 110, 32].size + r.name.size ≤ 9223372036854775807 := by simp; omega
 have b1 : #[(114 : UInt8), 117, 110, 32].size + r.name.size + #[(10 : UInt8)].size ≤ 9223372036854775807 := by simp; omega
 have FF := And.intro b0 (And.intro b1 FF)
 refine awp_rseq (by decide) fun KK hKK => ?_
 refine m_field ?_
 refine m_load ?_
 refine m_bin ?_
 refine m_bin ?_
 refine m_assign ?_
 refine hKK _ _ ?_
 clear hKK KK
 have e00 : (⟨#[114, 117, 110, 32]⟩ ++ r.name ++ ⟨#[10]⟩ : ByteArray) = headB r.name ++ linesB (r.items.take 0) := by rw [List.take_zero, linesB, app_nil]; rfl
 rw [e00]
 refine awp_seq ?_
 refine awp_rseq (by decide) fun KK hKK => ?_
 refine m_assign ?_
 refine hKK _ _ ?_
 clear hKK KK
 refine awp_block ?_
 refine m_for (ι := Nat) (fun i => [(1, .ptr 1 0), (5, .str (headB r.name ++ linesB (r.items.take i))), (6, .int i)]) (fun i => [(1, .box 24 ((rnC r).map .c))]) (fun i => r.items.length - i) (fun i => i ≤ r.items.length) (0) ?_ ?_
 · exact Nat.zero_le _
 intro i hi
 refine awp_seq ?_
 refine awp_rseq (by decide) fun KK hKK => ?_
 refine m_move ?_
 refine m_field ?_
 refine m_load ?_
 refine m_len ?_
 refine m_bin ?_
 refine hKK _ _ ?_
 clear hKK KK
 refine m_cond (fun hc => ?_) (fun hc => ?_)
 · simp only [decide_eq_true_eq] at hc
   have hi' : i < r.items.length := by omega
   have w3 : IntKind.i64.wrap ((i : Int) + 1) = ((i + 1 : Nat) : Int) := wrap_in (by omega)
   have eK := itL_get hi'
   have hx : namedB (r.items.getD i default).id false = true ∧ itIn (r.items.getD i default) := by rw [getD_lt hi']; exact h3 _ (List.getElem_mem hi')
   have hnx := linesB_next hi'
   have hsz : (headB r.name ++ linesB (r.items.take i)).size ≤ 100000 := by
     have e1 : (⟨#[114, 117, 110, 32]⟩ : ByteArray).size = 4 := rfl
     have e2 : (⟨#[10]⟩ : ByteArray).size = 1 := rfl
     have := linesB_size (l := r.items.take i) fun x hx => h3 x (List.mem_of_mem_take hx)
     rw [List.length_take] at this
     unfold headB
     simp only [ByteArray.size_append, e1, e2]
     omega
   have e9 : headB r.name ++ linesB (r.items.take (i + 1)) = (headB r.name ++ linesB (r.items.take i)) ++ lineB (r.items.getD i default) := by rw [hnx, ba_assoc (headB r.name)]
   generalize headB r.name ++ linesB (r.items.take i) = S at *
   generalize r.items.getD i default = x at *
   have hid := named_size hx.1
   have hin := hx.2
   unfold itIn at hin
   have n1 : inI x.rd := ⟨by omega, by omega⟩
   have n2 : inI x.ed := ⟨by omega, by omega⟩
   have n3 : inI x.tk := ⟨by omega, by omega⟩
   have n4 : inI (bitI x.pt) := by cases x.pt <;> exact ⟨by decide, by decide⟩
   have d1 := decB_size n1
   have d2 := decB_size n2
   have d3 := decB_size n3
   have d4 := decB_size n4
   have e32 : #[(32 : UInt8)].size = 1 := rfl
   have e10 : #[(10 : UInt8)].size = 1 := rfl
   have c0 : S.size + x.id.size ≤ 9223372036854775807 := by omega
   have c1 : S.size + x.id.size + #[(32 : UInt8)].size ≤ 9223372036854775807 := by omega
   have c2 : S.size + x.id.size + #[(32 : UInt8)].size + (decB x.rd).size ≤ 9223372036854775807 := by omega
   have c3 : S.size + x.id.size + #[(32 : UInt8)].size + (decB x.rd).size + #[(32 : UInt8)].size ≤ 9223372036854775807 := by omega
   have c4 : S.size + x.id.size + #[(32 : UInt8)].size + (decB x.rd).size + #[(32 : UInt8)].size + (decB x.ed).size ≤ 9223372036854775807 := by omega
   have c5 : S.size + x.id.size + #[(32 : UInt8)].size + (decB x.rd).size + #[(32 : UInt8)].size + (decB x.ed).size + #[(32 : UInt8)].size ≤ 9223372036854775807 := by omega
   have c6 : S.size + x.id.size + #[(32 : UInt8)].size + (decB x.rd).size + #[(32 : UInt8)].size + (decB x.ed).size + #[(32 : UInt8)].size + (decB x.tk).size ≤ 9223372036854775807 := by omega
   have c7 : S.size + x.id.size + #[(32 : UInt8)].size + (decB x.rd).size + #[(32 : UInt8)].size + (decB x.ed).size + #[(32 : UInt8)].size + (decB x.tk).size + #[(32 : UInt8)].size ≤ 9223372036854775807 := by omega
   have c8 : S.size + x.id.size + #[(32 : UInt8)].size + (decB x.rd).size + #[(32 : UInt8)].size + (decB x.ed).size + #[(32 : UInt8)].size + (decB x.tk).size + #[(32 : UInt8)].size + (decB (bitI x.pt)).size ≤ 9223372036854775807 := by omega
   have c9 : S.size + x.id.size + #[(32 : UInt8)].size + (decB x.rd).size + #[(32 : UInt8)].size + (decB x.ed).size + #[(32 : UInt8)].size + (decB x.tk).size + #[(32 : UInt8)].size + (decB (bitI x.pt)).size + #[(10 : UInt8)].size ≤ 9223372036854775807 := by omega
   refine awp_skip ?_
   first | rw [thenQ_normal] | rw [blockQ_normal, thenQ_normal]
   refine awp_seq (awp_block ?_)
   clear hc
   have FF := And.intro eK FF
   refine awp_rseq (by decide) fun KK hKK => ?_
   refine m_field ?_
   refine m_load ?_
   refine m_move ?_
   first | refine m_index ?_ | refine m_idxA ?_
   refine m_load ?_
   refine m_alloc ?_
   first | refine m_stPtr ?_ | refine m_stRp ?_
   refine hKK _ _ ?_
   clear hKK KK
   refine m_cut [(1, .ptr 1 0), (5, .str S), (6, .int i), (7, .ptr 7 0)] [(1, .box 24 ((rnC r).map .c)), (7, .box 47 ((itC x).map .c))] ?_
   have FF := And.intro c0 (And.intro c1 (And.intro c2 (And.intro c3 (And.intro c4 (And.intro c5 (And.intro c6 (And.intro c7 (And.intro c8 (And.intro c9 FF)))))))))
   refine awp_rlast_draw Tryz.mixed (by decide) (by kernel_rfl) fun KK hKK => ?_
   refine m_move ?_
   refine m_field ?_
   refine m_load ?_
   refine m_bin ?_
   refine m_bin ?_
   refine m_field ?_
   refine m_load ?_
   refine m_call (fun hG => rdec_ok n1) ?_
   refine m_bin ?_
   refine m_bin ?_
   refine m_field ?_
   refine m_load ?_
   refine m_call (fun hG => rdec_ok n2) ?_
   refine m_bin ?_
   refine m_bin ?_
   refine m_field ?_
   refine m_load ?_
   refine m_call (fun hG => rdec_ok n3) ?_
   refine m_bin ?_
   refine m_bin ?_
   refine m_field ?_
   refine m_load ?_
   refine m_call (fun hG => bit01_ok _) ?_
   refine m_call (fun hG => rdec_ok n4) ?_
   refine m_bin ?_
   refine m_bin ?_
   refine m_assign ?_
   refine hKK _ _ ?_
   clear hKK KK
   have e8 : S ++ x.id ++ ⟨#[32]⟩ ++ decB x.rd ++ ⟨#[32]⟩ ++ decB x.ed ++ ⟨#[32]⟩ ++ decB x.tk ++ ⟨#[32]⟩ ++ decB (bitI x.pt) ++ ⟨#[10]⟩ = S ++ lineB x := by
     unfold lineB
     simp only [ba_assoc]
   rw [e8]
   first | rw [thenQ_normal] | rw [blockQ_normal, thenQ_normal]
   have FF := And.intro w3 FF
   refine awp_rlast (by decide) fun KK hKK => ?_
   refine m_move ?_
   refine m_bin ?_
   refine m_assign ?_
   refine hKK _ _ ?_
   clear hKK KK
   have FF := And.intro e9 FF
   try rw [thenQ_normal]
   refine m_next (i + 1) ?_ ?_
   · exact hi'
   · omega
 · refine awp_exit ?_
   simp only [thenQ_exit, blockQ_exit, reduceIte, Nat.reduceEqDiff]
   try rw [thenQ_normal]
   have hi' : i = r.items.length := by simp only [decide_eq_false_iff_not] at hc; omega
   subst hi'
   rw [List.take_length]
   refine awp_rseq (by decide) fun KK hKK => ?_
   refine m_move ?_
   refine m_assign ?_
   refine m_assign ?_
   refine hKK _ _ ?_
   clear hKK KK
   refine awp_ret ⟨[_, _], ⟨⟨(by simp only [go_sem, reduceIte, Nat.reduceEqDiff, FF]), (by simp only [go_sem, reduceIte, Nat.reduceEqDiff, FF] <;> rfl)⟩, ⟨(by simp only [go_sem, reduceIte, Nat.reduceEqDiff, FF]), (by simp only [go_sem, reduceIte, Nat.reduceEqDiff, FF] <;> rfl)⟩, trivial⟩, ?_⟩
   simp only [go_sem, reduceIte, Nat.reduceEqDiff, FF, tupled]
   exact CV.Sub.refl _
end Go.Am
namespace Go.Am
open Go.Proofs
attribute [local go_sem ↓] ofL_cons ofH_cons upd_apply
set_option maxHeartbeats 4000000
set_option linter.unusedSimpArgs false
variable [Glb] [NoDr] [Tabs] [TabM]
theorem encodes_ok (r : Rn) (hl : r.items.length ≤ 9223372036854775807) : APure Tryz.prog 5 [.agg (rnC r)] (.bool true) := by
 have FF : True := trivial
 refine apure_of Tryz.func5 rfl (by kernel_rfl) (by simp [Tryz.ntmps5]) ?_
 rw [Tryz.ntmps5]
 refine awp_rseq (by decide) fun KK hKK => ?_
 refine m_box ?_
 refine m_assign ?_
 refine hKK _ _ ?_
 clear hKK KK
 refine awp_seq ?_
 refine awp_rseq (by decide) fun KK hKK => ?_
 refine m_load ?_
 refine m_call (fun hG => rlight_ok r hl) ?_
 refine m_not ?_
 refine hKK _ _ ?_
 clear hKK KK
 refine m_cond (fun hc => ?_) (fun hc => ?_)
 · refine awp_rseq (by decide) fun KK hKK => ?_
   refine m_call (fun hG => ex_ok) ?_
   refine m_assign ?_
   refine hKK _ _ ?_
   clear hKK KK
   refine awp_ret ⟨[_], ⟨⟨(by simp only [go_sem, reduceIte, Nat.reduceEqDiff, FF]), (by simp only [go_sem, reduceIte, Nat.reduceEqDiff, FF] <;> rfl)⟩, trivial⟩, ?_⟩
   simp only [go_sem, reduceIte, Nat.reduceEqDiff, FF, tupled]
   exact CV.Sub.refl _
 clear hc
 refine awp_skip ?_
 first | rw [thenQ_normal] | rw [blockQ_normal, thenQ_normal]
 refine awp_rseq (by decide) fun KK hKK => ?_
 refine m_load ?_
 refine m_call (fun hG => encode_ok r hl) ?_
 refine m_move ?_
 refine m_extract ?_
 refine m_extract ?_
 refine m_assign ?_
 refine m_assign ?_
 refine hKK _ _ ?_
 clear hKK KK
 refine awp_rseq (by decide) fun KK hKK => ?_
 refine m_load ?_
 refine m_call (fun hG => rencode_ok r hl) ?_
 refine m_move ?_
 refine m_extract ?_
 refine m_extract ?_
 refine m_assign ?_
 refine m_assign ?_
 refine hKK _ _ ?_
 clear hKK KK
 generalize encodeF r = p at *
 refine awp_rseq (by decide) fun KK hKK => ?_
 refine m_move ?_
 refine m_move ?_
 refine m_bin ?_
 refine m_move ?_
 refine g_move ?_
 refine g_move ?_
 refine g_bin ?_
 refine m_pick ?_
 refine m_move ?_
 refine g_call (fun hG => ex_ok) ?_
 refine m_pick ?_
 refine m_assign ?_
 refine hKK _ _ ?_
 clear hKK KK
 refine awp_ret ⟨[_], ⟨⟨(by simp only [go_sem, reduceIte, Nat.reduceEqDiff, FF]), (by simp only [go_sem, reduceIte, Nat.reduceEqDiff, FF] <;> rfl)⟩, trivial⟩, ?_⟩
 simp only [go_sem, reduceIte, Nat.reduceEqDiff, FF, tupled]
 refine CV.Sub.of_eq ?_
 simp
end Go.Am
