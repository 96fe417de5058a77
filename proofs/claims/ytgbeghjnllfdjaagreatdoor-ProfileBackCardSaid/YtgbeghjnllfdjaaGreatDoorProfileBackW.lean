/- The walk of the law ProfileBack. No condition. -/
import Derived.Test.YtgbeghjnllfdjaaGreatDoorS1
import Derived.Test.YtgbeghjnllfdjaaGreatDoorS2
import Derived.Test.YtgbeghjnllfdjaaGreatDoorS3
import Derived.Test.YtgbeghjnllfdjaaGreatDoorT
set_option linter.unusedVariables false
set_option linter.unusedSimpArgs false
namespace Go.Am
section
variable {dec : Int → List UInt8} {num : List UInt8 → Option Int}
theorem line_item (N : NumOk dec num) {s : List UInt8} {x : It} (h : itemF num s = some x) : lineF dec x = s ∧ inW x.rd ∧ inW x.ed ∧ inW x.tk := by
 unfold itemF at h
 split at h
 · rename_i a b c d e hw
   split at h
   · rename_i he
     split at h
     · rename_i rd ed tk h1 h2 h3
       cases h
       have hs : s ≠ [] := fun e => by subst e; simp [wordsL] at hw
       obtain ⟨h4, _⟩ := words_some hw hs
       obtain ⟨i1, e1⟩ := N.nd _ _ h1
       obtain ⟨i2, e2⟩ := N.nd _ _ h2
       obtain ⟨i3, e3⟩ := N.nd _ _ h3
       refine ⟨?_, i1, i2, i3⟩
       have e4 : dec (bitI (e == [49])) = e := by
         rcases he with rfl | rfl
         · exact N.d0
         · exact N.d1
       show joinL [idL _, dec rd, dec ed, dec tk, dec (bitI (e == [49]))] = s
       rw [e1, e2, e3, e4]
       exact h4
     · cases h
   · cases h
 · cases h
theorem enc_dec (N : NumOk dec num) (s : List UInt8) {l : List It} (h : decF num s = some l) : encF dec l = s := by
 rw [decF] at h
 split at h
 · rename_i e
   cases h
   exact e.symm
 · split at h
   · cases h
   · rename_i l' r' h1
     split at h
     · cases h
     · rename_i x hx
       cases hd : decF num r' with
       | none => rw [hd] at h; cases h
       | some m =>
         rw [hd] at h
         cases h
         have := enc_dec N r' hd
         unfold encF at this ⊢
         rw [List.flatMap_cons, this, (line_item N hx).1, List.append_assoc]
         exact (cutL_some s l' r' h1).1.symm
 termination_by s.length
 decreasing_by exact cut_lt ‹cutL s = some _›
end
end Go.Am
namespace Go.Am
section
variable {dec : Int → List UInt8} {num : List UInt8 → Option Int}
theorem encR_dec (N : NumOk dec num) {s : List UInt8} {r : Rn} (h : decR num s = some r) : encR dec r = s := by
 unfold decR at h
 split at h
 · cases h
 · rename_i l t hc
   split at h
   · rename_i w n hw
     split at h
     · rename_i he
       cases hd : decF num t with
       | none => rw [hd] at h; cases h
       | some m =>
         rw [hd] at h
         cases h
         have hl : l ≠ [] := fun e => by subst e; simp [wordsL] at hw
         obtain ⟨h1, _⟩ := words_some hw hl
         subst he
         show joinL [runL, n] ++ 10 :: encF dec m = s
         rw [h1, enc_dec N t hd]
         exact (cutL_some s l t hc).1.symm
     · cases h
   · cases h
end
end Go.Am
namespace Go.Am
open Go.Proofs
attribute [local go_sem ↓] ofL_cons ofH_cons upd_apply
set_option maxHeartbeats 1000000
set_option linter.unusedSimpArgs false
theorem all_take {α : Type} [Inhabited α] {l : List α} {i : Nat} (h : i < l.length) (p : α → Bool) : (l.take (i + 1)).all p = ((l.take i).all p && p (l.getD i default)) := by
 rw [List.take_succ_eq_append_getElem h, List.all_append, getD_lt h]
 simp
theorem all_not {α : Type} [Inhabited α] {l : List α} {i : Nat} (h : i < l.length) {p : α → Bool} (hp : p (l.getD i default) = false) : l.all p = false := by
 rw [List.all_eq_false]
 refine ⟨l[i], List.getElem_mem h, ?_⟩
 rw [getD_lt h] at hp
 simp [hp]
def lightB (r : Rn) : Bool := !(decide ((100 : Int) < r.name.size) || decide ((270 : Int) < r.items.length)) && r.items.all fun x => !decide ((100 : Int) < x.id.size)
variable [Glb]
theorem rlight_ok (r : Rn) (hl : r.items.length ≤ 9223372036854775807) : APure Tryz.prog 10 [.agg (rnC r)] (.bool (lightB r)) := by
 have FF : True := trivial
 refine apure_of Tryz.func10 rfl (by kernel_rfl) (by simp [Tryz.ntmps10]) ?_
 rw [Tryz.ntmps10]
 refine awp_rseq (by decide) fun KK hKK => ?_
 refine m_box ?_
 refine m_assign ?_
 refine hKK _ _ ?_
 clear hKK KK
 refine awp_seq ?_
 refine awp_rseq (by decide) fun KK hKK => ?_
 refine m_field ?_
 refine m_load ?_
 refine m_len ?_
 refine m_bin ?_
 refine m_move ?_
 refine g_field ?_
 refine g_load ?_
 refine g_len ?_
 refine g_bin ?_
 refine m_pick ?_
 refine hKK _ _ ?_
 clear hKK KK
 refine m_cond (fun hc => ?_) (fun hc => ?_)
 · refine awp_rseq (by decide) fun KK hKK => ?_
   refine m_assign ?_
   refine hKK _ _ ?_
   clear hKK KK
   refine awp_ret ⟨[_], ⟨⟨(by simp only [go_sem, reduceIte, Nat.reduceEqDiff, FF]), (by simp only [go_sem, reduceIte, Nat.reduceEqDiff, FF] <;> rfl)⟩, trivial⟩, ?_⟩
   simp only [go_sem, reduceIte, Nat.reduceEqDiff, FF, tupled]
   have e0 : lightB r = false := by unfold lightB; rw [hc]; rfl
   rw [e0]
   exact CV.Sub.refl _
 refine awp_skip ?_
 first | rw [thenQ_normal] | rw [blockQ_normal, thenQ_normal]
 refine awp_seq ?_
 refine awp_rseq (by decide) fun KK hKK => ?_
 refine m_assign ?_
 refine hKK _ _ ?_
 clear hKK KK
 refine awp_block ?_
 refine m_for (ι := Nat) (fun i => [(1, .ptr 1 0), (3, .int i)]) (fun i => [(1, .box 24 ((rnC r).map .c))]) (fun i => r.items.length - i) (fun i => i ≤ r.items.length ∧ (r.items.take i).all (fun x => !decide ((100 : Int) < x.id.size)) = true) (0) ?_ ?_
 · exact ⟨Nat.zero_le _, rfl⟩
 rintro i ⟨hi, hres⟩
 have hc0 := hc
 clear hc
 refine awp_seq ?_
 refine awp_rseq (by decide) fun KK hKK => ?_
 refine m_move ?_
 refine m_field ?_
 refine m_load ?_
 refine m_len ?_
 refine m_bin ?_
 refine hKK _ _ ?_
 clear hKK KK
 refine m_cond (fun hc => ?_) (fun hc => ?_)
 · simp only [decide_eq_true_eq] at hc
   have hi' : i < r.items.length := by omega
   have w3 : IntKind.i64.wrap ((i : Int) + 1) = ((i + 1 : Nat) : Int) := wrap_in (by omega)
   have eK := itL_get hi'
   refine awp_skip ?_
   first | rw [thenQ_normal] | rw [blockQ_normal, thenQ_normal]
   refine awp_seq (awp_block ?_)
   clear hc
   have FF := And.intro eK FF
   refine awp_rseq (by decide) fun KK hKK => ?_
   refine m_field ?_
   refine m_load ?_
   refine m_move ?_
   first | refine m_index ?_ | refine m_idxA ?_
   refine m_field ?_
   refine m_load ?_
   refine m_len ?_
   refine m_bin ?_
   refine hKK _ _ ?_
   clear hKK KK
   refine m_cond (fun hc => ?_) (fun hc => ?_)
   · refine awp_rseq (by decide) fun KK hKK => ?_
     refine m_assign ?_
     refine hKK _ _ ?_
     clear hKK KK
     refine awp_ret ⟨[_], ⟨⟨(by simp only [go_sem, reduceIte, Nat.reduceEqDiff, FF]), (by simp only [go_sem, reduceIte, Nat.reduceEqDiff, FF] <;> rfl)⟩, trivial⟩, ?_⟩
     simp only [go_sem, reduceIte, Nat.reduceEqDiff, FF, tupled]
     have e0 : lightB r = false := by unfold lightB; rw [all_not hi' (by rw [hc]; rfl)]; simp
     rw [e0]
     exact CV.Sub.refl _
   refine awp_skip ?_
   first | rw [thenQ_normal] | rw [blockQ_normal, thenQ_normal]
   have FF := And.intro w3 FF
   refine awp_rlast (by decide) fun KK hKK => ?_
   refine m_move ?_
   refine m_bin ?_
   refine m_assign ?_
   refine hKK _ _ ?_
   clear hKK KK
   try rw [thenQ_normal]
   refine m_next (i + 1) ?_ ?_
   · exact ⟨hi', by rw [all_take hi', hres, hc]; rfl⟩
   · omega
 · refine awp_exit ?_
   simp only [thenQ_exit, blockQ_exit, reduceIte, Nat.reduceEqDiff]
   try rw [thenQ_normal]
   have hi' : i = r.items.length := by simp only [decide_eq_false_iff_not] at hc; omega
   refine awp_rseq (by decide) fun KK hKK => ?_
   refine m_assign ?_
   refine hKK _ _ ?_
   clear hKK KK
   refine awp_ret ⟨[_], ⟨⟨(by simp only [go_sem, reduceIte, Nat.reduceEqDiff, FF]), (by simp only [go_sem, reduceIte, Nat.reduceEqDiff, FF] <;> rfl)⟩, trivial⟩, ?_⟩
   simp only [go_sem, reduceIte, Nat.reduceEqDiff, FF, tupled]
   have e0 : lightB r = true := by
     unfold lightB
     rw [hi', List.take_length] at hres
     rw [hc0, hres]; rfl
   rw [e0]
   exact CV.Sub.refl _
end Go.Am
namespace Go.Am
open Go.Proofs
theorem decode_zero {s : ByteArray} (h : (decodeF s).2 ≠ 0) : (decodeF s).1 = rn0 := by
 revert h
 unfold decodeF endF
 split
 · simp
 · split
   · simp
   · split
     · simp
     · split
       · simp
       · split <;> simp
theorem back_enc {s : ByteArray} (h : (decodeF s).2 = 0) : encodeF (decodeF s).1 = (s, 0) := by
 have h0 : decodeF s = ((decodeF s).1, 0) := Prod.ext rfl h
 obtain ⟨h1, h2, h3⟩ := decode_ok.1 h0
 rw [enc_data h3, encR_dec numOk h2]
end Go.Am
namespace Go.Am
open Go.Proofs
attribute [local go_sem ↓] ofL_cons ofH_cons upd_apply
set_option maxHeartbeats 4000000
set_option linter.unusedSimpArgs false
theorem decode_len (s : ByteArray) : (decodeF s).1.items.length ≤ 256 := by
 by_cases h : (decodeF s).2 = 0
 · have h0 : decodeF s = ((decodeF s).1, 0) := Prod.ext rfl h
   exact check_len (decode_ok.1 h0).2.2
 · rw [decode_zero h]
   exact Nat.zero_le _
variable [Glb] [NoDr] [Tabs] [TabM]
theorem back_ok (r : Rn) (s : ByteArray) (hl : r.items.length ≤ 9223372036854775807) : APure Tryz.prog 7 [.agg (rnC r), .str s] (.bool true) := by
 have FF : True := trivial
 refine apure_of Tryz.func7 rfl (by kernel_rfl) (by simp [Tryz.ntmps7]) ?_
 rw [Tryz.ntmps7]
 refine awp_rseq (by decide) fun KK hKK => ?_
 refine m_box ?_
 refine m_assign ?_
 refine hKK _ _ ?_
 clear hKK KK
 refine awp_seq ?_
 refine awp_rseq (by decide) fun KK hKK => ?_
 refine m_load ?_
 refine m_call (fun hG => rlight_ok r hl) ?_
 refine m_not ?_
 refine m_move ?_
 refine g_move ?_
 refine g_len ?_
 refine g_bin ?_
 refine m_pick ?_
 refine hKK _ _ ?_
 clear hKK KK
 refine m_cond (fun hc => ?_) (fun hc => ?_)
 · refine awp_rseq (by decide) fun KK hKK => ?_
   refine m_call (fun hG => ex_ok) ?_
   refine m_assign ?_
   refine hKK _ _ ?_
   clear hKK KK
   refine awp_ret ⟨[_], ⟨⟨(by simp only [go_sem, reduceIte, Nat.reduceEqDiff, FF]), (by simp only [go_sem, reduceIte, Nat.reduceEqDiff, FF] <;> rfl)⟩, trivial⟩, ?_⟩
   simp only [go_sem, reduceIte, Nat.reduceEqDiff, FF, tupled]
   exact CV.Sub.refl _
 clear hc
 refine awp_skip ?_
 first | rw [thenQ_normal] | rw [blockQ_normal, thenQ_normal]
 refine awp_rseq (by decide) fun KK hKK => ?_
 refine m_load ?_
 refine m_call (fun hG => encode_ok r hl) ?_
 refine m_move ?_
 refine m_extract ?_
 refine m_extract ?_
 refine m_assign ?_
 refine m_assign ?_
 refine hKK _ _ ?_
 clear hKK KK
 refine m_join (ι := Unit) (fun i => [(1, .str s)]) (fun i => []) (fun i => True) ?_ ?_
 · refine awp_rseq (by decide) fun KK hKK => ?_
   refine m_move ?_
   refine m_bin ?_
   refine hKK _ _ ?_
   clear hKK KK
   refine m_cond (fun hc => ?_) (fun hc => ?_)
   · have he : (encodeF r).2 = 0 := by simpa using hc
     have hbk := back_dec he
     have hdec : APure Tryz.prog _ _ _ := decode_go (encodeF r).1
     rw [hbk] at hdec
     clear hc
     refine awp_rseq (by decide) fun KK hKK => ?_
     refine m_move ?_
     refine m_call (fun hG => hdec) ?_
     refine m_move ?_
     refine m_extract ?_
     refine m_extract ?_
     refine m_alloc ?_
     first | refine m_stPtr ?_ | refine m_stRp ?_
     refine m_assign ?_
     refine hKK _ _ ?_
     clear hKK KK
     refine awp_rseq (by decide) fun KK hKK => ?_
     refine m_move ?_
     refine m_bin ?_
     refine m_move ?_
     refine g_load ?_
     refine g_load ?_
     refine g_call (fun hG => rsame_ok r r hl) ?_
     refine g_not ?_
     refine m_pick ?_
     refine hKK _ _ ?_
     clear hKK KK
     refine m_cond (fun hc => ?_) (fun hc => ?_)
     · exact absurd hc (by simp)
     refine awp_skip ?_
     try rw [thenQ_normal]
     refine ⟨(), ?_, (by simp only [List.forall_mem_cons, List.forall_mem_nil, go_sem, reduceIte, Nat.reduceEqDiff, FF]; all_goals ((repeat' apply And.intro) <;> first | trivial | rfl | exact objLe_refl _ | (intro _ _; exact Subs.refl _))), (by simp only [List.forall_mem_cons, List.forall_mem_nil, go_sem, reduceIte, Nat.reduceEqDiff, FF]; all_goals ((repeat' apply And.intro) <;> first | trivial | rfl | exact objLe_refl _ | (intro _ _; exact Subs.refl _)))⟩
     trivial
   refine awp_skip ?_
   try rw [thenQ_normal]
   refine ⟨(), ?_, (by simp only [List.forall_mem_cons, List.forall_mem_nil, go_sem, reduceIte, Nat.reduceEqDiff, FF]; all_goals ((repeat' apply And.intro) <;> first | trivial | rfl | exact objLe_refl _ | (intro _ _; exact Subs.refl _))), (by simp only [List.forall_mem_cons, List.forall_mem_nil, go_sem, reduceIte, Nat.reduceEqDiff, FF]; all_goals ((repeat' apply And.intro) <;> first | trivial | rfl | exact objLe_refl _ | (intro _ _; exact Subs.refl _)))⟩
   trivial
 rintro - -
 refine awp_rseq (by decide) fun KK hKK => ?_
 refine m_move ?_
 refine m_call (fun hG => decode_go s) ?_
 refine m_move ?_
 refine m_extract ?_
 refine m_extract ?_
 refine m_alloc ?_
 first | refine m_stPtr ?_ | refine m_stRp ?_
 refine m_assign ?_
 refine hKK _ _ ?_
 clear hKK KK
 have hz := @decode_zero s
 have he := @back_enc s
 have hlen := decode_len s
 generalize decodeF s = p at *
 refine awp_seq ?_
 refine awp_rseq (by decide) fun KK hKK => ?_
 refine m_move ?_
 refine m_bin ?_
 refine hKK _ _ ?_
 clear hKK KK
 refine m_cond (fun hc => ?_) (fun hc => ?_)
 · have h0 : p.1 = rn0 := hz (by simpa using hc)
   rw [h0]
   refine awp_rseq (by decide) fun KK hKK => ?_
   refine m_field ?_
   refine m_load ?_
   refine m_bin ?_
   refine m_move ?_
   refine g_field ?_
   refine g_load ?_
   refine g_len ?_
   refine g_bin ?_
   refine m_pick ?_
   refine m_move ?_
   refine g_call (fun hG => ex_ok) ?_
   refine m_pick ?_
   refine m_assign ?_
   refine hKK _ _ ?_
   clear hKK KK
   refine awp_ret ⟨[_], ⟨⟨(by simp only [go_sem, reduceIte, Nat.reduceEqDiff, FF]), (by simp only [go_sem, reduceIte, Nat.reduceEqDiff, FF] <;> rfl)⟩, trivial⟩, ?_⟩
   simp only [go_sem, reduceIte, Nat.reduceEqDiff, FF, tupled]
   refine CV.Sub.of_eq ?_
   kernel_rfl
 have h1 := he (by simpa using hc)
 clear hc
 refine awp_skip ?_
 first | rw [thenQ_normal] | rw [blockQ_normal, thenQ_normal]
 have henc : APure Tryz.prog _ _ _ := encode_ok p.1 (by omega)
 rw [h1] at henc
 refine awp_rseq (by decide) fun KK hKK => ?_
 refine m_load ?_
 refine m_call (fun hG => henc) ?_
 refine m_move ?_
 refine m_extract ?_
 refine m_extract ?_
 refine m_assign ?_
 refine m_assign ?_
 refine hKK _ _ ?_
 clear hKK KK
 refine awp_rseq (by decide) fun KK hKK => ?_
 refine m_move ?_
 refine m_bin ?_
 refine m_move ?_
 refine g_move ?_
 refine g_move ?_
 refine g_bin ?_
 refine m_pick ?_
 refine m_move ?_
 refine g_call (fun hG => ex_ok) ?_
 refine m_pick ?_
 refine m_assign ?_
 refine hKK _ _ ?_
 clear hKK KK
 refine awp_ret ⟨[_], ⟨⟨(by simp only [go_sem, reduceIte, Nat.reduceEqDiff, FF]), (by simp only [go_sem, reduceIte, Nat.reduceEqDiff, FF] <;> rfl)⟩, trivial⟩, ?_⟩
 simp only [go_sem, reduceIte, Nat.reduceEqDiff, FF, tupled]
 refine CV.Sub.of_eq ?_
 simp
end Go.Am
