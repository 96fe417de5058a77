/- Contracts: equal lists, equal spans, an entry's edge, an edge that extends another, the chart of some edges. No condition. -/
import Derived.Test.YtfepiaclbokkjaaW6
import Derived.Laws.StructEq
namespace Go.Am
open Go.Proofs
attribute [local go_sem ↓] ofL_cons ofH_cons upd_apply
attribute [local go_sem] cellsD cellsE cellsC
set_option maxHeartbeats 1000000
set_option linter.unusedSimpArgs false

theorem ne_of_get {α : Type} {a b : List α} {i : Nat} (d : α) (h : a.getD i d ≠ b.getD i d) : a ≠ b := fun e => h (by rw [e])
theorem take_eq_succ {α : Type} {a b : List α} {i : Nat} (d : α) (hl : a.length = b.length) (hi : i < a.length) (h : a.take i = b.take i) (he : a.getD i d = b.getD i d) : a.take (i + 1) = b.take (i + 1) := by
  rw [take_snoc hi, take_snoc (by omega), h]
  rw [getD_lt hi, getD_lt (by omega)] at he
  rw [he]

theorem same_ok (a b : List Int) (hl : a.length ≤ 1000000) : APure Try.prog 11 [encInts a, encInts b] (.bool (decide (a = b))) := by
  have FF : True := trivial
  refine apure_of Try.func11 rfl (by kernel_rfl) (by simp [Try.ntmps11]) ?_
  rw [Try.ntmps11]
  refine awp_rseq (by decide) fun KK hKK => ?_
  refine m_assign ?_
  refine hKK _ _ ?_
  clear hKK KK
  refine awp_seq ?_
  refine awp_rseq (by decide) fun KK hKK => ?_
  refine m_move ?_
  refine m_len ?_
  refine m_move ?_
  refine m_len ?_
  refine m_bin ?_
  refine hKK _ _ ?_
  clear hKK KK
  refine m_cond (fun hc => ?_) (fun hc => ?_)
  · refine awp_rseq (by decide) fun KK hKK => ?_
    refine m_assign ?_
    refine hKK _ _ ?_
    clear hKK KK
    refine awp_ret ⟨[_], ⟨⟨(by simp only [go_sem, reduceIte, Nat.reduceEqDiff, FF]), (by simp only [go_sem, reduceIte, Nat.reduceEqDiff, FF] <;> rfl)⟩, trivial⟩, ?_⟩
    simp only [go_sem, reduceIte, Nat.reduceEqDiff, FF, tupled]
    have : a ≠ b := fun e => by rw [e] at hc; simp at hc
    exact CV.Sub.of_eq (by simp [this])
  refine awp_skip ?_
  first | rw [thenQ_normal] | rw [blockQ_normal, thenQ_normal]
  have hab : a.length = b.length := by simp only [bne_eq_false_iff_eq] at hc; omega
  clear hc
  refine awp_seq ?_
  refine awp_rseq (by decide) fun KK hKK => ?_
  refine m_assign ?_
  refine hKK _ _ ?_
  clear hKK KK
  refine awp_block ?_
  refine m_for (ι := Nat) (fun i => [(0, .c (encInts a)), (1, .c (encInts b)), (5, .int i)]) (fun i => []) (fun i => a.length - i) (fun i => i ≤ a.length ∧ a.take i = b.take i) (0) ?_ ?_
  · exact ⟨Nat.zero_le _, rfl⟩
  rintro i ⟨hi, hres⟩
  refine awp_seq ?_
  refine awp_rseq (by decide) fun KK hKK => ?_
  refine m_move ?_
  refine m_move ?_
  refine m_len ?_
  refine m_bin ?_
  refine hKK _ _ ?_
  clear hKK KK
  refine m_cond (fun hc => ?_) (fun hc => ?_)
  · simp only [decide_eq_true_eq] at hc
    have hi' : i < a.length := by omega
    have hi2 : i < b.length := by omega
    have w3 : IntKind.i64.wrap ((i : Int) + 1) = ((i + 1 : Nat) : Int) := wrap_in (by omega)
    refine awp_skip ?_
    first | rw [thenQ_normal] | rw [blockQ_normal, thenQ_normal]
    refine awp_seq (awp_block ?_)
    clear hc
    refine awp_rseq_draw Try.mixed (by decide) (by kernel_rfl) fun KK hKK => ?_
    refine m_move ?_
    refine m_move ?_
    refine m_index ?_
    refine m_load ?_
    refine m_move ?_
    refine m_move ?_
    refine m_index ?_
    refine m_load ?_
    refine m_bin ?_
    refine hKK _ _ ?_
    clear hKK KK
    refine m_cond (fun hc => ?_) (fun hc => ?_)
    · refine awp_rseq (by decide) fun KK hKK => ?_
      refine m_assign ?_
      refine hKK _ _ ?_
      clear hKK KK
      refine awp_ret ⟨[_], ⟨⟨(by simp only [go_sem, reduceIte, Nat.reduceEqDiff, FF]), (by simp only [go_sem, reduceIte, Nat.reduceEqDiff, FF] <;> rfl)⟩, trivial⟩, ?_⟩
      simp only [go_sem, reduceIte, Nat.reduceEqDiff, FF, tupled]
      have : a ≠ b := ne_of_get (i := i) 0 (by simpa using hc)
      exact CV.Sub.of_eq (by simp [this])
    refine awp_skip ?_
    first | rw [thenQ_normal] | rw [blockQ_normal, thenQ_normal]
    have FF := And.intro w3 FF
    refine awp_rlast (by decide) fun KK hKK => ?_
    refine m_move ?_
    refine m_bin ?_
    refine m_assign ?_
    refine hKK _ _ ?_
    clear hKK KK
    try rw [thenQ_normal]
    refine m_next (i + 1) ?_ ?_
    · exact ⟨hi', take_eq_succ 0 hab hi' hres (by simpa using hc)⟩
    · omega
  · refine awp_exit ?_
    simp only [thenQ_exit, blockQ_exit, reduceIte, Nat.reduceEqDiff]
    try rw [thenQ_normal]
    have hi' : i = a.length := by simp only [decide_eq_false_iff_not] at hc; omega
    have : a = b := by rw [hi', List.take_length, hab, List.take_length] at hres; exact hres
    refine awp_rseq (by decide) fun KK hKK => ?_
    refine m_assign ?_
    refine hKK _ _ ?_
    clear hKK KK
    refine awp_ret ⟨[_], ⟨⟨(by simp only [go_sem, reduceIte, Nat.reduceEqDiff, FF]), (by simp only [go_sem, reduceIte, Nat.reduceEqDiff, FF] <;> rfl)⟩, trivial⟩, ?_⟩
    simp only [go_sem, reduceIte, Nat.reduceEqDiff, FF, tupled]
    exact CV.Sub.of_eq (by simp [this])

theorem span_neq (a b c d : Int) : AggBin Try.prog .neq 45 [.int .i64 a, .int .i64 b] [.int .i64 c, .int .i64 d] (.bool (!(a == c && b == d))) := by
  intro y z w
  have hm : Try.prog.eqGuardType Try.prog.depth 45 = false := by kernel_rfl
  have hp : Try.prog.stoodInHeld 45 = false := by kernel_rfl
  have hf : Try.prog.underlying 45 = some (.struct (Try.prog.fieldsOf 45)) := by kernel_rfl
  simp only [Sem.run_bind, run_eqGuard_agg w .neq 45 y z _ _ hm, Result.andThen_ok, run_neq_struct, run_equalIn_struct w 9999 45 _ _ hf hp]
  simp [go_sem, Try.underlying45]
  by_cases h1 : a = c <;> by_cases h2 : b = d <;> simp [h1, h2]

theorem sameSpans_ok (a b : List (Int × Int)) (hl : a.length ≤ 1000000) : APure Try.prog 16 [encSpans a, encSpans b] (.bool (decide (a = b))) := by
  have FF : True := trivial
  refine apure_of Try.func16 rfl (by kernel_rfl) (by simp [Try.ntmps16]) ?_
  rw [Try.ntmps16]
  refine awp_rseq (by decide) fun KK hKK => ?_
  refine m_assign ?_
  refine hKK _ _ ?_
  clear hKK KK
  refine awp_seq ?_
  refine awp_rseq (by decide) fun KK hKK => ?_
  refine m_move ?_
  refine m_len ?_
  refine m_move ?_
  refine m_len ?_
  refine m_bin ?_
  refine hKK _ _ ?_
  clear hKK KK
  refine m_cond (fun hc => ?_) (fun hc => ?_)
  · refine awp_rseq (by decide) fun KK hKK => ?_
    refine m_assign ?_
    refine hKK _ _ ?_
    clear hKK KK
    refine awp_ret ⟨[_], ⟨⟨(by simp only [go_sem, reduceIte, Nat.reduceEqDiff, FF]), (by simp only [go_sem, reduceIte, Nat.reduceEqDiff, FF] <;> rfl)⟩, trivial⟩, ?_⟩
    simp only [go_sem, reduceIte, Nat.reduceEqDiff, FF, tupled]
    have : a ≠ b := fun e => by rw [e] at hc; simp at hc
    exact CV.Sub.of_eq (by simp [this])
  refine awp_skip ?_
  first | rw [thenQ_normal] | rw [blockQ_normal, thenQ_normal]
  have hab : a.length = b.length := by simp only [bne_eq_false_iff_eq] at hc; omega
  clear hc
  refine awp_seq ?_
  refine awp_rseq (by decide) fun KK hKK => ?_
  refine m_assign ?_
  refine hKK _ _ ?_
  clear hKK KK
  refine awp_block ?_
  refine m_for (ι := Nat) (fun i => [(0, .c (encSpans a)), (1, .c (encSpans b)), (5, .int i)]) (fun i => []) (fun i => a.length - i) (fun i => i ≤ a.length ∧ a.take i = b.take i) (0) ?_ ?_
  · exact ⟨Nat.zero_le _, rfl⟩
  rintro i ⟨hi, hres⟩
  refine awp_seq ?_
  refine awp_rseq (by decide) fun KK hKK => ?_
  refine m_move ?_
  refine m_move ?_
  refine m_len ?_
  refine m_bin ?_
  refine hKK _ _ ?_
  clear hKK KK
  refine m_cond (fun hc => ?_) (fun hc => ?_)
  · simp only [decide_eq_true_eq] at hc
    have hi' : i < a.length := by omega
    have hi2 : i < b.length := by omega
    have w3 : IntKind.i64.wrap ((i : Int) + 1) = ((i + 1 : Nat) : Int) := wrap_in (by omega)
    refine awp_skip ?_
    first | rw [thenQ_normal] | rw [blockQ_normal, thenQ_normal]
    refine awp_seq (awp_block ?_)
    clear hc
    refine awp_rseq_draw Try.mixed (by decide) (by kernel_rfl) fun KK hKK => ?_
    refine st0 rfl (k_move (by simp only [go_sem, reduceIte, Nat.reduceEqDiff, FF, rawsL, Option.map_some] <;> rfl)) ?_
    refine st0 rfl (k_move (by simp only [go_sem, reduceIte, Nat.reduceEqDiff, FF, rawsL, Option.map_some] <;> rfl)) ?_
    refine st1 rfl (k_index (by simp only [go_sem, reduceIte, Nat.reduceEqDiff, FF, rawsL, Option.map_some] <;> rfl) (by simp only [go_sem, reduceIte, Nat.reduceEqDiff, FF, rawsL, Option.map_some] <;> rfl) (by simp only [go_sem] <;> rfl) (by rfl) (by simp only [go_sem] <;> rfl) (by rfl) (by intro hG; simp only [go_sem]) (by first | exact im_im (by first | (simp only [go_sem, reduceIte, Nat.reduceEqDiff, FF, rawsL, Option.map_some, Nat.reduceAdd, Nat.reduceSub, Nat.reduceMul, Nat.reduceLeDiff, Int.reduceToNat] <;> rfl) | rfl) (by intro hG; (repeat' apply And.intro) <;> first | rfl | omega | (dsimp only; omega) | (simp; done)) | exact im_own (by simp only [go_sem, reduceIte, Nat.reduceEqDiff, FF, rawsL, Option.map_some] <;> rfl) (by first | (simp only [go_sem, reduceIte, Nat.reduceEqDiff, FF, rawsL, Option.map_some, Nat.reduceAdd, Nat.reduceSub, Nat.reduceMul, Nat.reduceLeDiff, Int.reduceToNat] <;> rfl) | rfl) (by intro hG; (repeat' apply And.intro) <;> first | rfl | omega | (dsimp only; omega) | (simp; done)) | exact im_osub (by simp only [go_sem, reduceIte, Nat.reduceEqDiff, FF, rawsL, Option.map_some] <;> rfl) (by first | (simp only [go_sem, reduceIte, Nat.reduceEqDiff, FF, rawsL, Option.map_some, Nat.reduceAdd, Nat.reduceSub, Nat.reduceMul, Nat.reduceLeDiff, Int.reduceToNat] <;> rfl) | rfl) (by intro hG; (repeat' apply And.intro) <;> first | rfl | omega | (dsimp only; omega) | (simp; done)))) ?_
    refine st1 rfl (k_load (by simp only [go_sem, reduceIte, Nat.reduceEqDiff, FF, rawsL, Option.map_some] <;> rfl) (by simp only [go_sem] <;> rfl) (by rfl) (by intro hG; simp only [go_sem]) (by first | exact lm_ptr (by simp only [go_sem, reduceIte, Nat.reduceEqDiff, FF, rawsL, Option.map_some] <;> rfl) (by simp only [go_sem, reduceIte, Nat.reduceEqDiff, FF, rawsL, Option.map_some, Nat.reduceAdd, Nat.reduceSub, Nat.reduceMul, Nat.reduceLeDiff] <;> rfl) (fun _ => Nat.le_of_ble_eq_true rfl) | exact lm_pim (by simp only [go_sem, reduceIte, Nat.reduceEqDiff, FF, rawsL, Option.map_some, Nat.reduceAdd, Nat.reduceSub, Nat.reduceMul, Nat.reduceLeDiff] <;> rfl) (fun _ => Nat.le_of_ble_eq_true rfl) | exact lm_rp (by simp only [go_sem, reduceIte, Nat.reduceEqDiff, FF, rawsL, Option.map_some] <;> rfl) (by simp only [go_sem, reduceIte, Nat.reduceEqDiff, FF, rawsL, Option.map_some, Nat.reduceAdd, Nat.reduceSub, Nat.reduceMul, Nat.reduceLeDiff] <;> rfl) (by intro hG; (repeat' apply And.intro) <;> first | rfl | omega | (dsimp only; omega) | (simp; done)))) ?_
    refine st0 rfl (k_move (by simp only [go_sem, reduceIte, Nat.reduceEqDiff, FF, rawsL, Option.map_some] <;> rfl)) ?_
    refine st0 rfl (k_move (by simp only [go_sem, reduceIte, Nat.reduceEqDiff, FF, rawsL, Option.map_some] <;> rfl)) ?_
    refine st1 rfl (k_index (by simp only [go_sem, reduceIte, Nat.reduceEqDiff, FF, rawsL, Option.map_some] <;> rfl) (by simp only [go_sem, reduceIte, Nat.reduceEqDiff, FF, rawsL, Option.map_some] <;> rfl) (by simp only [go_sem] <;> rfl) (by rfl) (by simp only [go_sem] <;> rfl) (by rfl) (by intro hG; simp only [go_sem]) (by first | exact im_im (by first | (simp only [go_sem, reduceIte, Nat.reduceEqDiff, FF, rawsL, Option.map_some, Nat.reduceAdd, Nat.reduceSub, Nat.reduceMul, Nat.reduceLeDiff, Int.reduceToNat] <;> rfl) | rfl) (by intro hG; (repeat' apply And.intro) <;> first | rfl | omega | (dsimp only; omega) | (simp; done)) | exact im_own (by simp only [go_sem, reduceIte, Nat.reduceEqDiff, FF, rawsL, Option.map_some] <;> rfl) (by first | (simp only [go_sem, reduceIte, Nat.reduceEqDiff, FF, rawsL, Option.map_some, Nat.reduceAdd, Nat.reduceSub, Nat.reduceMul, Nat.reduceLeDiff, Int.reduceToNat] <;> rfl) | rfl) (by intro hG; (repeat' apply And.intro) <;> first | rfl | omega | (dsimp only; omega) | (simp; done)) | exact im_osub (by simp only [go_sem, reduceIte, Nat.reduceEqDiff, FF, rawsL, Option.map_some] <;> rfl) (by first | (simp only [go_sem, reduceIte, Nat.reduceEqDiff, FF, rawsL, Option.map_some, Nat.reduceAdd, Nat.reduceSub, Nat.reduceMul, Nat.reduceLeDiff, Int.reduceToNat] <;> rfl) | rfl) (by intro hG; (repeat' apply And.intro) <;> first | rfl | omega | (dsimp only; omega) | (simp; done)))) ?_
    refine st1 rfl (k_load (by simp only [go_sem, reduceIte, Nat.reduceEqDiff, FF, rawsL, Option.map_some] <;> rfl) (by simp only [go_sem] <;> rfl) (by rfl) (by intro hG; simp only [go_sem]) (by first | exact lm_ptr (by simp only [go_sem, reduceIte, Nat.reduceEqDiff, FF, rawsL, Option.map_some] <;> rfl) (by simp only [go_sem, reduceIte, Nat.reduceEqDiff, FF, rawsL, Option.map_some, Nat.reduceAdd, Nat.reduceSub, Nat.reduceMul, Nat.reduceLeDiff] <;> rfl) (fun _ => Nat.le_of_ble_eq_true rfl) | exact lm_pim (by simp only [go_sem, reduceIte, Nat.reduceEqDiff, FF, rawsL, Option.map_some, Nat.reduceAdd, Nat.reduceSub, Nat.reduceMul, Nat.reduceLeDiff] <;> rfl) (fun _ => Nat.le_of_ble_eq_true rfl) | exact lm_rp (by simp only [go_sem, reduceIte, Nat.reduceEqDiff, FF, rawsL, Option.map_some] <;> rfl) (by simp only [go_sem, reduceIte, Nat.reduceEqDiff, FF, rawsL, Option.map_some, Nat.reduceAdd, Nat.reduceSub, Nat.reduceMul, Nat.reduceLeDiff] <;> rfl) (by intro hG; (repeat' apply And.intro) <;> first | rfl | omega | (dsimp only; omega) | (simp; done)))) ?_
    refine st0 rfl (k_binA (by simp only [go_sem, reduceIte, Nat.reduceEqDiff, FF, rawsL, Option.map_some] <;> rfl) (by simp only [go_sem, reduceIte, Nat.reduceEqDiff, FF, rawsL, Option.map_some] <;> rfl) (by simp only [go_sem, reduceIte, Nat.reduceEqDiff, FF, rawsL, Option.map_some] <;> rfl) (by simp only [go_sem, reduceIte, Nat.reduceEqDiff, FF, rawsL, Option.map_some] <;> rfl) (span_neq _ _ _ _) (by intro hG; simp only [go_sem])) ?_
    refine hKK _ _ ?_
    clear hKK KK
    refine m_cond (fun hc => ?_) (fun hc => ?_)
    · refine awp_rseq (by decide) fun KK hKK => ?_
      refine m_assign ?_
      refine hKK _ _ ?_
      clear hKK KK
      refine awp_ret ⟨[_], ⟨⟨(by simp only [go_sem, reduceIte, Nat.reduceEqDiff, FF]), (by simp only [go_sem, reduceIte, Nat.reduceEqDiff, FF] <;> rfl)⟩, trivial⟩, ?_⟩
      simp only [go_sem, reduceIte, Nat.reduceEqDiff, FF, tupled]
      have : a ≠ b := ne_of_get (i := i) (0, 0) (fun e => by rw [e] at hc; simp at hc)
      exact CV.Sub.of_eq (by simp [this])
    refine awp_skip ?_
    first | rw [thenQ_normal] | rw [blockQ_normal, thenQ_normal]
    have FF := And.intro w3 FF
    refine awp_rlast (by decide) fun KK hKK => ?_
    refine m_move ?_
    refine m_bin ?_
    refine m_assign ?_
    refine hKK _ _ ?_
    clear hKK KK
    try rw [thenQ_normal]
    refine m_next (i + 1) ?_ ?_
    · refine ⟨hi', take_eq_succ (0, 0) hab hi' hres ?_⟩
      simp only [Bool.not_eq_false', Bool.and_eq_true, beq_iff_eq] at hc
      exact Prod.ext hc.1 hc.2
    · omega
  · refine awp_exit ?_
    simp only [thenQ_exit, blockQ_exit, reduceIte, Nat.reduceEqDiff]
    try rw [thenQ_normal]
    have hi' : i = a.length := by simp only [decide_eq_false_iff_not] at hc; omega
    have : a = b := by rw [hi', List.take_length, hab, List.take_length] at hres; exact hres
    refine awp_rseq (by decide) fun KK hKK => ?_
    refine m_assign ?_
    refine hKK _ _ ?_
    clear hKK KK
    refine awp_ret ⟨[_], ⟨⟨(by simp only [go_sem, reduceIte, Nat.reduceEqDiff, FF]), (by simp only [go_sem, reduceIte, Nat.reduceEqDiff, FF] <;> rfl)⟩, trivial⟩, ?_⟩
    simp only [go_sem, reduceIte, Nat.reduceEqDiff, FF, tupled]
    exact CV.Sub.of_eq (by simp [this])

def wid (e : Ed) : Int := IntKind.i64.wrap (e.to - e.frm)
def extF (a b : Ed) : Bool := decide (a.frm ≤ b.frm) && decide (b.to ≤ a.to) && decide (wid b < wid a)

theorem extends_ok (a b : Ed) : APure Try.prog 25 [.agg (cellsE a), .agg (cellsE b)] (.bool (extF a b)) := by
  have FF : True := trivial
  refine apure_of Try.func25 rfl (by kernel_rfl) (by simp [Try.ntmps25]) ?_
  rw [Try.ntmps25]
  refine awp_rseq (by decide) fun KK hKK => ?_
  refine m_box ?_
  refine m_box ?_
  refine m_assign ?_
  refine hKK _ _ ?_
  clear hKK KK
  refine awp_rseq (by decide) fun KK hKK => ?_
  refine m_field ?_
  refine m_load ?_
  refine m_field ?_
  refine m_load ?_
  refine m_bin ?_
  refine m_move ?_
  refine g_field ?_
  refine g_load ?_
  refine g_field ?_
  refine g_load ?_
  refine g_bin ?_
  refine m_pick ?_
  refine m_move ?_
  refine g_field ?_
  refine g_load ?_
  refine g_field ?_
  refine g_load ?_
  refine g_bin ?_
  refine g_field ?_
  refine g_load ?_
  refine g_field ?_
  refine g_load ?_
  refine g_bin ?_
  refine g_bin ?_
  refine m_pick ?_
  refine m_assign ?_
  refine hKK _ _ ?_
  clear hKK KK
  refine awp_ret ⟨[_], ⟨⟨(by simp only [go_sem, reduceIte, Nat.reduceEqDiff, FF]), (by simp only [go_sem, reduceIte, Nat.reduceEqDiff, FF] <;> rfl)⟩, trivial⟩, ?_⟩
  simp only [go_sem, reduceIte, Nat.reduceEqDiff, FF, tupled]
  exact CV.Sub.refl _

def itemE (name : ByteArray) (frm to : Int) : Ed := ⟨frm, to, 0, 1, name, [], .mk 0 name frm to [], []⟩
theorem item_ok (name : ByteArray) (frm to : Int) : APure Try.prog 24 [.str name, .int frm, .int to] (.agg (cellsE (itemE name frm to))) := by
  have FF : True := trivial
  refine apure_of Try.func24 rfl (by kernel_rfl) (by simp [Try.ntmps24]) ?_
  rw [Try.ntmps24]
  refine awp_rseq (by decide) fun KK hKK => ?_
  refine m_alloc ?_
  refine hKK _ _ ?_
  clear hKK KK
  refine awp_rseq (by decide) fun KK hKK => ?_
  refine m_move ?_
  refine m_move ?_
  refine m_move ?_
  refine m_move ?_
  refine m_move ?_
  refine m_move ?_
  refine m_build ?_
  refine m_build ?_
  first | refine m_stPtr ?_ | refine m_stRp ?_
  refine hKK _ _ ?_
  clear hKK KK
  refine awp_ret ⟨[_], ⟨k_load (by simp only [go_sem, reduceIte, Nat.reduceEqDiff, FF] <;> rfl) (by simp only [go_sem] <;> rfl) (by rfl) (by intro hG; simp only [go_sem]) (by exact lm_ptr (by simp only [go_sem, reduceIte, Nat.reduceEqDiff, FF] <;> rfl) (by simp only [go_sem, reduceIte, Nat.reduceEqDiff, FF, Nat.reduceAdd, Nat.reduceSub, Nat.reduceMul, Nat.reduceLeDiff] <;> rfl) (fun _ => Nat.le_of_ble_eq_true rfl)), trivial⟩, ?_⟩
  simp only [go_sem, reduceIte, Nat.reduceEqDiff, FF, tupled]
  refine sub_agg ⟨CV.Sub.refl _, CV.Sub.refl _, CV.Sub.refl _, CV.Sub.refl _, CV.Sub.refl _, CV.Sub.im0 rfl rfl, CV.Sub.refl _, CV.Sub.refl _, CV.Sub.refl _, CV.Sub.refl _, CV.Sub.im0 rfl rfl, CV.Sub.im0 rfl rfl, trivial⟩

def chartedF (words : Int) (l : List Ed) : Ch × Bool := if !lightF l 14 then (⟨0, []⟩, false) else (canonF (buildF (1 + words.tmod 8) l), true)

theorem light_lex {l : List Ed} (h : lightF l 14 = true) : l.length ≤ 14 ∧ ∀ e ∈ l, okD e.lex := by
  unfold lightF at h
  rw [Bool.and_eq_true, List.all_eq_true] at h
  refine ⟨by have := h.1; simp at this; omega, fun e he => ?_⟩
  have := h.2 e he
  unfold lightE at this
  simp only [Bool.and_eq_true, Bool.not_eq_true', Bool.or_eq_false_iff, decide_eq_false_iff_not] at this
  exact okD_nodes e.lex 21 (by decide) (by omega)

theorem build_wf (words : Int) {l : List Ed} (hl : l.length ≤ 14) (ho : ∀ e ∈ l, okD e.lex) : WF (buildF words l) := by
  have hnw := new_wf words
  exact (fold_wf l _ hnw.1 (by rw [hnw.2]; simp; omega) ho).1

theorem charted_ok (words : Int) (h0 : 0 ≤ words) (h1 : words ≤ 255) (l : List Ed) : APure Try.prog 9 [.raw (.int .u8 words), encEs l] (.tup [.agg (cellsC (chartedF words l).1), .bool (chartedF words l).2]) := by
  have w1 : IntKind.i64.wrap words = words := wrap_in (by omega)
  have hm : words.tmod 8 = words % 8 := Int.tmod_eq_emod_of_nonneg h0
  have w2 : IntKind.i64.wrap (1 + words.tmod 8) = 1 + words.tmod 8 := wrap_in (by omega)
  have w3 : ((8 : Int) = 0) = False := by simp
  have FF : True := trivial
  refine apure_of Try.func9 rfl (by kernel_rfl) (by simp [Try.ntmps9]) ?_
  rw [Try.ntmps9]
  refine awp_rseq (by decide) fun KK hKK => ?_
  refine m_alloc ?_
  refine m_assign ?_
  refine hKK _ _ ?_
  clear hKK KK
  refine awp_seq ?_
  refine awp_rseq (by decide) fun KK hKK => ?_
  refine m_move ?_
  refine m_call (fun hG => light_ok l) ?_
  refine m_not ?_
  refine hKK _ _ ?_
  clear hKK KK
  refine m_cond (fun hc => ?_) (fun hc => ?_)
  · refine awp_rseq (by decide) fun KK hKK => ?_
    refine m_build ?_
    first | refine m_stPtr ?_ | refine m_stRp ?_
    refine m_assign ?_
    refine hKK _ _ ?_
    clear hKK KK
    refine awp_ret ⟨[_, _], ⟨k_load (by simp only [go_sem, reduceIte, Nat.reduceEqDiff, FF] <;> rfl) (by simp only [go_sem] <;> rfl) (by rfl) (by intro hG; simp only [go_sem]) (by exact lm_ptr (by simp only [go_sem, reduceIte, Nat.reduceEqDiff, FF] <;> rfl) (by simp only [go_sem, reduceIte, Nat.reduceEqDiff, FF, Nat.reduceAdd, Nat.reduceSub, Nat.reduceMul, Nat.reduceLeDiff] <;> rfl) (fun _ => Nat.le_of_ble_eq_true rfl)), ⟨(by simp only [go_sem, reduceIte, Nat.reduceEqDiff, FF]), (by simp only [go_sem, reduceIte, Nat.reduceEqDiff, FF] <;> rfl)⟩, trivial⟩, ?_⟩
    simp only [go_sem, reduceIte, Nat.reduceEqDiff, FF, tupled]
    rw [show chartedF words l = (⟨0, []⟩, false) by unfold chartedF; rw [if_pos hc]]
    exact sub_tup ⟨sub_agg ⟨CV.Sub.refl _, CV.Sub.im0 rfl rfl, trivial⟩, CV.Sub.refl _, trivial⟩
  refine awp_skip ?_
  first | rw [thenQ_normal] | rw [blockQ_normal, thenQ_normal]
  have hs : chartedF words l = (canonF (buildF (1 + words.tmod 8) l), true) := by unfold chartedF; rw [if_neg (by rw [hc]; decide)]
  obtain ⟨hl, ho⟩ := light_lex (by simpa using hc)
  rw [hs]
  clear hc
  have FF := And.intro w1 (And.intro w2 (And.intro w3 FF))
  refine awp_rseq (by decide) fun KK hKK => ?_
  refine m_move ?_
  refine m_convert ?_
  refine m_bin ?_
  refine m_bin ?_
  refine m_move ?_
  refine m_call (fun hG => build_ok (1 + words.tmod 8) l (by omega) ho) ?_
  refine m_call (fun hG => canon_ok' _ (build_wf _ hl ho)) ?_
  first | refine m_stPtr ?_ | refine m_stRp ?_
  refine m_assign ?_
  refine hKK _ _ ?_
  clear hKK KK
  refine awp_ret ⟨[_, _], ⟨k_load (by simp only [go_sem, reduceIte, Nat.reduceEqDiff, FF] <;> rfl) (by simp only [go_sem] <;> rfl) (by rfl) (by intro hG; simp only [go_sem]) (by exact lm_ptr (by simp only [go_sem, reduceIte, Nat.reduceEqDiff, FF] <;> rfl) (by simp only [go_sem, reduceIte, Nat.reduceEqDiff, FF, Nat.reduceAdd, Nat.reduceSub, Nat.reduceMul, Nat.reduceLeDiff] <;> rfl) (fun _ => Nat.le_of_ble_eq_true rfl)), ⟨(by simp only [go_sem, reduceIte, Nat.reduceEqDiff, FF]), (by simp only [go_sem, reduceIte, Nat.reduceEqDiff, FF] <;> rfl)⟩, trivial⟩, ?_⟩
  simp only [go_sem, reduceIte, Nat.reduceEqDiff, FF, tupled]
  exact CV.Sub.refl _
end Go.Am
