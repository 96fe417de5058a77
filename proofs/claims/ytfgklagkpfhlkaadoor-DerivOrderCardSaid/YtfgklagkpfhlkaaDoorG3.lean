/- Merged texts: D4 D5 BmL BmM BmN D6 BmO D7 BmP BmQ BmR Shelf D8 D9 D10 BmS D11 D12 D13 BmT. -/
import Derived.Test.YtfgklagkpfhlkaaDoorG2
import Derived.Laws.Small
import Derived.Deep.AppendSrc
import Derived.Lib.AppendStr
import Derived.Lib.Builder
import Derived.WalkKit
import Derived.Laws.Externs
import Derived.Lib.UnsafeStr
import Derived.Shelf.Strings.Trim
import Derived.Shelf.Small.Utf8
import Derived.Shelf.Small.Strs
import Derived.Shelf.Strconv.Atoi
import Derived.Shelf.Strconv.Itoa0
import Derived.Shelf.Strconv.Itoa1
import Derived.Shelf.LaysM
import Derived.Shelf.Strconv.Itoa2
import Derived.Shelf.Strconv.Itoa3
import Derived.Shelf.Strconv.AtoiErrFast
import Derived.Shelf.Strconv.ParseIntEmpty
import Derived.Shelf.Strconv.AtoiFail
import Derived.Shelf.Strconv.Clone
import Derived.Shelf.Strconv.SyntaxError
import Derived.Shelf.LaysC
import Derived.Shelf.Strconv.ToError
import Derived.Shelf.Strconv.Lower
import Derived.Shelf.Strconv.ParseUint10
import Derived.Shelf.Strconv.ParseUint10Empty
import Derived.Shelf.Strconv.ParseUint10Any
import Derived.Shelf.Strconv.ParseInt10
import Derived.Shelf.Strconv.AtoiLong
import Derived.Shelf.Strconv.AtoiInnerAll
import Derived.Shelf.Strconv.RangeError
import Derived.Shelf.Strconv.ToErrorRange
import Derived.Shelf.Strconv.AtoiAll
import Derived.Shelf.Strings.Search1
import Derived.Shelf.Strings.Prefix
import Derived.Shelf.Strings.Runes
import Derived.Shelf.Strings.AsciiSet
import Derived.Shelf.Unicode.DecodeSlow
import Derived.Test.YtfgklagkpfhlkaaDoorProg
import Derived.Lib.OthersKept
import Derived.Laws.RangeString
import Derived.Laws.IdiomStrings
import Derived.WideLaws
set_option linter.unusedVariables false
set_option linter.unusedSimpArgs false
/- Contracts: how many rules stand above each other; letters, digits and names as the reference has them. No condition. -/
namespace Go.Am
open Go.Proofs
attribute [local go_sem ↓] ofL_cons ofH_cons upd_apply
attribute [local go_sem] cellsD
set_option maxHeartbeats 1000000
set_option linter.unusedSimpArgs false

def digitB (c : Int) : Bool := decide (48 ≤ c) && decide (c ≤ 57)
def lowerB (c : Int) : Bool := decide (97 ≤ c) && decide (c ≤ 122)
def upperB (c : Int) : Bool := decide (65 ≤ c) && decide (c ≤ 90)
def partB (c : Int) (big : Bool) : Bool := digitB c || c == 45 || (big && upperB c) || (!big && lowerB c)
def allB (p : Int → Bool) (s : ByteArray) : Nat → Bool
  | 0 => true
  | n + 1 => allB p s n && p (byteAt s n)
def namedB (s : ByteArray) (big : Bool) : Bool :=
  if decide ((s.size : Int) < 1) || decide ((32 : Int) < s.size) || digitB (byteAt s 0) || byteAt s 0 == 45 then false else allB (fun c => partB c big) s s.size
theorem allB_false {p : Int → Bool} {s : ByteArray} {i : Nat} (h : p (byteAt s i) = false) : ∀ n, i < n → allB p s n = false
  | n + 1, hi => by
    rw [allB]
    by_cases e : i = n
    · subst e; rw [h, Bool.and_false]
    · rw [allB_false h n (by omega), Bool.false_and]

theorem kids_one {d : Dv} (h : d.kids.length = 1) : d.kids = [d.kids.getD 0 default] := by
  match hd : d.kids, h with
  | [x], _ => rfl

variable [Glb]

theorem unary_ok (d : Dv) (hd : d.size ≤ 1000000) : APure Tryd.prog 12 [.agg (cellsD d)] (.int (unaryD d)) := by
  have FF : True := trivial
  refine apure_of Tryd.func12 rfl (by kernel_rfl) (by simp [Tryd.ntmps12]) ?_
  rw [Tryd.ntmps12]
  refine awp_rseq (by decide) fun KK hKK => ?_
  refine m_box ?_
  refine m_assign ?_
  refine hKK _ _ ?_
  clear hKK KK
  refine awp_rseq (by decide) fun KK hKK => ?_
  refine m_assign ?_
  refine hKK _ _ ?_
  clear hKK KK
  refine awp_seq ?_
  refine awp_block ?_
  refine m_for (ι := Dv × Nat) (fun p => [(1, .ptr 1 0), (3, .int p.2)]) (fun p => [(1, .box 24 ((cellsD p.1).map .c))]) (fun p => p.1.size) (fun p => p.1.size + p.2 ≤ d.size ∧ unaryD p.1 + p.2 = unaryD d) ((d, 0)) ?_ ?_
  · exact ⟨by simp, by simp⟩
  rintro ⟨x, n⟩ ⟨hx, hres⟩
  dsimp only at hx hres
  refine awp_seq ?_
  refine awp_rseq (by decide) fun KK hKK => ?_
  refine m_field ?_
  refine m_load ?_
  refine m_bin ?_
  refine m_move ?_
  refine g_field ?_
  refine g_load ?_
  refine g_len ?_
  refine g_bin ?_
  refine m_pick ?_
  refine hKK _ _ ?_
  clear hKK KK
  refine m_cond (fun hc => ?_) (fun hc => ?_)
  · simp only [Bool.and_eq_true, beq_iff_eq] at hc
    obtain ⟨hk, hl⟩ := hc
    have hl' : x.kids.length = 1 := by omega
    have h0 : 0 < x.kids.length := by omega
    have eK : (encDs x.kids).getD 0 [] = cellsD (x.kids.getD 0 default) := encDs_getD h0
    have hsz := kids_sizeD x 0 h0
    have w3 : IntKind.i64.wrap ((n : Int) + 1) = ((n + 1 : Nat) : Int) := wrap_in (by omega)
    have hu := unaryD_yes x (x.kids.getD 0 default) (by rw [hk]; rfl) (kids_one hl')
    refine awp_skip ?_
    first | rw [thenQ_normal] | rw [blockQ_normal, thenQ_normal]
    refine awp_block ?_
    have FF := And.intro w3 FF
    refine awp_rseq (by decide) fun KK hKK => ?_
    refine m_move ?_
    refine m_bin ?_
    refine m_assign ?_
    refine hKK _ _ ?_
    clear hKK KK
    have FF := And.intro eK FF
    refine awp_rlast (by decide) fun KK hKK => ?_
    refine m_field ?_
    refine m_load ?_
    refine m_index ?_
    refine m_load ?_
    first | refine m_stPtr ?_ | refine m_stRp ?_
    refine hKK _ _ ?_
    clear hKK KK
    rw [blockQ_normal]
    try rw [thenQ_normal]
    refine m_next ((x.kids.getD 0 default, n + 1)) ?_ ?_
    · exact ⟨by dsimp only; omega, by dsimp only; omega⟩
    · exact hsz
  · refine awp_exit ?_
    simp only [thenQ_exit, blockQ_exit, reduceIte, Nat.reduceEqDiff]
    try rw [thenQ_normal]
    have hu := unaryD_no x (fun hq => by
      simp only [Bool.and_eq_false_iff] at hc
      rcases hc with hc | hc
      · rw [hq.1] at hc; cases hc
      · rw [hq.2] at hc; cases hc)
    refine awp_rseq (by decide) fun KK hKK => ?_
    refine m_move ?_
    refine m_assign ?_
    refine hKK _ _ ?_
    clear hKK KK
    refine awp_ret ⟨[_], ⟨⟨(by simp only [go_sem, reduceIte, Nat.reduceEqDiff, FF]), (by simp only [go_sem, reduceIte, Nat.reduceEqDiff, FF] <;> rfl)⟩, trivial⟩, ?_⟩
    simp only [go_sem, reduceIte, Nat.reduceEqDiff, FF, tupled]
    exact CV.Sub.of_eq (by rw [← hres, hu, Int.zero_add])

theorem runary_ok : ∀ (N : Nat) (d : Dv), d.size ≤ N → N ≤ 1000000 → APure Tryd.prog 13 [.agg (cellsD d)] (.int (unaryD d)) := by
  intro N
  induction N with
  | zero => intro d; cases d; simp [Dv.size]
  | succ N ih =>
  intro d hd hN
  have FF : True := trivial
  refine apure_of Tryd.func13 rfl (by kernel_rfl) (by simp [Tryd.ntmps13]) ?_
  rw [Tryd.ntmps13]
  refine awp_rseq (by decide) fun KK hKK => ?_
  refine m_box ?_
  refine m_assign ?_
  refine hKK _ _ ?_
  clear hKK KK
  refine awp_seq ?_
  refine awp_rseq (by decide) fun KK hKK => ?_
  refine m_field ?_
  refine m_load ?_
  refine m_bin ?_
  refine m_move ?_
  refine g_field ?_
  refine g_load ?_
  refine g_len ?_
  refine g_bin ?_
  refine m_pick ?_
  refine hKK _ _ ?_
  clear hKK KK
  refine m_cond (fun hc => ?_) (fun hc => ?_)
  · refine awp_rseq (by decide) fun KK hKK => ?_
    refine m_assign ?_
    refine hKK _ _ ?_
    clear hKK KK
    refine awp_ret ⟨[_], ⟨⟨(by simp only [go_sem, reduceIte, Nat.reduceEqDiff, FF]), (by simp only [go_sem, reduceIte, Nat.reduceEqDiff, FF] <;> rfl)⟩, trivial⟩, ?_⟩
    simp only [go_sem, reduceIte, Nat.reduceEqDiff, FF, tupled]
    have hu := unaryD_no d (fun hq => by
      simp only [Bool.or_eq_true] at hc
      rcases hc with hc | hc
      · have h1 := hq.1; simp only [beq_iff_eq] at h1; rw [h1] at hc; cases hc
      · rw [hq.2] at hc; cases hc)
    rw [hu]
    exact CV.Sub.refl _
  simp only [Bool.or_eq_false_iff, bne_eq_false_iff_eq] at hc
  obtain ⟨hk, hl⟩ := hc
  have hl' : d.kids.length = 1 := by omega
  have h0 : 0 < d.kids.length := by omega
  have eK : (encDs d.kids).getD 0 [] = cellsD (d.kids.getD 0 default) := encDs_getD h0
  have hsz := kids_sizeD d 0 h0
  have hb := unaryD_bd N (d.kids.getD 0 default) (by omega)
  have w3 : IntKind.i64.wrap (1 + unaryD (d.kids.getD 0 default)) = 1 + unaryD (d.kids.getD 0 default) := wrap_in (by omega)
  have hu := unaryD_yes d (d.kids.getD 0 default) (by rw [hk]; rfl) (kids_one hl')
  refine awp_skip ?_
  first | rw [thenQ_normal] | rw [blockQ_normal, thenQ_normal]
  have FF := And.intro eK (And.intro w3 FF)
  refine awp_rseq (by decide) fun KK hKK => ?_
  refine m_field ?_
  refine m_load ?_
  refine m_index ?_
  refine m_load ?_
  refine m_call (fun hG => ih (d.kids.getD 0 default) (by omega) (by omega)) ?_
  refine m_bin ?_
  refine m_assign ?_
  refine hKK _ _ ?_
  clear hKK KK
  refine awp_ret ⟨[_], ⟨⟨(by simp only [go_sem, reduceIte, Nat.reduceEqDiff, FF]), (by simp only [go_sem, reduceIte, Nat.reduceEqDiff, FF] <;> rfl)⟩, trivial⟩, ?_⟩
  simp only [go_sem, reduceIte, Nat.reduceEqDiff, FF, tupled]
  rw [hu]
  exact CV.Sub.refl _

theorem digit_ok (c : Int) : APure Tryd.prog 41 [.raw (.int .u8 c)] (.bool (digitB c)) := by
  have FF : True := trivial
  refine apure_of Tryd.func41 rfl (by kernel_rfl) (by simp [Tryd.ntmps41]) ?_
  rw [Tryd.ntmps41]
  refine awp_rseq (by decide) fun KK hKK => ?_
  refine m_assign ?_
  refine hKK _ _ ?_
  clear hKK KK
  refine awp_rseq (by decide) fun KK hKK => ?_
  refine m_move ?_
  refine m_bin ?_
  refine m_move ?_
  refine g_move ?_
  refine g_bin ?_
  refine m_pick ?_
  refine m_assign ?_
  refine hKK _ _ ?_
  clear hKK KK
  refine awp_ret ⟨[_], ⟨⟨(by simp only [go_sem, reduceIte, Nat.reduceEqDiff, FF]), (by simp only [go_sem, reduceIte, Nat.reduceEqDiff, FF] <;> rfl)⟩, trivial⟩, ?_⟩
  simp only [go_sem, reduceIte, Nat.reduceEqDiff, FF, tupled]
  exact CV.Sub.refl _
theorem lower_ok (c : Int) : APure Tryd.prog 48 [.raw (.int .u8 c)] (.bool (lowerB c)) := by
  have FF : True := trivial
  refine apure_of Tryd.func48 rfl (by kernel_rfl) (by simp [Tryd.ntmps48]) ?_
  rw [Tryd.ntmps48]
  refine awp_rseq (by decide) fun KK hKK => ?_
  refine m_assign ?_
  refine hKK _ _ ?_
  clear hKK KK
  refine awp_rseq (by decide) fun KK hKK => ?_
  refine m_move ?_
  refine m_bin ?_
  refine m_move ?_
  refine g_move ?_
  refine g_bin ?_
  refine m_pick ?_
  refine m_assign ?_
  refine hKK _ _ ?_
  clear hKK KK
  refine awp_ret ⟨[_], ⟨⟨(by simp only [go_sem, reduceIte, Nat.reduceEqDiff, FF]), (by simp only [go_sem, reduceIte, Nat.reduceEqDiff, FF] <;> rfl)⟩, trivial⟩, ?_⟩
  simp only [go_sem, reduceIte, Nat.reduceEqDiff, FF, tupled]
  exact CV.Sub.refl _
theorem upper_ok (c : Int) : APure Tryd.prog 47 [.raw (.int .u8 c)] (.bool (upperB c)) := by
  have FF : True := trivial
  refine apure_of Tryd.func47 rfl (by kernel_rfl) (by simp [Tryd.ntmps47]) ?_
  rw [Tryd.ntmps47]
  refine awp_rseq (by decide) fun KK hKK => ?_
  refine m_assign ?_
  refine hKK _ _ ?_
  clear hKK KK
  refine awp_rseq (by decide) fun KK hKK => ?_
  refine m_move ?_
  refine m_bin ?_
  refine m_move ?_
  refine g_move ?_
  refine g_bin ?_
  refine m_pick ?_
  refine m_assign ?_
  refine hKK _ _ ?_
  clear hKK KK
  refine awp_ret ⟨[_], ⟨⟨(by simp only [go_sem, reduceIte, Nat.reduceEqDiff, FF]), (by simp only [go_sem, reduceIte, Nat.reduceEqDiff, FF] <;> rfl)⟩, trivial⟩, ?_⟩
  simp only [go_sem, reduceIte, Nat.reduceEqDiff, FF, tupled]
  exact CV.Sub.refl _
theorem part_ok (c : Int) (big : Bool) : APure Tryd.prog 42 [.raw (.int .u8 c), .bool big] (.bool (partB c big)) := by
  have FF : True := trivial
  refine apure_of Tryd.func42 rfl (by kernel_rfl) (by simp [Tryd.ntmps42]) ?_
  rw [Tryd.ntmps42]
  cases big
  · refine awp_rseq (by decide) fun KK hKK => ?_
    refine m_assign ?_
    refine hKK _ _ ?_
    clear hKK KK
    refine awp_rseq (by decide) fun KK hKK => ?_
    refine m_move ?_
    refine m_call (fun hG => digit_ok c) ?_
    refine m_move ?_
    refine g_move ?_
    refine g_bin ?_
    refine m_pick ?_
    refine m_move ?_
    refine g_move ?_
    refine g_move ?_
    refine g_move ?_
    refine g_call (fun hG => upper_ok c) ?_
    refine g_pick ?_
    refine m_pick ?_
    refine m_move ?_
    refine g_move ?_
    refine g_not ?_
    refine g_move ?_
    refine g_move ?_
    refine g_call (fun hG => lower_ok c) ?_
    refine g_pick ?_
    refine m_pick ?_
    refine m_assign ?_
    refine hKK _ _ ?_
    clear hKK KK
    refine awp_ret ⟨[_], ⟨⟨(by simp only [go_sem, reduceIte, Nat.reduceEqDiff, FF]), (by simp only [go_sem, reduceIte, Nat.reduceEqDiff, FF] <;> rfl)⟩, trivial⟩, ?_⟩
    simp only [go_sem, reduceIte, Nat.reduceEqDiff, FF, tupled]
    exact CV.Sub.of_eq (by simp [partB])
  · refine awp_rseq (by decide) fun KK hKK => ?_
    refine m_assign ?_
    refine hKK _ _ ?_
    clear hKK KK
    refine awp_rseq (by decide) fun KK hKK => ?_
    refine m_move ?_
    refine m_call (fun hG => digit_ok c) ?_
    refine m_move ?_
    refine g_move ?_
    refine g_bin ?_
    refine m_pick ?_
    refine m_move ?_
    refine g_move ?_
    refine g_move ?_
    refine g_move ?_
    refine g_call (fun hG => upper_ok c) ?_
    refine g_pick ?_
    refine m_pick ?_
    refine m_move ?_
    refine g_move ?_
    refine g_not ?_
    refine g_move ?_
    refine g_move ?_
    refine g_call (fun hG => lower_ok c) ?_
    refine g_pick ?_
    refine m_pick ?_
    refine m_assign ?_
    refine hKK _ _ ?_
    clear hKK KK
    refine awp_ret ⟨[_], ⟨⟨(by simp only [go_sem, reduceIte, Nat.reduceEqDiff, FF]), (by simp only [go_sem, reduceIte, Nat.reduceEqDiff, FF] <;> rfl)⟩, trivial⟩, ?_⟩
    simp only [go_sem, reduceIte, Nat.reduceEqDiff, FF, tupled]
    exact CV.Sub.of_eq (by simp [partB])
theorem named_ok (s : ByteArray) (big : Bool) : APure Tryd.prog 34 [.str s, .bool big] (.bool (namedB s big)) := by
  have FF : True := trivial
  refine apure_of Tryd.func34 rfl (by kernel_rfl) (by simp [Tryd.ntmps34]) ?_
  rw [Tryd.ntmps34]
  unfold namedB
  refine awp_rseq (by decide) fun KK hKK => ?_
  refine m_assign ?_
  refine hKK _ _ ?_
  clear hKK KK
  refine awp_seq ?_
  refine awp_rseq (by decide) fun KK hKK => ?_
  refine m_move ?_
  refine m_len ?_
  refine m_bin ?_
  refine m_move ?_
  refine g_move ?_
  refine g_len ?_
  refine g_bin ?_
  refine m_pick ?_
  refine m_move ?_
  refine g_move ?_
  refine g_idx ?_
  refine g_call (fun hG => digit_ok _) ?_
  refine m_pick ?_
  refine m_move ?_
  refine g_move ?_
  refine g_idx ?_
  refine g_bin ?_
  refine m_pick ?_
  refine hKK _ _ ?_
  clear hKK KK
  refine m_cond (fun hc => ?_) (fun hc => ?_)
  · rw [if_pos hc]
    refine awp_rseq (by decide) fun KK hKK => ?_
    refine m_assign ?_
    refine hKK _ _ ?_
    clear hKK KK
    refine awp_ret ⟨[_], ⟨⟨(by simp only [go_sem, reduceIte, Nat.reduceEqDiff, FF]), (by simp only [go_sem, reduceIte, Nat.reduceEqDiff, FF] <;> rfl)⟩, trivial⟩, ?_⟩
    simp only [go_sem, reduceIte, Nat.reduceEqDiff, FF, tupled]
    exact CV.Sub.refl _
  rw [if_neg (by rw [hc]; decide)]
  have hsz : s.size ≤ 32 := by simp only [Bool.or_eq_false_iff, decide_eq_false_iff_not] at hc; omega
  clear hc
  refine awp_skip ?_
  first | rw [thenQ_normal] | rw [blockQ_normal, thenQ_normal]
  refine awp_seq ?_
  refine awp_rseq (by decide) fun KK hKK => ?_
  refine m_assign ?_
  refine hKK _ _ ?_
  clear hKK KK
  refine awp_block ?_
  refine m_for (ι := Nat) (fun i => [(0, .str s), (1, .bool big), (5, .int i)]) (fun i => []) (fun i => s.size - i) (fun i => i ≤ s.size ∧ allB (fun c => partB c big) s i = true) (0) ?_ ?_
  · exact ⟨Nat.zero_le _, rfl⟩
  rintro i ⟨hi, hres⟩
  refine awp_seq ?_
  refine awp_rseq (by decide) fun KK hKK => ?_
  refine m_move ?_
  refine m_move ?_
  refine m_len ?_
  refine m_bin ?_
  refine hKK _ _ ?_
  clear hKK KK
  refine m_cond (fun hc => ?_) (fun hc => ?_)
  · simp only [decide_eq_true_eq] at hc
    have hi' : i < s.size := by omega
    have w3 : IntKind.i64.wrap ((i : Int) + 1) = ((i + 1 : Nat) : Int) := wrap_in (by omega)
    refine awp_skip ?_
    first | rw [thenQ_normal] | rw [blockQ_normal, thenQ_normal]
    refine awp_seq (awp_block ?_)
    clear hc
    refine awp_rseq (by decide) fun KK hKK => ?_
    refine m_move ?_
    refine m_move ?_
    refine m_idx ?_
    refine m_move ?_
    refine m_call (fun hG => part_ok (byteAt s i) big) ?_
    refine m_not ?_
    refine hKK _ _ ?_
    clear hKK KK
    refine m_cond (fun hc => ?_) (fun hc => ?_)
    · refine awp_rseq (by decide) fun KK hKK => ?_
      refine m_assign ?_
      refine hKK _ _ ?_
      clear hKK KK
      refine awp_ret ⟨[_], ⟨⟨(by simp only [go_sem, reduceIte, Nat.reduceEqDiff, FF]), (by simp only [go_sem, reduceIte, Nat.reduceEqDiff, FF] <;> rfl)⟩, trivial⟩, ?_⟩
      simp only [go_sem, reduceIte, Nat.reduceEqDiff, FF, tupled]
      rw [allB_false (p := fun c => partB c big) (i := i) (by simpa using hc) s.size hi']
      exact CV.Sub.refl _
    refine awp_skip ?_
    first | rw [thenQ_normal] | rw [blockQ_normal, thenQ_normal]
    have FF := And.intro w3 FF
    refine awp_rlast (by decide) fun KK hKK => ?_
    refine m_move ?_
    refine m_bin ?_
    refine m_assign ?_
    refine hKK _ _ ?_
    clear hKK KK
    try rw [thenQ_normal]
    refine m_next (i + 1) ?_ ?_
    · exact ⟨hi', by rw [allB, hres, Bool.true_and]; simpa using hc⟩
    · omega
  · refine awp_exit ?_
    simp only [thenQ_exit, blockQ_exit, reduceIte, Nat.reduceEqDiff]
    try rw [thenQ_normal]
    have hi' : i = s.size := by simp only [decide_eq_false_iff_not] at hc; omega
    refine awp_rseq (by decide) fun KK hKK => ?_
    refine m_assign ?_
    refine hKK _ _ ?_
    clear hKK KK
    refine awp_ret ⟨[_], ⟨⟨(by simp only [go_sem, reduceIte, Nat.reduceEqDiff, FF]), (by simp only [go_sem, reduceIte, Nat.reduceEqDiff, FF] <;> rfl)⟩, trivial⟩, ?_⟩
    simp only [go_sem, reduceIte, Nat.reduceEqDiff, FF, tupled]
    rw [hi'] at hres
    rw [hres]
    exact CV.Sub.refl _
theorem rname_ok (s : ByteArray) : APure Tryd.prog 25 [.str s] (.bool (namedB s false)) := by
  have FF : True := trivial
  refine apure_of Tryd.func25 rfl (by kernel_rfl) (by simp [Tryd.ntmps25]) ?_
  rw [Tryd.ntmps25]
  refine awp_rseq (by decide) fun KK hKK => ?_
  refine m_assign ?_
  refine hKK _ _ ?_
  clear hKK KK
  refine awp_rseq (by decide) fun KK hKK => ?_
  refine m_move ?_
  refine m_call (fun hG => named_ok s false) ?_
  refine m_assign ?_
  refine hKK _ _ ?_
  clear hKK KK
  refine awp_ret ⟨[_], ⟨⟨(by simp only [go_sem, reduceIte, Nat.reduceEqDiff, FF]), (by simp only [go_sem, reduceIte, Nat.reduceEqDiff, FF] <;> rfl)⟩, trivial⟩, ?_⟩
  simp only [go_sem, reduceIte, Nat.reduceEqDiff, FF, tupled]
  exact CV.Sub.refl _
end Go.Am

/- Contracts: whether a derivation can have been parsed. No condition. -/
namespace Go.Am
open Go.Proofs
attribute [local go_sem ↓] ofL_cons ofH_cons upd_apply
attribute [local go_sem] cellsD
set_option maxHeartbeats 2000000
set_option linter.unusedSimpArgs false

def wholeC (d : Dv) (deep : Int) : Bool := deep == 0 || !namedB d.name false || decide (d.kind < 0) || decide (2 < d.kind) || !((d.kind == 0) == (((d.kids.length : Nat) : Int) == 0)) || (d.kind == 1 && ((d.kids.length : Nat) : Int) != 1)
mutual
def wholeD : Dv → Int → Bool
  | .mk k n f t ks, deep => if wholeC (.mk k n f t ks) deep then false else wholeLs ks (deep - 1)
def wholeLs : List Dv → Int → Bool
  | [], _ => true
  | d :: r, deep => wholeD d deep && wholeLs r deep
end
theorem wholeD_eq (d : Dv) (deep : Int) : wholeD d deep = if wholeC d deep then false else wholeLs d.kids (deep - 1) := by
  obtain ⟨k, n, f, t, ks⟩ := d
  rw [wholeD]
  rfl

theorem neq_bool (a b : Bool) : RawBin Tryd.prog .neq 4 (.bool a) (.bool b) (.bool (!(a == b))) := by
  intro y z w
  have h := run_neq_bool (P := Tryd.prog) w 4 a b Tryd.underlying4
  simp [go_sem, h]

variable [Glb]

theorem whole_ok : ∀ (N : Nat) (d : Dv) (deep : Int), d.size ≤ N → okD d → 0 ≤ deep → deep ≤ 1000 → APure Tryd.prog 14 [.agg (cellsD d), .int deep] (.bool (wholeD d deep)) := by
  intro N
  induction N with
  | zero => intro d; cases d; simp [Dv.size]
  | succ N ih =>
  intro d deep hN hok h0 h1
  have hkl := okD_len hok
  have FF : True := trivial
  refine apure_of Tryd.func14 rfl (by kernel_rfl) (by simp [Tryd.ntmps14]) ?_
  rw [Tryd.ntmps14, wholeD_eq]
  refine awp_rseq (by decide) fun KK hKK => ?_
  refine m_box ?_
  refine m_assign ?_
  refine hKK _ _ ?_
  clear hKK KK
  refine awp_seq ?_
  refine awp_rseq (by decide) fun KK hKK => ?_
  refine m_move ?_
  refine m_bin ?_
  refine m_move ?_
  refine g_field ?_
  refine g_load ?_
  refine g_call (fun hG => rname_ok d.name) ?_
  refine g_not ?_
  refine m_pick ?_
  refine m_move ?_
  refine g_field ?_
  refine g_load ?_
  refine g_bin ?_
  refine m_pick ?_
  refine m_move ?_
  refine g_field ?_
  refine g_load ?_
  refine g_bin ?_
  refine m_pick ?_
  refine m_move ?_
  refine g_field ?_
  refine g_load ?_
  refine g_bin ?_
  refine g_field ?_
  refine g_load ?_
  refine g_len ?_
  refine g_bin ?_
  refine g_binR (neq_bool _ _) ?_
  refine m_pick ?_
  refine m_move ?_
  refine g_field ?_
  refine g_load ?_
  refine g_bin ?_
  refine g_move ?_
  refine g_field ?_
  refine g_load ?_
  refine g_len ?_
  refine g_bin ?_
  refine g_pick ?_
  refine m_pick ?_
  refine hKK _ _ ?_
  clear hKK KK
  refine m_cond (fun hc => ?_) (fun hc => ?_)
  · have hc' : wholeC d deep = true := hc
    rw [if_pos hc']
    refine awp_rseq (by decide) fun KK hKK => ?_
    refine m_assign ?_
    refine hKK _ _ ?_
    clear hKK KK
    refine awp_ret ⟨[_], ⟨⟨(by simp only [go_sem, reduceIte, Nat.reduceEqDiff, FF]), (by simp only [go_sem, reduceIte, Nat.reduceEqDiff, FF] <;> rfl)⟩, trivial⟩, ?_⟩
    simp only [go_sem, reduceIte, Nat.reduceEqDiff, FF, tupled]
    exact CV.Sub.refl _
  have hc' : wholeC d deep = false := hc
  rw [if_neg (by rw [hc']; decide)]
  have hd1 : deep ≠ 0 := fun e => by
    unfold wholeC at hc'
    rw [e] at hc'
    simp at hc'
  have w1 : IntKind.i64.wrap (deep - 1) = deep - 1 := wrap_in (by omega)
  clear hc hc'
  refine awp_skip ?_
  first | rw [thenQ_normal] | rw [blockQ_normal, thenQ_normal]
  refine awp_seq ?_
  refine awp_rseq (by decide) fun KK hKK => ?_
  refine m_assign ?_
  refine hKK _ _ ?_
  clear hKK KK
  refine awp_block ?_
  refine m_for (ι := Nat) (fun i => [(1, .int deep), (2, .ptr 2 0), (5, .int i)]) (fun i => [(2, .box 24 ((cellsD d).map .c))]) (fun i => d.kids.length - i) (fun i => i ≤ d.kids.length ∧ wholeLs d.kids (deep - 1) = wholeLs (d.kids.drop i) (deep - 1)) (0) ?_ ?_
  · exact ⟨Nat.zero_le _, by rw [List.drop_zero]⟩
  rintro i ⟨hi, hres⟩
  refine awp_seq ?_
  refine awp_rseq (by decide) fun KK hKK => ?_
  refine m_move ?_
  refine m_field ?_
  refine m_load ?_
  refine m_len ?_
  refine m_bin ?_
  refine hKK _ _ ?_
  clear hKK KK
  refine m_cond (fun hc => ?_) (fun hc => ?_)
  · simp only [decide_eq_true_eq] at hc
    have hi' : i < d.kids.length := by omega
    have w3 : IntKind.i64.wrap ((i : Int) + 1) = ((i + 1 : Nat) : Int) := wrap_in (by omega)
    have eK : (encDs d.kids).getD i [] = cellsD (d.kids.getD i default) := encDs_getD hi'
    have hst : wholeLs (d.kids.drop i) (deep - 1) = (wholeD (d.kids.getD i default) (deep - 1) && wholeLs (d.kids.drop (i + 1)) (deep - 1)) := by rw [List.drop_eq_getElem_cons hi', wholeLs, getD_lt hi']
    refine awp_skip ?_
    first | rw [thenQ_normal] | rw [blockQ_normal, thenQ_normal]
    refine awp_seq (awp_block ?_)
    clear hc
    have FF := And.intro eK (And.intro w1 FF)
    refine awp_rseq (by decide) fun KK hKK => ?_
    refine m_field ?_
    refine m_load ?_
    refine m_move ?_
    refine m_index ?_
    refine m_load ?_
    refine m_move ?_
    refine m_bin ?_
    refine m_call (fun hG => ih (d.kids.getD i default) (deep - 1) (by have := kids_sizeD d i hi'; omega) (okD_kid hok hi') (by omega) (by omega)) ?_
    refine m_not ?_
    refine hKK _ _ ?_
    clear hKK KK
    refine m_cond (fun hc => ?_) (fun hc => ?_)
    · refine awp_rseq (by decide) fun KK hKK => ?_
      refine m_assign ?_
      refine hKK _ _ ?_
      clear hKK KK
      refine awp_ret ⟨[_], ⟨⟨(by simp only [go_sem, reduceIte, Nat.reduceEqDiff, FF]), (by simp only [go_sem, reduceIte, Nat.reduceEqDiff, FF] <;> rfl)⟩, trivial⟩, ?_⟩
      simp only [go_sem, reduceIte, Nat.reduceEqDiff, FF, tupled]
      rw [hres, hst, show wholeD (d.kids.getD i default) (deep - 1) = false by simpa using hc]
      exact CV.Sub.refl _
    refine awp_skip ?_
    first | rw [thenQ_normal] | rw [blockQ_normal, thenQ_normal]
    have FF := And.intro w3 FF
    refine awp_rlast (by decide) fun KK hKK => ?_
    refine m_move ?_
    refine m_bin ?_
    refine m_assign ?_
    refine hKK _ _ ?_
    clear hKK KK
    try rw [thenQ_normal]
    refine m_next (i + 1) ?_ ?_
    · exact ⟨hi', by rw [hres, hst, show wholeD (d.kids.getD i default) (deep - 1) = true by simpa using hc, Bool.true_and]⟩
    · omega
  · refine awp_exit ?_
    simp only [thenQ_exit, blockQ_exit, reduceIte, Nat.reduceEqDiff]
    try rw [thenQ_normal]
    have hi' : i = d.kids.length := by simp only [decide_eq_false_iff_not] at hc; omega
    rw [hi', List.drop_length, wholeLs] at hres
    refine awp_rseq (by decide) fun KK hKK => ?_
    refine m_assign ?_
    refine hKK _ _ ?_
    clear hKK KK
    refine awp_ret ⟨[_], ⟨⟨(by simp only [go_sem, reduceIte, Nat.reduceEqDiff, FF]), (by simp only [go_sem, reduceIte, Nat.reduceEqDiff, FF] <;> rfl)⟩, trivial⟩, ?_⟩
    simp only [go_sem, reduceIte, Nat.reduceEqDiff, FF, tupled]
    rw [hres]
    exact CV.Sub.refl _
end Go.Am

/- The abstract machine, part 21: append of a string's bytes onto a row of bytes of the frame's own. Generic over the program; no condition. -/
namespace Go.Am
open Go.RowKit

/-- A string's bytes as the elements of a row. -/
def strRow (b : ByteArray) : Nat → List CV := fun i => [.raw ((Lib.strCells b).getD i undef)]

section
variable {P : Program} {E : Env} {w : World} {nt : Nat} {s : Slots} {h : AH} {gs : Gs} {a : Act}

/-- One operation that gives a value. -/
theorem awpl_val [Glb] {fo : List Nat} {ops : Array Oper} {l : List Oper} {Q : APost} {o : Oper} {s' : Slots} {h' : AH} (hgd : o.guard = none)
    (hrun : ∀ (E : Env) (a : Act) (w : World) (gs : Gs), RelG E nt s h gs a w → ∃ v w', (execOp a.eval o).run P w = .ok (.value v) w' ∧ Rel E nt s' h' (a.put o.dst v) w')
    (hn : AWpL P nt fo ops l Q s' h') : AWpL P nt fo ops (o :: l) Q s h := by
  intro E a w I ⟨gs, R⟩
  obtain ⟨v, w', h1, h2⟩ := hrun E a w gs R
  unfold wpList
  rw [if_pos (by simp [Region.wanted, hgd])]
  exact .inl (wp_value h1 (hn E _ w' I h2))

theorem strCells_one {b : ByteArray} {i : Nat} (hi : i < b.size) : ((Lib.strCells b).getD i undef).oneCell' = true := by
  rw [getD_lt (by rw [Lib.strCells_length]; exact hi)]
  exact Lib.strCells_oneCell b _ (List.getElem_mem _)

theorem run_append_str0 {t u el ty : TypeId} {j : TypeInfo} (ht : P.underlying t = some (.slice el)) (hu : P.underlying u = some .string) (hj : P.info? el = some j) (B : Option Addr) (n K : Nat) (b : ByteArray) (hb : b.size = 0) (hn : n ≤ K) :
    (Builtin.append_ #[t, u] ty #[.slice B n K, .string b]).run P w = .ok (.slice B n K) w := by
  have hf := Lib.run_firstCells_string (P := P) w j.size b
  have hs : Lib.strCells b = [] := List.eq_nil_of_length_eq_zero (by rw [Lib.strCells_length]; exact hb)
  rw [hb, hs] at hf
  cases B <;> simp [Builtin.append_, run_underlying ht, run_underlying hu, sizeOf, typeInfo, hj, Builtin.lenOf, hn, hb, hf, storeCells]

theorem app_string [Glb] (R : RelG E nt s h gs a w) {ty t u : TypeId} {pos : String} {af : Array Edge} {gd : Option (Nat × Bool)} {d : Option Tmp} (hd : ∀ t, d = some t → t < nt) {o n : Nat} {f : Nat → List CV} {y z : Operand} {b : ByteArray} {i j : TI}
    (hy : ev s y = .own o n) (hz : ev s z = .c (.raw (.string b))) (ho : h o = .row i.elem j.size n f) (e1 : tinfo P t = some i) (e2 : i.slice = true) (e3 : tinfo P i.elem = some j) (e4 : j.size = 1) (e5 : j.zero.length = j.size) (hu : P.underlying u = some .string)
    (e9 : n + b.size ≤ maxLen) (e10 : (n + b.size) * j.bytes ≤ 140737488355328) :
    ∃ v w', (execOp a.eval ⟨d, .call ⟨.builtin .append, #[y, z], #[t, u]⟩, ty, pos, af, gd⟩).run P w = .ok (.value v) w' ∧
      Rel E nt (updO s d (.own o (n + b.size))) (upd h o (.row i.elem j.size (n + b.size) (fun q => if q < n then f q else strRow b (q - n)))) (a.put d v) w' := by
  have c1 := ev_ok R y
  have c2 := ev_ok R z
  rw [hy] at c1
  rw [hz] at c2
  have hvz := c2.raw_inv
  generalize hvy : a.eval y = vy at c1
  obtain ⟨i', dd, t1, t2, -, -, -, t6, t7, -, -⟩ := tinfo_some e1
  obtain ⟨j', dj, u1, u2, u3, u4, -, -, -, -, u9⟩ := tinfo_some e3
  cases dd with
  | slice el =>
    simp only at t6
    rw [t6] at u1
    cases hzz : j'.zero with
    | none =>
      rw [hzz] at u9
      simp only at u9
      rw [u9] at e5
      simp only [List.length_nil] at e5
      omega
    | some zv =>
      obtain ⟨z1, z2⟩ := tinfo_zero (by rw [← t6]; exact e3) u1 hzz
      have hexec : ∀ v w', (Builtin.append_ #[t, u] ty #[vy, .string b]).run P w = .ok v w' → (execOp a.eval ⟨d, .call ⟨.builtin .append, #[y, z], #[t, u]⟩, ty, pos, af, gd⟩).run P w = .ok (.value v) w' := by
        intro v w' hr
        simp [execOp, resolve, invoke, builtin, hvy, hvz, hr]
      have hsl : (Lib.strCells b).length = b.size := Lib.strCells_length b
      have hj1 : j'.size = 1 := by omega
      cases c1 with
      | own B k cc o' L ty' sz' n' f' ho' hL hv =>
        rw [ho] at ho'
        injection ho' with f1 f2 f3 f4
        subst f1; subst f2; subst f3; subst f4
        have hob := R.objs o
        rw [ho] at hob
        rcases Nat.eq_zero_or_pos b.size with h0 | h0
        · have hkk : k ≤ cc ∧ ((∃ b K, gs o = some (b, K) ∧ B = some ⟨b, 0, none⟩ ∧ k = n ∧ cc = K) ∨ (gs o = none ∧ k = 0 ∧ cc = 0 ∧ n = 0)) := by
            rcases hv rfl with ⟨b, K, q1, q2, q3, q4⟩ | ⟨q1, q2, q3⟩
            · refine ⟨?_, .inl ⟨b, K, q1, q2, q3, q4⟩⟩
              rcases hob with ⟨r1, r2⟩ | ⟨b', K', cur, r1, r2, r3, r4, _⟩
              · rw [q1] at r1; cases r1
              · rw [q1] at r1
                simp only [Option.some.injEq, Prod.mk.injEq] at r1
                omega
            · refine ⟨by omega, .inr ⟨q1, q2, q3, ?_⟩⟩
              rcases hob with ⟨r1, r2⟩ | ⟨b', K', cur, r1, _⟩
              · exact r2
              · rw [q1] at r1; cases r1
          refine ⟨_, w, hexec _ _ (run_append_str0 t2 hu u1 B k cc b h0 hkk.1), gs, ?_⟩
          have R' := R.same_row o i.elem j.size n f (fun q => if q < n then f q else strRow b (q - n)) ho (fun q hq => if_pos hq)
          rw [h0, Nat.add_zero]
          refine R'.putO hd (.own B k cc o n i.elem j.size n _ (upd_same _ _ _) (Nat.le_refl _) fun _ => ?_)
          rcases hkk.2 with ⟨b, K, q1, q2, q3, q4⟩ | ⟨q1, q2, q3, q4⟩
          · exact .inl ⟨b, K, q1, q2, q3, q4⟩
          · exact .inr ⟨q1, q2, q3⟩
        · have s3 : ∀ q, q < b.size → (strRow b q).length = j.size := fun q _ => by rw [e4]; rfl
          have s4 : ∀ p q, p < b.size → q < j.size → RC w (Zf E.Z gs) ((Lib.strCells b).getD (p * j.size + q) undef) ((strRow b p).getD q .any) := by
            intro p q hp hq
            have hq0 : q = 0 := by omega
            subst hq0
            rw [e4, Nat.mul_one, Nat.add_zero]
            exact .raw _
          have s2 : ∀ q, q < b.size * j.size → ((Lib.strCells b).getD q undef).oneCell' = true := fun q hq => strCells_one (by rw [e4, Nat.mul_one] at hq; exact hq)
          have hlen : (Lib.strCells b).length = b.size * j.size := by rw [hsl, e4, Nat.mul_one]
          rcases hv rfl with ⟨bb, K, q1, rfl, rfl, rfl⟩ | ⟨q1, rfl, rfl⟩
          · rcases hob with ⟨r1, r2⟩ | ⟨b', K', cur, r1, r2, r3, r4, r5, r6, r7, r8⟩
            · rw [q1] at r1; cases r1
            rw [q1] at r1
            simp only [Option.some.injEq, Prod.mk.injEq] at r1
            obtain ⟨rfl, rfl⟩ := r1
            have hkc : k * j.size ≤ cc * j.size := Nat.mul_le_mul_right _ r4
            by_cases hroom : k + b.size ≤ cc
            · have hfit : (k + b.size) * j.size ≤ cc * j.size := Nat.mul_le_mul_right _ hroom
              rw [Nat.add_mul] at hfit
              have hr := Lib.run_append_room_string (P := P) w t u ty el j' t2 hu u1 hj1 bb k cc cur (by rw [← t6]; exact r2) b hroom (by rw [r3, e4, Nat.mul_one]; exact hroom)
              refine ⟨_, _, hexec _ _ hr, gs, ?_⟩
              have hcs : (cur.toList.take k ++ Lib.strCells b ++ cur.toList.drop (k + b.size)) = (cur.toList.take (k * j.size) ++ Lib.strCells b ++ cur.toList.drop (k * j.size + (Lib.strCells b).length)) := by rw [e4, Nat.mul_one, hsl]
              rw [hcs]
              have R' := R.write o bb cc q1 cur (cur.toList.take (k * j.size) ++ Lib.strCells b ++ cur.toList.drop (k * j.size + (Lib.strCells b).length)).toArray i.elem r2 (.row i.elem j.size (k + b.size) (fun q => if q < k then f q else strRow b (q - k)))
                (fun ty cells e => by rw [ho] at e; cases e) (fun ty2 sz2 n2 f2 e => by rw [ho] at e; injection e with e1 e2 e3 e4; subst e1; subst e2; subst e3; exact ⟨_, _, rfl, by omega⟩) fun hL _ => by
                  refine .inr ⟨bb, cc, (cur.toList.take (k * j.size) ++ Lib.strCells b ++ cur.toList.drop (k * j.size + (Lib.strCells b).length)).toArray, q1, setRow_heap w bb cur _ i.elem _ r2, by rw [size_splice (by rw [hlen]; omega), r3], hroom, r5, fun q hq => ?_, fun q hq => ?_, fun q r hq hr' => ?_⟩
                  · show (if q < k then f q else strRow b (q - k)).length = j.size
                    split
                    · exact r6 q ‹_›
                    · exact s3 _ (by omega)
                  · rw [Nat.add_mul] at hq
                    rw [getD_splice (by rw [hlen]; omega), hlen]
                    split
                    · exact s2 _ (by omega)
                    · exact r7 q (by omega)
                  · have hqr : q * j.size + j.size ≤ (k + b.size) * j.size := by rw [← Nat.succ_mul]; exact Nat.mul_le_mul_right _ hq
                    rw [Nat.add_mul] at hqr
                    rw [getD_splice (by rw [hlen]; omega)]
                    show RC _ _ _ ((if q < k then f q else strRow b (q - k)).getD r .any)
                    by_cases h1 : q < k
                    · have : q * j.size + j.size ≤ k * j.size := by rw [← Nat.succ_mul]; exact Nat.mul_le_mul_right _ h1
                      rw [if_neg (by omega), if_pos h1]
                      exact (r8 q r h1 hr').later hL
                    · have : k * j.size ≤ q * j.size := Nat.mul_le_mul_right _ (by omega)
                      rw [if_pos (by rw [hlen]; omega), if_neg h1]
                      have := s4 (q - k) r (by omega) hr'
                      rw [Nat.sub_mul] at this
                      rw [show q * j.size + r - k * j.size = q * j.size - k * j.size + r by omega]
                      exact this.later hL
              exact R'.putO hd (.own _ _ _ o (k + b.size) i.elem j.size (k + b.size) _ (upd_same _ _ _) (Nat.le_refl _) fun _ => .inl ⟨bb, cc, q1, rfl, rfl, rfl⟩)
            · have holds : ∀ (q : Nat) (v : Value), ((List.range (k * j.size)).map fun q => cur.getD q undef)[q]? = some v → w.cell? ((⟨bb, 0, none⟩ : Addr).add q) = some v := range_map_cells fun q hq => by rw [addr_lit, Nat.zero_add]; exact cell_of_heap r2 (by omega)
              have hr := Lib.run_append_grow_string (P := P) w t u ty el j' zv t2 hu u1 hzz ⟨bb, 0, none⟩ k cc ((List.range (k * j.size)).map fun q => cur.getD q undef) (by simp [u3]) holds b (by omega) (by simp only [maxLen] at e9; omega) (growslice_fits (by omega) (by rw [← u4]; exact e10))
              refine ⟨_, _, hexec _ _ hr, upd gs o (some (w.heap.size, grownCap w (k + b.size) cc el)), ?_⟩
              have hG := grown_block R o k b.size cc j.size el ((List.range (k * j.size)).map fun q => cur.getD q undef) (Lib.strCells b) zv.cells f (strRow b) (by omega) (by omega) (by simp) hlen e9 (fun q hq => by rw [range_map_getD hq]; exact r7 q hq) s2 r6 s3 (fun p q hp hq => by
                have : p * j.size + j.size ≤ k * j.size := by rw [← Nat.succ_mul]; exact Nat.mul_le_mul_right _ hp
                rw [range_map_getD (by omega)]; exact r8 p q hp hq) s4 (fun ty2 sz2 n2 f2 e => by rw [ho] at e; injection e with e1 e2 e3 e4; subst e1; subst e2; subst e3; exact ⟨t6, rfl, rfl, h0⟩) (fun ty cells e => by rw [ho] at e; cases e)
              simp only at hG
              rw [t6]
              exact hG.putO hd (by
                refine .own _ _ _ o (k + b.size) el j.size (k + b.size) _ (upd_same _ _ _) (Nat.le_refl _) fun _ => .inl ⟨w.heap.size, _, upd_same _ _ _, rfl, rfl, rfl⟩)
          · have hn0 : n = 0 := by
              rcases hob with ⟨r1, r2⟩ | ⟨b', K', cur, r1, _⟩
              · exact r2
              · rw [q1] at r1; cases r1
            subst hn0
            have hr : (Builtin.append_ #[t, u] ty #[.slice B 0 0, .string b]).run P w = .ok (.slice (some ⟨w.heap.size, 0, none⟩) (0 + b.size) (grownCap w (0 + b.size) 0 el)) (w.drew.alloc (.cells (([] : List Value).toArray ++ (Lib.strCells b).toArray ++ Builtin.zeroCells zv.cells (grownCap w (0 + b.size) 0 el - (0 + b.size))) el)) := by
              cases B with
              | none =>
                have := run_append_nil_string (P := P) w t u ty el j' zv t2 hu u1 hzz b h0 (by simp only [maxLen] at e9; omega) (by rw [← u4]; simp only [Nat.zero_add] at e10; omega)
                simp only [Nat.zero_add]
                have e : (Lib.strCells b).toArray = b.data.map (fun b => Value.int .u8 b.toNat) := by
                  apply Array.ext'
                  simp [Lib.strCells]
                rw [this, e]
                simp
              | some B => exact Lib.run_append_grow_string (P := P) w t u ty el j' zv t2 hu u1 hzz B 0 0 [] (by simp) (fun q v hq => by simp at hq) b (by omega) (by simp only [maxLen] at e9; omega) (growslice_fits (by omega) (by rw [← u4]; exact e10))
            refine ⟨_, _, hexec _ _ hr, upd gs o (some (w.heap.size, grownCap w (0 + b.size) 0 el)), ?_⟩
            have hG := grown_block R o 0 b.size 0 j.size el [] (Lib.strCells b) zv.cells f (strRow b) (by omega) (by omega) (by simp) hlen e9 (fun q hq => by omega) s2 (fun q hq => by omega) s3 (fun p q hp hq => by omega) s4 (fun ty2 sz2 n2 f2 e => by rw [ho] at e; injection e with e1 e2 e3 e4; subst e1; subst e2; subst e3; exact ⟨t6, rfl, rfl, h0⟩) (fun ty cells e => by rw [ho] at e; cases e)
            simp only at hG
            rw [t6]
            exact hG.putO hd (by
              refine .own _ _ _ o (0 + b.size) el j.size (0 + b.size) _ (upd_same _ _ _) (Nat.le_refl _) fun _ => .inl ⟨w.heap.size, _, upd_same _ _ _, rfl, rfl, rfl⟩)
  | _ => simp_all

theorem awpl_appStr [Glb] {fo : List Nat} {ops : Array Oper} {l : List Oper} {Q : APost} {ty t u : TypeId} {pos : String} {af : Array Edge} {d : Option Tmp} {o n : Nat} {f : Nat → List CV} {y z : Operand} {b : ByteArray} {tb : TypeId} {sz : Nat} {i j : TI}
    (hn : AWpL P nt fo ops l Q (updO s d (.own o (n + b.size))) (upd h o (.row tb sz (n + b.size) (fun q => if q < n then f q else strRow b (q - n)))))
    (hy : ev s y = .own o n) (hz : ev s z = .c (.raw (.string b))) (ho : h o = .row tb sz n f) (e1 : tinfo P t = some i) (e2 : i.slice = true) (e3 : tinfo P i.elem = some j) (htb : tb = i.elem) (hsz : sz = j.size) (e4 : j.size = 1) (e5 : j.zero.length = j.size) (hu : P.underlying u = some .string)
    (e9 : n + b.size ≤ maxLen) (e10 : (n + b.size) * j.bytes ≤ 140737488355328) (hd : dOk nt d = true) :
    AWpL P nt fo ops (⟨d, .call ⟨.builtin .append, #[y, z], #[t, u]⟩, ty, pos, af, none⟩ :: l) Q s h := by
  subst htb hsz
  exact awpl_val rfl (fun _ _ _ _ R => app_string R (fun t e => by subst e; simpa [dOk] using hd) hy hz ho e1 e2 e3 e4 e5 hu e9 e10) hn
end
end Go.Am

/- The abstract machine, part 22: the contract of a function that is handed objects, from a law that was proved outside the machine. Generic over the program; no condition. -/
namespace Go.Am
open Go.RowKit

theorem afun_ext [Glb] {P : Program} {f : FuncId} {xs : List AV} {h : AH} {Q : Out → AH → Prop} (hen : Enters P f)
    (H : ∀ (E : Env) (w : World) (gs : Gs) (vs : List Value) (a : Act), RelG E xs.length (entryA xs) h gs a w → vs.length = xs.length → (∀ i, i < xs.length → RA w (Zf E.Z gs) h gs (vs.getD i undef) (xs.getD i default)) →
      Calls P f vs.toArray w fun e w' => ∃ out h' gs', Q out h' ∧ outOk (RA w' (Zf E.Z gs') h' gs') e out ∧ RelG E xs.length (entryA xs) h' gs' a w') : AFun P f xs h Q := by
  refine ⟨hen, fun Z w gs vs hz hgl hok hlen hx => ?_⟩
  have hR : RelG ⟨w, Z, h, gs, []⟩ xs.length (entryA xs) h gs { tmps := vs.toArray, defers := [] } w := by
    refine ⟨BelowX.refl _ _, hz, fun b hb => (by obtain ⟨o, K, e⟩ := hb; exact ⟨(hok.fresh o b K e).2, (hok.fresh o b K e).1⟩), hgl, fun o b K e => ⟨.inr ⟨o, K, e⟩, (hok.fresh o b K e).1⟩, hok.inj, hok.objs, fun t => ?_, by simp; omega, rfl, Refs.refl _ _⟩
    by_cases ht : t < xs.length
    · have e : vs.toArray.getD t undef = vs.getD t undef := by simp [Array.getD_eq_getD_getElem?, List.getD_eq_getElem?_getD]
      have e2 : entryA xs t = xs.getD t default := by unfold entryA; rw [getD_lt ht, getD_lt ht]
      simp only [e, e2]
      exact hx t ht
    · have : entryA xs t = .c .any := by
        unfold entryA
        rw [List.getD_eq_getElem?_getD, List.getElem?_eq_none (by omega)]
        rfl
      rw [this]
      exact .c _ _ (.any _)
  refine (H _ w gs vs _ hR hlen hx).mono fun e w' ⟨out, h', gs', q1, q2, R'⟩ => ⟨out, h', gs', q1, q2, ⟨fun o b K e => ?_, R'.inj, R'.objs⟩, R'.below, R'.refs, fun o b K e => (R'.fresh _ _ _ e).1⟩
  have h1 := R'.fresh _ _ _ e
  refine ⟨h1.2, fun hZ => ?_⟩
  rcases h1.1 with q | q
  · have := R'.zlt b hZ
    dsimp only at this q
    omega
  · exact (R'.zd b q).1 hZ
end Go.Am

/- The abstract machine, part 23: strings.Builder's copy check as a contract over objects, from its laws. Generic over the program; no condition. -/
namespace Go.Am
open Go.RowKit

theorem setCell_setRow {w : World} {b off : Nat} {cur : Array Value} {T : TypeId} {fr : Nat × Nat} (v : Value) (hb : w.heap[b]? = some (.cells cur T fr)) : w.setCell ⟨b, off, none⟩ v = w.setRow b (cur.setIfInBounds off v) := by
  have hlt : b < w.heap.size := (Array.getElem?_eq_some_iff.1 hb).1
  have hv : w.heap[b] = .cells cur T fr := (Array.getElem?_eq_some_iff.1 hb).2
  unfold World.setCell World.setRow
  congr 1
  apply Array.ext_getElem?
  intro i
  simp only [Array.getElem?_modify]
  split
  · rename_i e
    subst e
    rw [Array.getElem?_eq_getElem hlt, hv]
    rfl
  · rfl

theorem afun_copyCheck [Glb] {P : Program} {f : FuncId} {T : TypeId} {h : AH} {c0 c1 : AV} (hen : Enters P f)
    (hu : ∀ (b : Nat) (w : World), w.cell? ⟨b, 0, none⟩ = some (.pointer (some ⟨b, 0, none⟩)) → Calls P f #[.pointer (some ⟨b, 0, none⟩)] w fun e w' => e = .returned (.tuple #[]) ∧ w' = w)
    (hf : ∀ (b : Nat) (w : World), w.cell? ⟨b, 0, none⟩ = some (.pointer none) → w.shape? b = some (T, 2) → w.frozen? ⟨b, 0, none⟩ = false →
      Calls P f #[.pointer (some ⟨b, 0, none⟩)] w fun e w' => e = .returned (.tuple #[]) ∧ w' = w.setCell ⟨b, 0, none⟩ (.pointer (some ⟨b, 0, none⟩)))
    (h0 : h 0 = .box T [c0, c1]) (hc : c0 = .c (.raw (.pointer none)) ∨ c0 = .ptr 0 0) :
    AFun P f [.ptr 0 0] h fun out h' => out = .ret (.c (.tup [])) ∧ h' = upd h 0 (.box T [.ptr 0 0, c1]) := by
  refine afun_ext hen fun E w gs vs a R hl hx => ?_
  match vs, hl with
  | [v], _ =>
    have hx0 := hx 0 (by simp)
    simp only [List.getD_cons_zero] at hx0
    have hob := R.objs 0
    rw [h0] at hob
    obtain ⟨b, K, cur, g1, g2, g3, g4, g5⟩ := hob
    have hv : v = .pointer (some ⟨b, 0, none⟩) := by
      cases hx0 with
      | ptr _ _ b' K' ty cells ho hg =>
        rw [g1] at hg
        simp only [Option.some.injEq, Prod.mk.injEq] at hg
        rw [hg.1]
    subst hv
    have k0 := g5 0 (by simp)
    have k1 := g5 1 (by simp)
    simp only [List.getD_cons_zero, List.getD_cons_succ] at k0 k1
    have hsz : cur.size = 2 := by simpa using g3
    have hcell : w.cell? ⟨b, 0, none⟩ = some (cur.getD 0 undef) := by
      have := cell_of_heap g2 (j := 0) (by omega)
      simpa using this
    have hself : ∀ (w' : World) (Z' : Nat → Prop) (h' : AH), h' 0 = .box T [.ptr 0 0, c1] → RA w' Z' h' gs (.pointer (some ⟨b, 0, none⟩)) (.ptr 0 0) := fun w' Z' h' e => .ptr 0 0 b K T _ e g1
    rcases hc with rfl | rfl
    · have hz := k0.raw_inv
      rw [hz] at hcell
      refine (hf b w hcell (by simp [World.shape?, g2, hsz]) (by simp [World.frozen?, g2])).mono ?_
      rintro e w' ⟨rfl, rfl⟩
      refine ⟨_, _, gs, ⟨rfl, rfl⟩, .c _ _ (.tup #[] [] rfl fun i hi => by simp at hi), ?_⟩
      rw [setCell_setRow _ g2]
      refine R.write 0 b K g1 cur _ T g2 _ (fun _ _ _ => ⟨_, _, rfl⟩) (fun ty sz n f e => by rw [h0] at e; cases e) fun hL hr => ?_
      refine ⟨b, K, _, g1, setRow_heap w b cur _ T _ g2, by simp [hsz], fun j hj => ?_, fun j hj => ?_⟩
      · match j, hj with
        | 0, _ => simp [Array.getD_eq_getD_getElem?, Array.getElem?_setIfInBounds, hsz, Value.oneCell']
        | 1, _ =>
          have := g4 1 (by simp)
          simpa [Array.getD_eq_getD_getElem?, Array.getElem?_setIfInBounds] using this
      · match j, hj with
        | 0, _ =>
          have e : (cur.setIfInBounds 0 (.pointer (some ⟨b, 0, none⟩))).getD 0 undef = .pointer (some ⟨b, 0, none⟩) := by simp [Array.getD_eq_getD_getElem?, Array.getElem?_setIfInBounds, hsz]
          rw [e]
          exact hself _ _ _ (upd_same _ _ _)
        | 1, _ =>
          have e : (cur.setIfInBounds 0 (.pointer (some ⟨b, 0, none⟩))).getD 1 undef = cur.getD 1 undef := by simp [Array.getD_eq_getD_getElem?, Array.getElem?_setIfInBounds]
          rw [e]
          exact k1.later hL hr
    · have hp : cur.getD 0 undef = .pointer (some ⟨b, 0, none⟩) := by
        generalize cur.getD 0 undef = v0 at k0
        cases k0 with
        | ptr _ _ b' K' ty cells ho hg =>
          rw [g1] at hg
          simp only [Option.some.injEq, Prod.mk.injEq] at hg
          rw [hg.1]
      rw [hp] at hcell
      refine (hu b w hcell).mono ?_
      rintro e w' ⟨rfl, rfl⟩
      have hh : upd h 0 (.box T [.ptr 0 0, c1]) = h := by
        funext i
        unfold upd
        split
        · rename_i e; subst e; exact h0.symm
        · rfl
      exact ⟨_, h, gs, ⟨rfl, hh.symm⟩, .c _ _ (.tup #[] [] rfl fun i hi => by simp at hi), R⟩
end Go.Am

/- strings.Builder's copy check, walked over this program; its contract over objects. No condition. -/
namespace Go.Am
open Go.Proofs Go.RowKit
set_option maxHeartbeats 1000000
set_option maxRecDepth 100000

theorem Tryd.sizeBuilder : (Tryd.prog.info? 44).map (·.size) = some 2 := by kernel_rfl
theorem Tryd.liesBuilder : liesAt Tryd.prog Tryd.prog.depth 44 (2 / Tryd.prog.cellsOf 44) 0 44 1 = true := by kernel_rfl
theorem Tryd.undPB : Tryd.prog.underlying 41 = some (.pointer 44) := by kernel_rfl
theorem Tryd.undUP : Tryd.prog.underlying 73 = some .unsafePointer := by kernel_rfl

theorem copyCheck_used (b : Nat) (w : World) (h0 : w.cell? ⟨b, 0, none⟩ = some (.pointer (some ⟨b, 0, none⟩))) :
    Calls Tryd.prog 39 #[.pointer (some ⟨b, 0, none⟩)] w fun e w' => e = .returned (.tuple #[]) ∧ w' = w := by
  obtain ⟨j, hj, _⟩ := Option.map_eq_some_iff.1 Tryd.sizeBuilder
  go_enter Tryd.func39, Tryd.ntmps39
  go_wp2
  rw [Lib.run_neq_ptr_same w _ Tryd.undPB hj]
  go_wp2
  go_end0
  exact ⟨rfl, rfl⟩

theorem copyCheck_fresh (b : Nat) (w : World) (h0 : w.cell? ⟨b, 0, none⟩ = some (.pointer none)) (hsh : w.shape? b = some (44, 2)) (hfz : w.frozen? ⟨b, 0, none⟩ = false) :
    Calls Tryd.prog 39 #[.pointer (some ⟨b, 0, none⟩)] w fun e w' => e = .returned (.tuple #[]) ∧ w' = w.setCell ⟨b, 0, none⟩ (.pointer (some ⟨b, 0, none⟩)) := by
  obtain ⟨j, hj, hjs⟩ := Option.map_eq_some_iff.1 Tryd.sizeBuilder
  go_enter Tryd.func39, Tryd.ntmps39
  go_wp2
  rw [Lib.run_to_unsafe w ⟨b, 0, none⟩ Tryd.undPB Tryd.undUP hj (by rw [hjs]; decide) hsh (Nat.zero_lt_succ 1)]
  simp only [Result.andThen]
  rw [Oper.upon_value]
  go_wp2
  rw [run_callFunc_extern Tryd.func45 (by kernel_rfl) (by kernel_rfl) (by kernel_rfl) (e := Extern.AbiNoEscape.same) (by kernel_rfl)]
  rw [Lib.run_noEscape]
  simp only [Result.andThen]
  rw [Oper.upon_value]
  go_wp2
  rw [Lib.run_from_unsafe w ⟨b, 0, none⟩ Tryd.undUP Tryd.undPB hj hsh Tryd.liesBuilder]
  simp only [Result.andThen]
  rw [Oper.upon_value]
  go_wp2
  go_end0
  exact ⟨rfl, rfl⟩

theorem copyCheck_ok [Glb] {h : AH} {c0 c1 : AV} (h0 : h 0 = .box 44 [c0, c1]) (hc : c0 = .c (.raw (.pointer none)) ∨ c0 = .ptr 0 0) :
    AFun Tryd.prog 39 [.ptr 0 0] h fun out h' => out = .ret (.c (.tup [])) ∧ h' = upd h 0 (.box 44 [.ptr 0 0, c1]) :=
  afun_copyCheck ⟨_, Tryd.func39, by kernel_rfl, rfl⟩ copyCheck_used copyCheck_fresh h0 hc
end Go.Am

/- The abstract machine, part 24: a call of a function that is handed objects under the caller's own numbers. Generic over the program; no condition. -/
namespace Go.Am
open Go.RowKit

theorem ren1_id : ∀ x : AV, x.ren1 id = x
  | .when b x => by rw [AV.ren1, ren1_id x]
  | .c _ | .agg _ | .pim _ | .ptr _ _ | .rp _ _ _ _ | .own _ _ | .osub _ _ _ _ | .emp => rfl
  | .fn f os => by simp [AV.ren1]
theorem ren_id : ∀ x : AV, x.ren id = x
  | .when b x => by rw [AV.ren, ren_id x]
  | .agg xs => by
    rw [AV.ren]
    congr 1
    have : (AV.ren1 id) = id := funext ren1_id
    rw [this, List.map_id]
  | .c _ | .pim _ | .ptr _ _ | .rp _ _ _ _ | .own _ _ | .osub _ _ _ _ | .emp => rfl
  | .fn f os => by simp [AV.ren, AV.ren1]
theorem oren_id (x : AObj) : x.ren id = x := by
  cases x with
  | box ty cells =>
    have : (AV.ren id) = id := funext ren_id
    simp [AObj.ren, this]
  | _ => rfl

/-- What must hold behind a call under the same numbers. -/
def CallI [Glb] (P : Program) (nt : Nat) (fo : List Nat) (ops : Array Oper) (l : List Oper) (Q : APost) (d : Option Tmp) (ks : List Nat) (s : Slots) (h : AH) : Out → AH → Prop
  | .ret x, h1 => (∀ k ∈ x.refsw, k ∈ ks) ∧ Foot ks h1 ∧ AWpL P nt fo ops l Q (updO s d x) (appL id id h1 ks h)
  | .pan c, h1 => Foot ks h1 ∧ Q (.panic c) s (appL id id h1 ks h)

theorem CallI.of_eq [Glb] {P : Program} {nt : Nat} {fo : List Nat} {ops : Array Oper} {l : List Oper} {Q : APost} {d : Option Tmp} {ks : List Nat} {s : Slots} {h h1 h2 : AH} {out : Out} {x : AV} (hq : out = .ret x ∧ h1 = h2) (hr : ∀ k ∈ x.refsw, k ∈ ks) (hft : Foot ks h2)
    (hn : AWpL P nt fo ops l Q (updO s d x) (appL id id h2 ks h)) : CallI P nt fo ops l Q d ks s h out h1 := by
  obtain ⟨rfl, rfl⟩ := hq
  exact ⟨hr, hft, hn⟩

theorem appL_ren (h1 : AH) : ∀ (ks : List Nat) (h : AH), appL id (AObj.ren id) h1 ks h = appL id id h1 ks h
  | [], h => rfl
  | k :: ks, h => by rw [appL, appL, appL_ren h1 ks, oren_id]; rfl

theorem awpl_callI [Glb] {P : Program} {nt : Nat} {fo : List Nat} {ops : Array Oper} {l : List Oper} {Q : APost} {s : Slots} {h h1 : AH} {d : Option Tmp} {f : FuncId} {args : Array Operand} {ats : Array TypeId} {ty : TypeId} {pos : String} {af : Array Edge} {xs : List AV} (ks : List Nat)
    (hf : AFun P f xs h1 (CallI P nt fo ops l Q d ks s h)) (hd : dOk nt d = true) (hx : args.toList.map (ev s) = xs) (hft : Foot ks h1) (hh : ∀ k ∈ ks, h k = h1 k) (hxr : ∀ x ∈ xs, ∀ k ∈ x.refsw, k ∈ ks) :
    AWpL P nt fo ops (⟨d, .call ⟨.value (.func f), args, ats⟩, ty, pos, af, none⟩ :: l) Q s h := by
  have hr : (AV.ren id) = id := funext ren_id
  refine awpl_call ks id (hf.mono fun out h2 q => ?_) hd (by rw [hr, List.map_id]; exact hx) (fun _ _ _ _ e => e) hft (fun k hk => by rw [oren_id]; exact hh k hk) hxr
  cases out with
  | ret x => obtain ⟨q1, q2, q3⟩ := q; exact ⟨q1, q2, by rw [ren_id, appL_ren]; exact q3⟩
  | pan c => obtain ⟨q1, q2⟩ := q; exact ⟨q1, by rw [appL_ren]; exact q2⟩
end Go.Am

/- Contracts of strings.Builder's writing methods over objects. No condition. -/
namespace Go.Am
open Go.Proofs
attribute [local go_sem ↓] ofL_cons ofH_cons upd_apply
set_option maxHeartbeats 2000000
set_option linter.unusedSimpArgs false

def bldP (u : Bool) : AV := if u then .ptr 0 0 else .c (.raw (.pointer none))
/-- The objects of a builder: the variable, the row of its bytes. -/
def bldH (u : Bool) (n : Nat) (f : Nat → List CV) : AH := ofH [(0, .box 44 [bldP u, .own 1 n]), (1, .row 5 1 n f)]

theorem bld_foot (u : Bool) (n : Nat) (f : Nat → List CV) : Foot [0, 1] (bldH u n f) := by
  refine ⟨fun k hk => ?_, fun k hk ty cells e x hx k' hk' => ?_⟩
  · simp only [List.mem_cons, List.not_mem_nil, or_false, not_or] at hk
    simp [bldH, ofH_cons, ofH_nil, hk]
  · simp only [List.mem_cons, List.not_mem_nil, or_false] at hk
    rcases hk with rfl | rfl
    · simp only [bldH, ofH_cons, reduceIte, AObj.box.injEq] at e
      obtain ⟨rfl, rfl⟩ := e
      cases u <;> simp [bldP] at hx <;> rcases hx with rfl | rfl <;> simp [AV.refsw, AV.ref1w] at hk' <;> simp [hk']
    · simp [bldH, ofH_cons] at e

/-- A builder that holds these bytes. -/
def bldB (u : Bool) (b : ByteArray) : AH := bldH u b.size (strRow b)

theorem strCells_push (b : ByteArray) (c : UInt8) : Lib.strCells (b.push c) = Lib.strCells b ++ [.int .u8 c.toNat] := by simp [Lib.strCells]
theorem strCells_app (a b : ByteArray) : Lib.strCells (a ++ b) = Lib.strCells a ++ Lib.strCells b := by simp [Lib.strCells]
theorem strRow_push_lt {b : ByteArray} {c : UInt8} {i : Nat} (h : i < b.size) : strRow (b.push c) i = strRow b i := by
  unfold strRow
  rw [strCells_push, List.getD_eq_getElem?_getD, List.getElem?_append_left (by rw [Lib.strCells_length]; exact h), ← List.getD_eq_getElem?_getD]
theorem strRow_push_eq (b : ByteArray) (c : UInt8) : strRow (b.push c) b.size = [.raw (.int .u8 c.toNat)] := by
  unfold strRow
  rw [strCells_push, List.getD_eq_getElem?_getD, List.getElem?_append_right (by rw [Lib.strCells_length]; exact Nat.le_refl _), Lib.strCells_length, Nat.sub_self]
  rfl
theorem strRow_app_lt {a b : ByteArray} {i : Nat} (h : i < a.size) : strRow (a ++ b) i = strRow a i := by
  unfold strRow
  rw [strCells_app, List.getD_eq_getElem?_getD, List.getElem?_append_left (by rw [Lib.strCells_length]; exact h), ← List.getD_eq_getElem?_getD]
theorem strRow_app_ge {a b : ByteArray} {i : Nat} (h : ¬ i < a.size) : strRow (a ++ b) i = strRow b (i - a.size) := by
  unfold strRow
  rw [strCells_app, List.getD_eq_getElem?_getD, List.getElem?_append_right (by rw [Lib.strCells_length]; omega), Lib.strCells_length, ← List.getD_eq_getElem?_getD]
theorem push_row (b : ByteArray) (c : UInt8) {t : TypeId} : objLe (.row t 1 (b.size + 1) (fun q => if q < b.size then strRow b q else [[.raw (.int .u8 c.toNat)]].getD (q - b.size) [])) (.row t 1 (b.push c).size (strRow (b.push c))) := by
  refine objLe_rown (by rw [ByteArray.size_push]) fun i hi => ?_
  by_cases h : i < b.size
  · rw [if_pos h, strRow_push_lt h]
  · have : i = b.size := by omega
    subst this
    rw [if_neg h, strRow_push_eq, Nat.sub_self, List.getD_cons_zero]
theorem app_row (a b : ByteArray) {t : TypeId} : objLe (.row t 1 (a.size + b.size) (fun q => if q < a.size then strRow a q else strRow b (q - a.size))) (.row t 1 (a ++ b).size (strRow (a ++ b))) := by
  refine objLe_rown (by rw [ByteArray.size_append]) fun i hi => ?_
  by_cases h : i < a.size
  · rw [if_pos h, strRow_app_lt h]
  · rw [if_neg h, strRow_app_ge h]

variable [Glb]

theorem copyCheck_bld (u : Bool) (n : Nat) (f : Nat → List CV) : AFun Tryd.prog 39 [.ptr 0 0] (bldH u n f) fun out h' => out = .ret (.c (.tup [])) ∧ h' = bldH true n f := by
  refine (copyCheck_ok (h := bldH u n f) (c0 := bldP u) (c1 := .own 1 n) rfl (by cases u <;> simp [bldP])).mono fun out h' q => ⟨q.1, q.2.trans ?_⟩
  funext i
  simp only [bldH, upd_apply, ofH_cons, bldP]
  split <;> simp

theorem wByte_ok (u : Bool) (b : ByteArray) (c : UInt8) (hn : b.size ≤ 1000000000) :
    AFun Tryd.prog 31 [.ptr 0 0, .c (.raw (.int .u8 c.toNat))] (bldB u b) fun out h' => out = .ret (.c (.raw .nilIface)) ∧ h' = bldB true (b.push c) := by
  refine afun_of Tryd.func31 rfl (by kernel_rfl) (by simp [Tryd.ntmps31]) (fo := [0, 1]) (fun o ho => ?_) ?_
  · exact Classical.byContradiction fun hm => ho ((bld_foot u b.size (strRow b)).out o hm)
  have FF : True := trivial
  rw [Tryd.ntmps31]
  refine m_cut [(0, .ptr 0 0), (1, .c (.raw (.int .u8 c.toNat)))] [(0, .box 44 [bldP u, .own 1 b.size]), (1, .row 5 1 b.size (strRow b))] (h2 := by cases u <;> rfl) ?_
  refine awp_rseq (by decide) fun KK hKK => ?_
  refine m_assign ?_
  refine hKK _ _ ?_
  clear hKK KK
  refine awp_seqL ?_
  refine awpl_op (by rfl) (by rfl) ?_
  refine m_move ?_
  refine run_nil ?_
  refine awpl_callI [0, 1] ((copyCheck_bld u b.size (strRow b)).mono fun out h1 q => CallI.of_eq q (by simp [AV.refsw, AV.ref1w]) (bld_foot true b.size (strRow b)) ?_) (by rfl) (by simp only [List.map, go_sem, reduceIte, Nat.reduceEqDiff, FF] <;> rfl) (bld_foot u b.size (strRow b)) (by simp only [List.forall_mem_cons, List.forall_mem_nil, go_sem, reduceIte, Nat.reduceEqDiff, FF]; all_goals ((repeat' apply And.intro) <;> first | trivial | rfl)) (by simp [AV.refsw, AV.ref1w])
  refine awpl_end ?_
  rw [thenQ_normal]
  refine m_cut [(0, .ptr 0 0), (1, .c (.raw (.int .u8 c.toNat)))] [(0, .box 44 [.ptr 0 0, .own 1 b.size]), (1, .row 5 1 b.size (strRow b))] ?_
  refine awp_rseq (by decide) fun KK hKK => ?_
  refine m_move ?_
  refine m_move ?_
  refine m_nil ?_
  refine m_field ?_
  refine m_load ?_
  refine m_move ?_
  refine m_sliceN ?_
  first | refine m_appOwn ?_ | refine m_appEmp ?_
  refine m_nil ?_
  refine m_field ?_
  first | refine m_stPtr ?_ | refine m_stRp ?_
  refine hKK _ _ ?_
  clear hKK KK
  refine awp_rseq (by decide) fun KK hKK => ?_
  refine m_assign ?_
  refine hKK _ _ ?_
  clear hKK KK
  refine m_cutH [(4, .c (.raw .nilIface))] [(0, .box 44 [.ptr 0 0, .own 1 (b.push c).size]), (1, .row 5 1 (b.push c).size (strRow (b.push c)))] ?_ ?_
  · refine List.forall_mem_cons.2 ⟨?_, List.forall_mem_cons.2 ⟨?_, List.forall_mem_nil _⟩⟩
    · exact objLe_of (by rw [ByteArray.size_push]; rfl)
    · exact push_row b c
  refine awp_ret ⟨rfl, [.c (.raw .nilIface)], ⟨⟨rfl, rfl⟩, trivial⟩, .inl ⟨.raw .nilIface, by simp [AV.refsw, AV.ref1w], CV.Sub.refl _, rfl, keepH_eq (l := [(0, .box 44 [.ptr 0 0, .own 1 (b.push c).size]), (1, .row 5 1 (b.push c).size (strRow (b.push c)))]) ?_⟩⟩
  intro p hp
  simp only [List.mem_cons, List.not_mem_nil, or_false] at hp
  rcases hp with rfl | rfl <;> rfl

theorem wStr_ok (u : Bool) (a b : ByteArray) (hn : a.size ≤ 1000000000) (hb : b.size ≤ 1000000000) :
    AFun Tryd.prog 32 [.ptr 0 0, .c (.raw (.string b))] (bldB u a) fun out h' => out = .ret (.c (.tup [.raw (.int .i64 b.size), .raw .nilIface])) ∧ h' = bldB true (a ++ b) := by
  refine afun_of Tryd.func32 rfl (by kernel_rfl) (by simp [Tryd.ntmps32]) (fo := [0, 1]) (fun o ho => ?_) ?_
  · exact Classical.byContradiction fun hm => ho ((bld_foot u a.size (strRow a)).out o hm)
  have FF : True := trivial
  rw [Tryd.ntmps32]
  refine m_cut [(0, .ptr 0 0), (1, .c (.raw (.string b)))] [(0, .box 44 [bldP u, .own 1 a.size]), (1, .row 5 1 a.size (strRow a))] (h2 := by cases u <;> rfl) ?_
  refine awp_rseq (by decide) fun KK hKK => ?_
  refine m_assign ?_
  refine m_assign ?_
  refine hKK _ _ ?_
  clear hKK KK
  refine awp_seqL ?_
  refine awpl_op (by rfl) (by rfl) ?_
  refine m_move ?_
  refine run_nil ?_
  refine awpl_callI [0, 1] ((copyCheck_bld u a.size (strRow a)).mono fun out h1 q => CallI.of_eq q (by simp [AV.refsw, AV.ref1w]) (bld_foot true a.size (strRow a)) ?_) (by rfl) (by simp only [List.map, go_sem, reduceIte, Nat.reduceEqDiff, FF] <;> rfl) (bld_foot u a.size (strRow a)) (by simp only [List.forall_mem_cons, List.forall_mem_nil, go_sem, reduceIte, Nat.reduceEqDiff, FF]; all_goals ((repeat' apply And.intro) <;> first | trivial | rfl)) (by simp [AV.refsw, AV.ref1w])
  refine awpl_end ?_
  rw [thenQ_normal]
  refine m_cut [(0, .ptr 0 0), (1, .c (.raw (.string b)))] [(0, .box 44 [.ptr 0 0, .own 1 a.size]), (1, .row 5 1 a.size (strRow a))] ?_
  refine awp_seqL ?_
  refine awpl_op (by rfl) (by rfl) ?_
  refine m_move ?_
  refine run_nil ?_
  refine awpl_op (by rfl) (by rfl) ?_
  refine m_move ?_
  refine run_nil ?_
  refine awpl_op (by rfl) (by rfl) ?_
  refine m_nil ?_
  refine run_nil ?_
  refine awpl_op (by rfl) (by rfl) ?_
  refine m_field ?_
  refine run_nil ?_
  refine awpl_op (by rfl) (by rfl) ?_
  refine m_load ?_
  refine run_nil ?_
  refine awpl_op (by rfl) (by rfl) ?_
  refine m_move ?_
  refine run_nil ?_
  refine awpl_appStr ?_ (by simp only [go_sem, reduceIte, Nat.reduceEqDiff, FF] <;> rfl) (by simp only [go_sem, reduceIte, Nat.reduceEqDiff, FF] <;> rfl) (by simp only [go_sem, reduceIte, Nat.reduceEqDiff, FF] <;> rfl) (by simp only [go_sem] <;> rfl) (by rfl) (by simp only [go_sem] <;> rfl) (by rfl) (by rfl) (by rfl) (by rfl) (by simp only [go_sem] <;> rfl) (by simp only [maxLen]; omega) (by dsimp only; omega) (by rfl)
  dsimp only [updO]
  refine awpl_op (by rfl) (by rfl) ?_
  refine m_nil ?_
  refine run_nil ?_
  refine awpl_op (by rfl) (by rfl) ?_
  refine m_field ?_
  refine run_nil ?_
  refine awpl_op (by rfl) (by rfl) ?_
  first | refine m_stPtr ?_ | refine m_stRp ?_
  refine run_nil ?_
  refine awpl_end ?_
  rw [thenQ_normal]
  refine m_cutH [(0, .ptr 0 0), (1, .c (.raw (.string b)))] [(0, .box 44 [.ptr 0 0, .own 1 (a ++ b).size]), (1, .row 5 1 (a ++ b).size (strRow (a ++ b)))] ?_ ?_
  · refine List.forall_mem_cons.2 ⟨?_, List.forall_mem_cons.2 ⟨?_, List.forall_mem_nil _⟩⟩
    · exact objLe_of (by rw [ByteArray.size_append]; rfl)
    · exact app_row a b
  refine awp_rseq (by decide) fun KK hKK => ?_
  refine m_move ?_
  refine m_len ?_
  refine m_assign ?_
  refine m_assign ?_
  refine hKK _ _ ?_
  clear hKK KK
  refine m_cut [(4, .c (.raw (.int .i64 b.size))), (5, .c (.raw .nilIface))] [(0, .box 44 [.ptr 0 0, .own 1 (a ++ b).size]), (1, .row 5 1 (a ++ b).size (strRow (a ++ b)))] ?_
  refine awp_ret ⟨rfl, [.c (.raw (.int .i64 b.size)), .c (.raw .nilIface)], ⟨⟨rfl, rfl⟩, ⟨rfl, rfl⟩, trivial⟩, .inl ⟨.tup [.raw (.int .i64 b.size), .raw .nilIface], by simp [AV.refsw, AV.ref1w], CV.Sub.refl _, rfl, keepH_eq (l := [(0, .box 44 [.ptr 0 0, .own 1 (a ++ b).size]), (1, .row 5 1 (a ++ b).size (strRow (a ++ b)))]) ?_⟩⟩
  intro p hp
  simp only [List.mem_cons, List.not_mem_nil, or_false] at hp
  rcases hp with rfl | rfl <;> rfl
end Go.Am

/- The abstract machine, part 25: a region whose order is drawn and whose last operation comes last in every order. Generic over the program; no condition. -/
namespace Go.Am
open Go.RowKit

section
variable {P : Program} {ops : Array Oper} {last : Oper} {Q Q1 : Exit → Act → World → Prop}

theorem wp_change {o : Oper} {a : Act} {w : World} {K K' : Act → World → Prop} (hK : ∀ a w, K a w → K' a w) (hp : ∀ c a w, Q1 (.panic c) a w → Q (.panic c) a w) (ho : LetsOut Q1 → LetsOut Q) (h : o.wp P a w K Q1) : o.wp P a w K' Q := by
  unfold Oper.wp at h ⊢
  generalize (execOp a.eval o).run P w = r at h ⊢
  cases r with
  | ok x w' =>
    cases x with
    | enter f args =>
      refine Calls.mono h fun e w2 q => ?_
      cases e with
      | returned v => exact hK _ _ q
      | panicked c => exact hp _ _ _ q
      | outgrown => exact ho q
    | value v => exact hK _ _ h
    | skip => exact hK _ _ h
    | defer d => exact hK _ _ h
    | row r args => exact Rows.mono h fun v w2 q => hK _ _ q
    | _ => exact h
  | halt x w' =>
    cases x with
    | panic v => exact hp _ _ _ h
    | _ => exact h

/-- Every operation comes before the last. -/
def lastOk (ops : Array Oper) (last : Oper) : Bool := ((List.range ops.size).all fun j => (maskOf (masks ops.toList []) last.after.toList).testBit j) && last.after.toList.all fun e => decide (e.on < ops.size)

theorem last_all {L : Nat → Bool} (hcl : ∀ i o e, ops[i]? = some o → L i = true → e ∈ o.after.toList → Region.binds .any e = true → L e.on = true)
    (hl : ∀ e ∈ last.after.toList, Region.binds .any e = true → L e.on = true) (h : lastOk ops last = true) : ∀ j, j < ops.size → L j = true := by
  intro j hj
  unfold lastOk at h
  rw [Bool.and_eq_true] at h
  have h := h.1
  rw [List.all_eq_true] at h
  rcases maskOf_bit _ _ (h j (by simpa using hj)) with hb | ⟨e, e1, e2, _, e4⟩
  · simp at hb
  · have hLe := hl e e1 e2
    rcases e4 with rfl | e4
    · exact hLe
    · exact (closed_masks hcl e.on hLe j e4).1

theorem getD_push {listed : Array Bool} {j : Nat} : (listed.push false).getD j false = listed.getD j false := by
  simp only [Array.getD_eq_getD_getElem?, Array.getElem?_push]
  split
  · rename_i e; subst e; simp
  · rfl

theorem ready_push {listed : Array Bool} (hsz : listed.size = ops.size) {i : Nat} (h : i ∈ Region.ready .any (ops.push last) (listed.push false)) :
    (i < ops.size ∧ i ∈ Region.ready .any ops listed) ∨ (i = ops.size ∧ ∀ e ∈ last.after.toList, Region.binds .any e = true → lset listed e.on = true) := by
  obtain ⟨o, h1, h2, h3, h4⟩ := ready_spec h
  rw [Array.size_push] at h2
  by_cases hi : i = ops.size
  · subst hi
    refine .inr ⟨rfl, fun e he hb => ?_⟩
    have ho : o = last := by simpa using h1.symm
    subst ho
    have := h4 e he hb
    rw [getD_push] at this
    exact this
  · have hlt : i < ops.size := by omega
    refine .inl ⟨hlt, ?_⟩
    unfold Region.ready
    rw [List.mem_filter]
    have ho : ops[i]? = some o := by
      rw [Array.getElem?_push, if_neg hi] at h1
      exact h1
    have h3' : listed.getD i true = false := by
      simp only [Array.getD_eq_getD_getElem?, Array.getElem?_push, hsz, if_neg hi] at h3 ⊢
      exact h3
    refine ⟨by simpa using hlt, ?_⟩
    simp only [Bool.and_eq_true, Bool.not_eq_true', h3', ho, Option.map_some, Option.getD_some, Array.all_eq_true_iff_forall_mem, Bool.or_eq_true, true_and]
    intro e he
    cases hb : Region.binds .any e with
    | false => exact .inl rfl
    | true =>
      have := h4 e (Array.mem_toList_iff.2 he) hb
      rw [getD_push] at this
      exact .inr this

theorem wpAny_push (hd : drawOk ops = true) (hg : ∀ (i : Nat) (o : Oper) (j : Nat) (b : Bool), ops[i]? = some o → o.guard = some (j, b) → j < ops.size) (hlo : lastOk ops last = true) (hQn : ∀ a w, Q1 .normal a w → wpOp P (ops.push last) Q ops.size (Q .normal) a w)
    (hp : ∀ c a w, Q1 (.panic c) a w → Q (.panic c) a w) (hout : LetsOut Q1 → LetsOut Q) : ∀ (fuel : Nat) (listed : Array Bool) (a : Act) (w : World), listed.size = ops.size →
    (∀ (i : Nat) (o : Oper) (e : Edge), ops[i]? = some o → lset listed i = true → e ∈ o.after.toList → Region.binds .any e = true → lset listed e.on = true) →
    wpAny P .any ops Q1 fuel listed a w → wpAny P .any (ops.push last) Q (fuel + 1) (listed.push false) a w := by
  have none_ready : ∀ (listed : Array Bool), (∀ j, j < ops.size → lset listed j = true) → Region.ready .any ops listed = [] := by
    intro listed hall
    cases hr : Region.ready .any ops listed with
    | nil => rfl
    | cons i l =>
      exfalso
      obtain ⟨o, h1, h2, h3, h4⟩ := ready_spec (listed := listed) (i := i) (by rw [hr]; simp)
      have := hall i h2
      unfold lset at this
      simp only [Array.getD_eq_getD_getElem?] at this h3
      cases hx : listed[i]? <;> simp_all
  have some_ready : ∀ (listed : Array Bool), listed.size = ops.size → Region.ready .any (ops.push last) (listed.push false) ≠ [] := by
    intro listed hsz he
    have h0 : Region.ready .any ops listed = [] := by
      cases hr : Region.ready .any ops listed with
      | nil => rfl
      | cons i l =>
        exfalso
        obtain ⟨o, h1, h2, h3, h4⟩ := ready_spec (listed := listed) (i := i) (by rw [hr]; simp)
        have hm : i ∈ Region.ready .any (ops.push last) (listed.push false) := by
          unfold Region.ready
          rw [List.mem_filter]
          have hi : i ≠ ops.size := by omega
          have h3' : (listed.push false).getD i true = false := by
            simp only [Array.getD_eq_getD_getElem?, Array.getElem?_push, hsz, if_neg hi] at h3 ⊢
            exact h3
          have ho : (ops.push last)[i]? = some o := by rw [Array.getElem?_push, if_neg hi]; exact h1
          refine ⟨by simp; omega, ?_⟩
          simp only [Bool.and_eq_true, Bool.not_eq_true', h3', ho, Option.map_some, Option.getD_some, Array.all_eq_true_iff_forall_mem, Bool.or_eq_true, true_and]
          intro e he
          cases hb : Region.binds .any e with
          | false => exact .inl rfl
          | true => rw [getD_push]; exact .inr (h4 e (Array.mem_toList_iff.2 he) hb)
        rw [he] at hm
        cases hm
    have hall := all_listed hd hsz h0
    have hm : ops.size ∈ Region.ready .any (ops.push last) (listed.push false) := by
      unfold Region.ready
      rw [List.mem_filter]
      have h3' : (listed.push false).getD ops.size true = false := by
        simp only [Array.getD_eq_getD_getElem?, Array.getElem?_push, hsz, if_true, Option.getD_some]
      have ho : (ops.push last)[ops.size]? = some last := by simp
      refine ⟨by simp, ?_⟩
      simp only [Bool.and_eq_true, Bool.not_eq_true', h3', ho, Option.map_some, Option.getD_some, Array.all_eq_true_iff_forall_mem, Bool.or_eq_true, true_and]
      intro e he
      rw [getD_push]
      unfold lastOk at hlo
      rw [Bool.and_eq_true, List.all_eq_true] at hlo
      rw [List.all_eq_true] at hlo
      have := hlo.2 e (Array.mem_toList_iff.2 he)
      exact .inr (hall e.on (by simpa using this))
    rw [he] at hm
    cases hm
  have last_step : ∀ (fuel : Nat) (listed : Array Bool) (a : Act) (w : World), listed.size = ops.size → (∀ j, j < ops.size → lset listed j = true) → Q1 .normal a w →
      wpOp P (ops.push last) Q ops.size (wpAny P .any (ops.push last) Q fuel ((listed.push false).setIfInBounds ops.size true)) a w := by
    intro fuel listed a w hsz hall hq
    refine wpOp_mono (fun a' w' q => ?_) (hQn a w hq)
    have hr : Region.ready .any (ops.push last) ((listed.push false).setIfInBounds ops.size true) = [] := by
      cases hr : Region.ready .any (ops.push last) ((listed.push false).setIfInBounds ops.size true) with
      | nil => rfl
      | cons i l =>
        exfalso
        obtain ⟨o, h1, h2, h3, h4⟩ := ready_spec (listed := (listed.push false).setIfInBounds ops.size true) (i := i) (by rw [hr]; simp)
        rw [Array.size_push] at h2
        by_cases hi : i = ops.size
        · subst hi
          simp [Array.getD_eq_getD_getElem?, Array.getElem?_setIfInBounds, hsz] at h3
        · have := hall i (by omega)
          unfold lset at this
          simp only [Array.getD_eq_getD_getElem?, Array.getElem?_setIfInBounds, Ne.symm hi, if_false, Array.getElem?_push, hsz, if_neg hi] at h3
          simp only [Array.getD_eq_getD_getElem?] at this
          cases hx : listed[i]? <;> simp_all
    cases fuel with
    | zero => exact ⟨hr, q⟩
    | succ fuel => exact ⟨fun _ => q, fun i hi => by rw [hr] at hi; cases hi⟩
  intro fuel
  induction fuel with
  | zero =>
    intro listed a w hsz hcl h
    refine ⟨fun he => absurd he (some_ready listed hsz), fun i hi => ?_⟩
    rcases ready_push hsz hi with ⟨h1, h2⟩ | ⟨rfl, h2⟩
    · rw [h.1] at h2; cases h2
    · exact last_step _ listed a w hsz (last_all hcl h2 hlo) h.2
  | succ fuel ih =>
    intro listed a w hsz hcl h
    refine ⟨fun he => absurd he (some_ready listed hsz), fun i hi => ?_⟩
    rcases ready_push hsz hi with ⟨h1, h2⟩ | ⟨rfl, h2⟩
    · have hw := h.2 i h2
      obtain ⟨o, k1, k2, k3, k4⟩ := ready_spec h2
      have hil : i < listed.size := by omega
      have hne : i ≠ ops.size := by omega
      unfold wpOp at hw ⊢
      have ho : (ops.push last)[i]? = some o := by rw [Array.getElem?_push, if_neg hne]; exact k1
      rw [k1] at hw
      rw [ho]
      simp only at hw ⊢
      have hwant : Region.wanted o (yielded (ops.push last) a.tmps) = Region.wanted o (yielded ops a.tmps) := by
        unfold Region.wanted
        cases hgd : o.guard with
        | none => rfl
        | some p =>
          obtain ⟨j, b⟩ := p
          have hj := hg i o j b k1 hgd
          have : (ops.push last)[j]? = ops[j]? := by rw [Array.getElem?_push, if_neg (by omega)]
          simp [yielded, this]
      rw [hwant]
      have next : ∀ a' w', wpAny P .any ops Q1 fuel (listed.setIfInBounds i true) a' w' → wpAny P .any (ops.push last) Q (fuel + 1) ((listed.push false).setIfInBounds i true) a' w' := by
        intro a' w' q
        have hset : (listed.push false).setIfInBounds i true = (listed.setIfInBounds i true).push false := by
          apply Array.ext_getElem?
          intro j
          simp only [Array.getElem?_setIfInBounds, Array.getElem?_push, Array.size_push, Array.size_setIfInBounds]
          by_cases hj : i = j
          · subst hj
            simp [hil, Nat.ne_of_lt hil, Nat.lt_succ_of_lt hil]
          · simp [hj]
        rw [hset]
        refine ih _ a' w' (by simpa using hsz) (fun i' o' e g1 h2 h5 h6 => ?_) q
        have hls : ∀ j, lset (listed.setIfInBounds i true) j = (decide (j = i) || lset listed j) := fun j => by
          unfold lset
          simp only [Array.getD_eq_getD_getElem?]
          by_cases hji : j = i
          · subst hji
            simp [hil]
          · rw [Array.getElem?_setIfInBounds_ne (Ne.symm hji)]
            simp [hji]
        rw [hls] at h2 ⊢
        simp only [Bool.or_eq_true, decide_eq_true_eq] at h2 ⊢
        rcases h2 with rfl | h2
        · rw [k1] at g1
          injection g1 with g1
          subst g1
          exact .inr (k4 e h5 h6)
        · exact .inr (hcl i' o' e g1 h2 h5 h6)
      split at hw
      · rename_i hc
        rw [if_pos hc]
        rcases hw with hw | hw
        · exact .inl (wp_change next hp hout hw)
        · exact .inr ⟨hw.1, hout hw.2⟩
      · rename_i hc
        rw [if_neg hc]
        exact next _ _ hw
    · have hall := last_all hcl h2 hlo
      exact last_step _ listed a w hsz hall (h.1 (none_ready listed hall))
end
end Go.Am

/- The abstract machine, part 26: a drawn region whose last operation is a call that is handed objects. Generic over the program; no condition. -/
namespace Go.Am
open Go.RowKit

def guardsIn (ops : List Oper) : Bool := ops.all fun o => match o.guard with
  | some (j, _) => decide (j < ops.length)
  | none => true

section
variable {E : Env} {nt : Nat} {P : Program} {ops : Array Oper} {free : List (Nat × Nat)}
/-- Every order of a drawn region. -/
theorem region_any [Glb] (hs : slotsOk nt ops.toList = true) (hd : drawOkF free ops = true) {K : (Nat → AV) → AH → Prop} {Q : Exit → Act → World → Prop} {s : Nat → AV} {h : AH} {a : Act} {w : World}
    (R : Rel E nt s h a w) (hr : aRun P ops (fun s h => freeFin free ops s = true ∧ K s h) ops.toList s h) (hQ : ∀ s' h' a' w', K s' h' → Rel E nt s' h' a' w' → Q .normal a' w') : wpAny P .any ops Q ops.size (Array.replicate ops.size false) a { w with drawn := w.drawn + 1 } := by
  obtain ⟨xs, es, S, H, e1, e2, e3, e4⟩ := trace ops.toList 0 s h (fun k => by simp) hr
  simp only [Nat.zero_add] at e3 e4
  have eS : ∀ k, k ≤ ops.size → S k = SL ops xs s (fun _ => true) k ∧ H k = HL es h (fun _ => true) k := by
    intro k
    induction k with
    | zero => intro _; exact ⟨e1, e2⟩
    | succ k ih =>
      intro hk
      obtain ⟨i1, i2⟩ := ih (by omega)
      have ho : ops.toList[k]? = some ops[k] := by simp
      obtain ⟨_, t2, t3⟩ := e3 k _ ho
      have hd : dstAt ops k = ops[k].dst := by simp [dstAt, Array.getElem?_eq_getElem (show k < ops.size by omega)]
      exact ⟨by rw [t2, i1]; simp [SL, hd], by rw [t3, i2]; simp [HL]⟩
  have T : Texts P ops xs es s h := by
    intro k o ho
    have hk := lt_of_some ho
    have := (e3 k o (by simpa using ho)).1
    rw [(eS k (by omega)).1, (eS k (by omega)).2] at this
    exact this
  have hK : freeFin free ops (SL ops xs s (fun _ => true) ops.size) = true ∧ K (SL ops xs s (fun _ => true) ops.size) (HL es h (fun _ => true) ops.size) := by
    have := e4
    rw [Array.length_toList, (eS ops.size (Nat.le_refl _)).1, (eS ops.size (Nat.le_refl _)).2] at this
    exact this
  refine draw_main hs hd (free_of (drawOk_free hd) T hK.1) T hK.2 hQ ops.size (Array.replicate ops.size false) a _ (by simp) (by simp) ?_ ?_
  · intro i o e ho hl
    unfold lset at hl
    simp only [Array.getD_eq_getD_getElem?] at hl
    by_cases hi : i < ops.size
    · simp [hi] at hl
    · simp [hi] at hl
  · have hno : ∀ j, lset (Array.replicate ops.size false) j = false := fun j => by
      unfold lset
      simp only [Array.getD_eq_getD_getElem?]
      by_cases hj : j < ops.size <;> simp [hj]
    have f1 : ∀ k, SL ops xs s (lset (Array.replicate ops.size false)) k = s := by
      intro k
      induction k with
      | zero => rfl
      | succ k ih => simp only [SL, hno, Bool.false_eq_true, if_false, ih]
    have f2 : ∀ k, HL es h (lset (Array.replicate ops.size false)) k = h := by
      intro k
      induction k with
      | zero => rfl
      | succ k ih => simp only [HL, hno, Bool.false_eq_true, if_false, ih]
    rw [f1, f2]
    obtain ⟨gs, R⟩ := R
    exact ⟨gs, R.grow ⟨rfl, rfl, rfl, Nat.le_refl _, fun _ _ => rfl⟩⟩

end

section
variable {P : Program} {nt : Nat} {fo : List Nat} {s : Slots} {h : AH} {Q : APost}

theorem awp_drawL [Glb] (hf : P.follows .mixedOrders = true) {id : Nat} {ops : List Oper} {last : Oper} (hs : slotsOk nt ops = true) (hd : drawOk ops.toArray = true) (hg : guardsIn ops = true) (hlo : lastOk ops.toArray last = true)
    (hr : aRun P ops.toArray (AWpL P nt fo (ops.toArray.push last) [last] Q) ops s h) : AWp P nt fo (.region id (ops.toArray.push last) true) Q s h := by
  intro E a w I R
  refine wp_region_any hf ?_
  have hrep : Array.replicate (ops.toArray.push last).size false = (Array.replicate ops.toArray.size false).push false := by
    rw [Array.size_push, Array.replicate_succ]
  rw [hrep, Array.size_push]
  have hno : ∀ (n j : Nat), lset (Array.replicate n false) j = false := fun n j => by
    unfold lset
    simp only [Array.getD_eq_getD_getElem?]
    by_cases hj : j < n <;> simp [hj]
  let Qf : Exit → Act → World → Prop := fun e a' w' => ∃ s' h', Q e s' h' ∧ Rel E nt s' h' a' w'
  refine wpAny_push (Q := Qf) (Q1 := fun e a w => match e with | .normal => wpOp P (ops.toArray.push last) Qf ops.toArray.size (Qf .normal) a w | e => Qf e a w) hd (fun i o j b ho hgd => ?_) hlo (fun a w q => q) (fun c a w q => q) (fun ⟨a, w, q⟩ => ⟨a, w, q⟩) _ _ a _ (by simp) (fun i o e _ hl => by rw [hno] at hl; cases hl) ?_
  · unfold guardsIn at hg
    rw [List.all_eq_true] at hg
    have := hg o (by simpa using List.mem_of_getElem? (by simpa using ho))
    rw [hgd] at this
    simpa using this
  · refine region_any (free := []) (E := E) (nt := nt) (s := s) (h := h) (K := AWpL P nt fo (ops.toArray.push last) [last] Q) (by simpa using hs) hd R (aRun_mono (fun _ _ q => ⟨rfl, q⟩) _ _ _ (by simpa using hr)) fun s' h' a' w' q R' => ?_
    have := q E a' w' I R'
    unfold wpList at this
    show wpOp P (ops.toArray.push last) Qf ops.toArray.size (Qf .normal) a' w'
    unfold wpOp
    have e : (ops.toArray.push last)[ops.toArray.size]? = some last := by simp
    rw [e]
    exact this

theorem awp_rseq_drawL [Glb] (hf : P.follows .mixedOrders = true) {id : Nat} {ops : List Oper} {last : Oper} {y : Code} (hs : slotsOk nt ops = true) (hd : drawOk ops.toArray = true) (hg : guardsIn ops = true) (hlo : lastOk ops.toArray last = true)
    (hr : aRun P ops.toArray (AWpL P nt fo (ops.toArray.push last) [last] (thenQ (AWp P nt fo y Q) Q)) ops s h) : AWp P nt fo (.seq (.region id (ops.toArray.push last) true) y) Q s h := awp_seq (awp_drawL hf hs hd hg hlo hr)
end
end Go.Am

/- The abstract machine, part 27: drawn regions whose last operation is a call, as literal arrays; a call whose law was proved outside, behind which no object is left. Generic over the program; no condition. -/
namespace Go.Am
open Go.RowKit
set_option linter.unusedVariables false

def splitLast {α : Type} : List α → Option (List α × α)
  | [] => none
  | [x] => some ([], x)
  | x :: r => (splitLast r).map fun p => (x :: p.1, p.2)

theorem splitLast_eq {α : Type} : ∀ {l i : List α} {x : α}, splitLast l = some (i, x) → l = i ++ [x]
  | [], _, _, h => by cases h
  | [a], i, x, h => by
    simp only [splitLast, Option.some.injEq, Prod.mk.injEq] at h
    obtain ⟨rfl, rfl⟩ := h
    rfl
  | a :: b :: r, i, x, h => by
    simp only [splitLast, Option.map_eq_some_iff] at h
    obtain ⟨⟨i', x'⟩, h1, h2⟩ := h
    simp only [Prod.mk.injEq] at h2
    obtain ⟨rfl, rfl⟩ := h2
    rw [splitLast_eq (l := b :: r) (by simpa only [splitLast, Option.map_eq_some_iff] using h1)]
    rfl

section
variable {P : Program} {nt : Nat} {fo : List Nat} {s : Slots} {h : AH} {Q : APost}

theorem awp_drawX [Glb] (hf : P.follows .mixedOrders = true) {id : Nat} {ops init : List Oper} {last : Oper} (he : splitLast ops = some (init, last)) (hs : slotsOk nt init = true) (hd : drawOk init.toArray = true) (hg : guardsIn init = true) (hlo : lastOk init.toArray last = true)
    (hr : ∀ K : Slots → AH → Prop, (∀ s h, AWpL P nt fo ops.toArray [last] Q s h → K s h) → aRun P init.toArray K init s h) : AWp P nt fo (.region id ops.toArray true) Q s h := by
  have e := splitLast_eq he
  have e2 : ops.toArray = init.toArray.push last := by rw [e]; simp
  rw [e2] at hr ⊢
  exact awp_drawL hf hs hd hg hlo (hr _ fun _ _ q => q)

theorem awp_rseq_drawX [Glb] (hf : P.follows .mixedOrders = true) {id : Nat} {ops init : List Oper} {last : Oper} {y : Code} (he : splitLast ops = some (init, last)) (hs : slotsOk nt init = true) (hd : drawOk init.toArray = true) (hg : guardsIn init = true) (hlo : lastOk init.toArray last = true)
    (hr : ∀ K : Slots → AH → Prop, (∀ s h, AWpL P nt fo ops.toArray [last] (thenQ (AWp P nt fo y Q) Q) s h → K s h) → aRun P init.toArray K init s h) : AWp P nt fo (.seq (.region id ops.toArray true) y) Q s h :=
  awp_seq (awp_drawX hf he hs hd hg hlo hr)

/-- A call by a law proved outside the machine. -/
theorem awpl_ext [Glb] {ops : Array Oper} {l : List Oper} {o : Oper} {f : FuncId} {s' : Slots} {h' : AH} (hgd : o.guard = none)
    (hrun : ∀ (E : Env) (a : Act) (w : World) (gs : Gs), E.In fo → RelG E nt s h gs a w → ∃ vs : Array Value, (execOp a.eval o).run P w = .ok (.enter f vs) w ∧ Calls P f vs w fun e w' => ∃ v, e = .returned v ∧ Rel E nt s' h' (a.put o.dst v) w')
    (hn : AWpL P nt fo ops l Q s' h') : AWpL P nt fo ops (o :: l) Q s h := by
  intro E a w I ⟨gs, R⟩
  obtain ⟨vs, hr, hc⟩ := hrun E a w gs I R
  unfold wpList
  rw [if_pos (by simp [Region.wanted, hgd])]
  refine .inl ?_
  unfold Oper.wp
  rw [hr]
  refine hc.mono fun e w' ⟨v, he, R'⟩ => ?_
  subst he
  exact hn E _ w' I R'

theorem freeze_facts (w : World) (a : Addr) (n : Nat) : (w.freeze a n).os = w.os ∧ (w.freeze a n).tape = w.tape ∧ (w.freeze a n).output = w.output ∧ (w.freeze a n).heap.size = w.heap.size ∧ ∀ k, k ≠ a.block → (w.freeze a n).heap[k]? = w.heap[k]? := by
  unfold World.freeze
  split
  · exact ⟨rfl, rfl, rfl, rfl, fun _ _ => rfl⟩
  · refine ⟨rfl, rfl, rfl, by simp, fun k hk => ?_⟩
    simp only [Array.getElem?_modify]
    rw [if_neg (by omega)]

/-- (*strings.Builder).String as the last thing that is done with a builder: no object is left behind it. -/
theorem awpl_str [Glb] {ops : Array Oper} {l : List Oper} {d : Tmp} {f : FuncId} {y : Operand} {ats : Array TypeId} {ty T U : TypeId} {pos : String} {af : Array Edge} {k o : Nat} {c0 : AV} {b : ByteArray}
    (hf : ∀ (q g cap : Nat) (p : Value) (cur : Array Value) (l : List UInt8) (w : World), w.heap[q]? = some (.cells #[p, .slice (some ⟨g, 0, none⟩) l.length cap] T (0, 0)) → w.heap[g]? = some (.cells cur U (0, 0)) → l ≠ [] → l.length ≤ cap → cap ≤ maxLen → cur.size = cap * 1 →
      (∀ j x, l[j]? = some x → cur.getD j undef = .int .u8 x.toNat) → Calls P f #[.pointer (some ⟨q, 0, none⟩)] w fun e w' => e = .returned (.string ⟨l.toArray⟩) ∧ ∃ n, w' = w.drew.freeze ⟨g, 0, none⟩ n)
    (hen : Enters P f) (hb : b.size ≠ 0) (hy : ev s y = .ptr k 0) (hk : h k = .box T [c0, .own o b.size]) (ho : h o = .row U 1 b.size (strRow b)) (hd : d < nt)
    (hn : AWpL P nt [] ops l Q (upd (fun _ => .c .any) d (.c (.raw (.string b)))) (fun _ => .gone)) :
    AWpL P nt [] ops (⟨some d, .call ⟨.value (.func f), #[y], ats⟩, ty, pos, af, none⟩ :: l) Q s h := by
  refine awpl_ext (f := f) rfl (fun E a w gs I R => ?_) hn
  obtain ⟨fn, f1, f2, f3⟩ := hen
  have f2' : ¬ fn.name = "runtime.NumGoroutine" := by simpa using f2
  have f3' : ¬ fn.body = none := fun e => by rw [e] at f3; simp at f3
  refine ⟨#[a.eval y], by simp [execOp, resolve, Deferred.ofValue, Act.eval, invoke, callFunc, f1, f2', f3'], ?_⟩
  have hv := ev_ok R y
  rw [hy] at hv
  have hob := R.objs k
  rw [hk] at hob
  obtain ⟨q, K, cur, g1, g2, g3, g4, g5⟩ := hob
  have hv' : a.eval y = .pointer (some ⟨q, 0, none⟩) := by
    generalize a.eval y = v at hv
    cases hv with
    | ptr _ _ b' K' ty cells ho hg =>
      rw [g1] at hg
      simp only [Option.some.injEq, Prod.mk.injEq] at hg
      rw [hg.1]
  rw [hv']
  have k1 := g5 1 (by simp)
  simp only [List.getD_cons_zero, List.getD_cons_succ] at k1
  have hsz : cur.size = 2 := by simpa using g3
  have hrow := R.objs o
  rw [ho] at hrow
  have hcur : cur = #[cur.getD 0 undef, cur.getD 1 undef] := by
    apply Array.ext
    · simp [hsz]
    · intro i h1 h2
      match i, h1 with
      | 0, _ => simp [Array.getD_eq_getD_getElem?, hsz]
      | 1, _ => simp [Array.getD_eq_getD_getElem?, hsz]
      | i + 2, h1 => omega
  generalize hc1 : cur.getD 1 undef = v1 at k1 hcur
  cases k1 with
  | own A kk c _ _ ty' sz n f' ho' hL hv2 =>
    rw [ho] at ho'
    simp only [AObj.row.injEq] at ho'
    obtain ⟨rfl, rfl, rfl, rfl⟩ := ho'
    rcases hv2 rfl with ⟨g, K2, e1, e2, e3, e4⟩ | ⟨e1, _⟩
    · rcases hrow with ⟨e5, _⟩ | ⟨g', K3, cur2, r1, r2, r3, r4, r5, r6, r7, r8⟩
      · rw [e5] at e1; cases e1
      · rw [r1] at e1
        simp only [Option.some.injEq, Prod.mk.injEq] at e1
        obtain ⟨rfl, rfl⟩ := e1
        subst e2 e3 e4
        have hlen : b.data.toList.length = b.size := rfl
        refine (hf q g' _ (cur.getD 0 undef) cur2 b.data.toList w (by rw [hlen, ← hcur]; exact g2) r2 (fun e => hb (by rw [← hlen, e]; rfl)) (by rw [hlen]; exact r4) r5 r3 (fun j x hx => ?_)).mono ?_
        · have hj : j < b.size := by
            rw [← hlen]
            exact (List.getElem?_eq_some_iff.1 hx).1
          have := r8 j 0 hj (by decide)
          simp only [Nat.mul_one, Nat.add_zero, strRow, List.getD_cons_zero] at this
          have e := this.raw_inv
          rw [e]
          simp [Lib.strCells, List.getD_eq_getElem?_getD, hx]
        · rintro e w' ⟨rfl, n, rfl⟩
          refine ⟨_, rfl, fun _ => none, ?_⟩
          obtain ⟨w1, w2, w3, w4, w5⟩ := freeze_facts w.drew ⟨g', 0, none⟩ n
          have hfr := R.fresh o g' _ r1
          have hbe : BelowX E.D E.w0 (w.drew.freeze ⟨g', 0, none⟩ n) := by
            refine ⟨w1.trans R.below.os, w2.trans R.below.tape, w3.trans R.below.output, by rw [w4]; exact R.below.size, fun i hi hD => ?_⟩
            rw [w5 i (fun e => ?_)]
            · exact R.below.block i hi hD
            · have e : i = g' := e
              subst e
              rcases hfr.1 with h1 | h1
              · omega
              · exact hD h1
          refine ⟨hbe, R.zlt, R.zd, R.glob, fun o b K e => (by cases e), fun o o' b K K' e => (by cases e), fun _ => rfl, fun t => ?_, ?_, ?_, ⟨fun o ty cells e => ?_, fun o ty sz n f e => ?_⟩⟩
          · simp only [Act.put, upd_apply]
            split
            · rename_i e
              subst e
              have : (a.tmps.setIfInBounds t (Value.string ⟨b.data.toList.toArray⟩)).getD t undef = .string b := by
                simp [Array.getD_eq_getD_getElem?, Array.getElem?_setIfInBounds, R.size, hd]
              rw [this]
              exact .c _ _ (.raw _)
            · exact .c _ _ (.any _)
          · simp [Act.put, R.size]
          · exact R.defers
          · exact absurd (I o (by rw [e]; simp)) (by simp)
          · exact absurd (I o (by rw [e]; simp)) (by simp)
    · rcases hrow with ⟨_, e5⟩ | ⟨g', K3, cur2, r1, _⟩
      · exact absurd e5 hb
      · rw [r1] at e1; cases e1
/-- Where the ways meet again: one state that depends on an index. -/
theorem m_join [Glb] {x y : Code} {ι : Type} (S : ι → List (Nat × AV)) (H : ι → List (Nat × AObj)) (J : ι → Prop)
    (hx : AWp P nt fo x (thenQ (fun s' h' => ∃ j, J j ∧ (∀ p ∈ S j, s' p.1 = p.2) ∧ (∀ p ∈ H j, objLe (h' p.1) p.2)) Q) s h) (hr : ∀ j, J j → AWp P nt fo y Q (ofL (S j)) (ofH (H j)))
    (hfo : ∀ i, J i → (fo.all fun o => decide (o ∈ (H i).map Prod.fst)) = true := by exact fun _ _ => rfl) (h1 : ∀ i, J i → refsIn ((H i).map Prod.fst) ((S i).map Prod.snd) = true := by exact fun _ _ => rfl) (h2 : ∀ i, J i → ((H i).all fun p => boxIn ((H i).map Prod.fst) p.2) = true := by exact fun _ _ => rfl) : AWp P nt fo (.seq x y) Q s h := by
  refine awp_seq (hx.mono fun e s' h' q => ?_)
  cases e with
  | normal =>
    obtain ⟨j, q1, q2, q3⟩ := q
    exact awp_cut (S j) (H j) q2 q3 (hfo j q1) (h1 j q1) (h2 j q1) (hr j q1)
  | _ => exact q
theorem m_meet [Glb] {ι : Type} {S : ι → List (Nat × AV)} {H : ι → List (Nat × AObj)} {J : ι → Prop} (j : ι) (h1 : J j) (hs : ∀ p ∈ S j, s p.1 = p.2 := by simp only [List.forall_mem_cons, List.forall_mem_nil, go_sem, reduceIte, Nat.reduceEqDiff, FF]; all_goals ((repeat' apply And.intro) <;> first | trivial | rfl | exact objLe_refl _ | (intro _ _; exact Subs.refl _))) (hh : ∀ p ∈ H j, objLe (h p.1) p.2 := by simp only [List.forall_mem_cons, List.forall_mem_nil, go_sem, reduceIte, Nat.reduceEqDiff, FF]; all_goals ((repeat' apply And.intro) <;> first | trivial | rfl | exact objLe_refl _ | (intro _ _; exact Subs.refl _))) : ∃ j, J j ∧ (∀ p ∈ S j, s p.1 = p.2) ∧ (∀ p ∈ H j, objLe (h p.1) p.2) := ⟨j, h1, hs, hh⟩
theorem m_meetH [Glb] {ι : Type} {S : ι → List (Nat × AV)} {H : ι → List (Nat × AObj)} {J : ι → Prop} (j : ι) (h1 : J j) (hh : ∀ p ∈ H j, objLe (h p.1) p.2) (hs : ∀ p ∈ S j, s p.1 = p.2 := by simp only [List.forall_mem_cons, List.forall_mem_nil, go_sem, reduceIte, Nat.reduceEqDiff, FF]; all_goals ((repeat' apply And.intro) <;> first | trivial | rfl | exact objLe_refl _ | (intro _ _; exact Subs.refl _))) : ∃ j, J j ∧ (∀ p ∈ S j, s p.1 = p.2) ∧ (∀ p ∈ H j, objLe (h p.1) p.2) := ⟨j, h1, hs, hh⟩
end
end Go.Am

/-
  DERIVED: THE SHELF's CONTRACTS AT THIS DUMP, IN PLAIN WORDS (tools/lay-plain.mjs out of 'TrydShelf.lean', which tools/lay-shelf.mjs wrote): THE SAME DECLARATIONS UNDER THE SAME NAMES: 'import', 'namespace', 'open', 'def', 'theorem' AND NOTHING ELSE: no command of the shelf's: FOR A HAND-IN. Each laying: the table of numbers ('.._ren') and one theorem, a field a fact of the dump's own or the kernel's comparison; each contract: ONE APPLICATION.
-/
namespace Go.Proofs
open Go.Shelf
def Tryd.lays231_ren : Go.Shelf.Ren := ⟨fun | 231 => 57 | n => n, fun | 9 => 9 | 5 => 5 | 3 => 3 | 4 => 4 | n => n, fun | n => n⟩
theorem Tryd.lays231 : Go.Proofs.Lays.n231 Tryd.prog Tryd.lays231_ren := {
  mixed := by kernel_rfl
  f231 := Tryd.func57.trans (congrArg some (by kernel_rfl))
  t3 := Tryd.underlying3
  a3 := Tryd.isAgg3
  z3 := Tryd.sizeOf3
  v3 := Tryd.zeroValue3
  t4 := Tryd.underlying4
  a4 := Tryd.isAgg4
  z4 := Tryd.sizeOf4
  v4 := Tryd.zeroValue4
  t5 := Tryd.underlying5
  a5 := Tryd.isAgg5
  z5 := Tryd.sizeOf5
  v5 := Tryd.zeroValue5
  t9 := Tryd.underlying9
  a9 := Tryd.isAgg9
  z9 := Tryd.sizeOf9
  v9 := Tryd.zeroValue9 }
open Go.RowKit in
/-- strings.trimLeftByte (no doc; what TrimLeft and Trim call at a cutset of one ASCII byte): the leading bytes that are c are cut off. The world is as it was. (LAID: no walk: one application.) -/
theorem Tryd.strings_trimLeftByte (s : ByteArray) (c : UInt8) (w : World) :
    Calls Tryd.prog 57 #[.string s, .int .u8 c.toNat] w fun e w' => e = .returned (.string ⟨(Lib.trimLeftB s.data.toList c).toArray⟩) ∧ w' = w := Any.strings_trimLeftByte Tryd.lays231 s c w
def Tryd.lays232_ren : Go.Shelf.Ren := ⟨fun | 232 => 58 | n => n, fun | 9 => 9 | 5 => 5 | 3 => 3 | 4 => 4 | n => n, fun | n => n⟩
theorem Tryd.lays232 : Go.Proofs.Lays.n232 Tryd.prog Tryd.lays232_ren := {
  mixed := by kernel_rfl
  f232 := Tryd.func58.trans (congrArg some (by kernel_rfl))
  t3 := Tryd.underlying3
  a3 := Tryd.isAgg3
  z3 := Tryd.sizeOf3
  v3 := Tryd.zeroValue3
  t4 := Tryd.underlying4
  a4 := Tryd.isAgg4
  z4 := Tryd.sizeOf4
  v4 := Tryd.zeroValue4
  t5 := Tryd.underlying5
  a5 := Tryd.isAgg5
  z5 := Tryd.sizeOf5
  v5 := Tryd.zeroValue5
  t9 := Tryd.underlying9
  a9 := Tryd.isAgg9
  z9 := Tryd.sizeOf9
  v9 := Tryd.zeroValue9 }
open Go.RowKit in
/-- strings.trimRightByte (no doc; what TrimRight and Trim call at a cutset of one ASCII byte): the trailing bytes that are c are cut off. The world is as it was. ('hs': a string's length is a number that an int holds.) (LAID: no walk: one application.) -/
theorem Tryd.strings_trimRightByte (s : ByteArray) (c : UInt8) (w : World) (hs : s.size ≤ 9223372036854775807) :
    Calls Tryd.prog 58 #[.string s, .int .u8 c.toNat] w fun e w' => e = .returned (.string ⟨(Lib.trimRightB s.data.toList c).toArray⟩) ∧ w' = w := Any.strings_trimRightByte Tryd.lays232 s c w hs
def Tryd.lays160_ren : Go.Shelf.Ren := ⟨fun | 160 => 52 | 232 => 58 | 231 => 57 | 227 => 59 | 234 => 61 | 233 => 60 | 236 => 63 | 235 => 62 | 228 => 71 | 271 => 74 | 151 => 73 | 197 => 72 | 120 => 87 | 152 => 86 | 260 => 85 | 137 => 93 | 119 => 94 | 224 => 95 | 225 => 96 | 217 => 99 | 266 => 100 | n => n, fun | 9 => 9 | 4 => 4 | 3 => 3 | 5 => 5 | 117 => 82 | 116 => 81 | 0 => 0 | 124 => 85 | 21 => 21 | 105 => 93 | 46 => 107 | 119 => 117 | 139 => 120 | 138 => 119 | n => n, fun | 3 => 3 | 4 => 4 | n => n⟩
theorem Tryd.lays160 : Go.Proofs.Lays.n160 Tryd.prog Tryd.lays160_ren := {
  mixed := by kernel_rfl
  f119 := Tryd.func94.trans (congrArg some (by kernel_rfl))
  f120 := Tryd.func87.trans (congrArg some (by kernel_rfl))
  f137 := Tryd.func93.trans (congrArg some (by kernel_rfl))
  f151 := Tryd.func73.trans (congrArg some (by kernel_rfl))
  f152 := Tryd.func86.trans (congrArg some (by kernel_rfl))
  f160 := Tryd.func52.trans (congrArg some (by kernel_rfl))
  f197 := Tryd.func72.trans (congrArg some (by kernel_rfl))
  f217 := Tryd.func99.trans (congrArg some (by kernel_rfl))
  f224 := Tryd.func95.trans (congrArg some (by kernel_rfl))
  f225 := Tryd.func96.trans (congrArg some (by kernel_rfl))
  f227 := Tryd.func59.trans (congrArg some (by kernel_rfl))
  f228 := Tryd.func71.trans (congrArg some (by kernel_rfl))
  f231 := Tryd.func57.trans (congrArg some (by kernel_rfl))
  f232 := Tryd.func58.trans (congrArg some (by kernel_rfl))
  f233 := Tryd.func60.trans (congrArg some (by kernel_rfl))
  f234 := Tryd.func61.trans (congrArg some (by kernel_rfl))
  f235 := Tryd.func62.trans (congrArg some (by kernel_rfl))
  f236 := Tryd.func63.trans (congrArg some (by kernel_rfl))
  f260 := Tryd.func85.trans (congrArg some (by kernel_rfl))
  f266 := Tryd.func100.trans (congrArg some (by kernel_rfl))
  f271 := Tryd.func74.trans (congrArg some (by kernel_rfl))
  t0 := Tryd.underlying0
  a0 := Tryd.isAgg0
  z0 := Tryd.sizeOf0
  v0 := Tryd.zeroValue0
  t3 := Tryd.underlying3
  a3 := Tryd.isAgg3
  z3 := Tryd.sizeOf3
  v3 := Tryd.zeroValue3
  t4 := Tryd.underlying4
  a4 := Tryd.isAgg4
  z4 := Tryd.sizeOf4
  v4 := Tryd.zeroValue4
  t5 := Tryd.underlying5
  a5 := Tryd.isAgg5
  z5 := Tryd.sizeOf5
  v5 := Tryd.zeroValue5
  t9 := Tryd.underlying9
  a9 := Tryd.isAgg9
  z9 := Tryd.sizeOf9
  v9 := Tryd.zeroValue9
  t21 := Tryd.underlying21
  a21 := Tryd.isAgg21
  z21 := Tryd.sizeOf21
  v21 := Tryd.zeroValue21
  t46 := Tryd.underlying107
  a46 := Tryd.isAgg107
  z46 := Tryd.sizeOf107
  v46 := Tryd.zeroValue107
  t105 := Tryd.underlying93
  a105 := Tryd.isAgg93
  z105 := Tryd.sizeOf93
  v105 := Tryd.zeroValue93
  t116 := Tryd.underlying81
  a116 := Tryd.isAgg81
  z116 := Tryd.sizeOf81
  t117 := Tryd.underlying82
  a117 := Tryd.isAgg82
  z117 := Tryd.sizeOf82
  v117 := Tryd.zeroValue82
  t119 := Tryd.underlying117
  a119 := Tryd.isAgg117
  z119 := Tryd.sizeOf117
  t124 := Tryd.underlying85
  a124 := Tryd.isAgg85
  z124 := Tryd.sizeOf85
  v124 := Tryd.zeroValue85
  t138 := Tryd.underlying119
  a138 := Tryd.isAgg119
  z138 := Tryd.sizeOf119
  v138 := Tryd.zeroValue119
  t139 := Tryd.underlying120
  a139 := Tryd.isAgg120
  z139 := Tryd.sizeOf120
  v139 := Tryd.zeroValue120
  g3 := by kernel_rfl
  g4 := by kernel_rfl }
open Go.RowKit in
/-- strings.Trim: "Trim returns a slice of the string s with all leading and trailing Unicode code points contained in cutset removed.": AT A cutset OF ONE ASCII BYTE. THE WORLD BEHIND IT: as it was, or (where s is not empty) with ONE DRAW MORE off the tape: the statement 'return trimLeftByte(trimRightByte(s, c), c)' draws its order of evaluation. (LAID: no walk: one application.) -/
theorem Tryd.strings_Trim_one (s : ByteArray) (c : UInt8) (hc : c.toNat < 128) (w : World) (hs : s.size ≤ 9223372036854775807) :
    Calls Tryd.prog 52 #[.string s, .string ⟨#[c]⟩] w fun e w' => e = .returned (.string ⟨(Lib.trimB s.data.toList c).toArray⟩) ∧ (w' = w ∨ w' = w.drew) := Any.strings_Trim_one Tryd.lays160 s c hc w hs
def Tryd.lays119_ren : Go.Shelf.Ren := ⟨fun | 119 => 94 | n => n, fun | 21 => 21 | 4 => 4 | n => n, fun | n => n⟩
theorem Tryd.lays119 : Go.Proofs.Lays.n119 Tryd.prog Tryd.lays119_ren := {
  mixed := by kernel_rfl
  f119 := Tryd.func94.trans (congrArg some (by kernel_rfl))
  t4 := Tryd.underlying4
  a4 := Tryd.isAgg4
  z4 := Tryd.sizeOf4
  v4 := Tryd.zeroValue4
  t21 := Tryd.underlying21
  a21 := Tryd.isAgg21
  z21 := Tryd.sizeOf21
  v21 := Tryd.zeroValue21 }
/-- utf8.ValidRune: "ValidRune reports whether r can be legally encoded as UTF-8. Code points that are out of range or a surrogate half are illegal.": IT RETURNS 'Lib.validRune r'; the world is as it was. (LAID: no walk: one application.) -/
theorem Tryd.utf8_ValidRune (r : Int) (w : World) :
    Calls Tryd.prog 94 #[.int .i32 r] w fun e w' => e = .returned (.bool (Lib.validRune r)) ∧ w' = w := Any.utf8_ValidRune Tryd.lays119 r w
def Tryd.lays120_ren : Go.Shelf.Ren := ⟨fun | 120 => 87 | n => n, fun | 5 => 5 | 4 => 4 | n => n, fun | n => n⟩
theorem Tryd.lays120 : Go.Proofs.Lays.n120 Tryd.prog Tryd.lays120_ren := {
  mixed := by kernel_rfl
  f120 := Tryd.func87.trans (congrArg some (by kernel_rfl))
  t4 := Tryd.underlying4
  a4 := Tryd.isAgg4
  z4 := Tryd.sizeOf4
  v4 := Tryd.zeroValue4
  t5 := Tryd.underlying5
  a5 := Tryd.isAgg5
  z5 := Tryd.sizeOf5
  v5 := Tryd.zeroValue5 }
/-- utf8.RuneStart: "RuneStart reports whether the byte could be the first byte of an encoded, possibly invalid rune. Second and subsequent bytes always have the top two bits set to 10.": IT RETURNS 'Lib.runeStart b'; the world is as it was. ('h0', 'h1': b is a byte: a caller has it of every byte that it was handed.) (LAID: no walk: one application.) -/
theorem Tryd.utf8_RuneStart (b : Int) (w : World) (h0 : 0 ≤ b) (h1 : b < 256) :
    Calls Tryd.prog 87 #[.int .u8 b] w fun e w' => e = .returned (.bool (Lib.runeStart b)) ∧ w' = w := Any.utf8_RuneStart Tryd.lays120 b w h0 h1
def Tryd.lays137_ren : Go.Shelf.Ren := ⟨fun | 137 => 93 | 217 => 99 | 266 => 100 | n => n, fun | 9 => 9 | 5 => 5 | 3 => 3 | n => n, fun | n => n⟩
theorem Tryd.lays137 : Go.Proofs.Lays.n137 Tryd.prog Tryd.lays137_ren := {
  mixed := by kernel_rfl
  f137 := Tryd.func93.trans (congrArg some (by kernel_rfl))
  f217 := Tryd.func99.trans (congrArg some (by kernel_rfl))
  f266 := Tryd.func100.trans (congrArg some (by kernel_rfl))
  t3 := Tryd.underlying3
  a3 := Tryd.isAgg3
  z3 := Tryd.sizeOf3
  v3 := Tryd.zeroValue3
  t5 := Tryd.underlying5
  a5 := Tryd.isAgg5
  z5 := Tryd.sizeOf5
  v5 := Tryd.zeroValue5
  t9 := Tryd.underlying9
  a9 := Tryd.isAgg9
  z9 := Tryd.sizeOf9
  v9 := Tryd.zeroValue9 }
open Go.RowKit in
/-- strings.IndexByte: "IndexByte returns the index of the first instance of c in s, or -1 if c is not present in s.": IT RETURNS 'Lib.indexByte s c'; the world is as it was. (LAID: no walk: one application.) -/
theorem Tryd.strings_IndexByte (s : ByteArray) (c : Int) (w : World) :
    Calls Tryd.prog 93 #[.string s, .int .u8 c] w fun e w' => e = .returned (.int .i64 (Lib.indexByte s.data.toList c.toNat.toUInt8)) ∧ w' = w := Any.strings_IndexByte Tryd.lays137 s c w
def Tryd.lays244_ren : Go.Shelf.Ren := ⟨fun | 244 => 64 | 247 => 75 | 287 => 88 | 321 => 97 | 322 => 98 | n => n, fun | 9 => 9 | 3 => 3 | 75 => 60 | 4 => 4 | 5 => 5 | 167 => 96 | 37 => 42 | 0 => 0 | 85 => 97 | 2 => 2 | 53 => 65 | 175 => 110 | 46 => 107 | 21 => 21 | 80 => 47 | n => n, fun | n => n⟩
theorem Tryd.lays244 : Go.Proofs.Lays.n244 Tryd.prog Tryd.lays244_ren := {
  mixed := by kernel_rfl
  f244 := Tryd.func64.trans (congrArg some (by kernel_rfl))
  f247 := Tryd.func75.trans (congrArg some (by kernel_rfl))
  f287 := Tryd.func88.trans (congrArg some (by kernel_rfl))
  f321 := Tryd.func97.trans (congrArg some (by kernel_rfl))
  f322 := Tryd.func98.trans (congrArg some (by kernel_rfl))
  t0 := Tryd.underlying0
  a0 := Tryd.isAgg0
  z0 := Tryd.sizeOf0
  v0 := Tryd.zeroValue0
  t2 := Tryd.underlying2
  a2 := Tryd.isAgg2
  z2 := Tryd.sizeOf2
  v2 := Tryd.zeroValue2
  t3 := Tryd.underlying3
  a3 := Tryd.isAgg3
  z3 := Tryd.sizeOf3
  v3 := Tryd.zeroValue3
  t4 := Tryd.underlying4
  a4 := Tryd.isAgg4
  z4 := Tryd.sizeOf4
  v4 := Tryd.zeroValue4
  t5 := Tryd.underlying5
  a5 := Tryd.isAgg5
  z5 := Tryd.sizeOf5
  v5 := Tryd.zeroValue5
  t9 := Tryd.underlying9
  a9 := Tryd.isAgg9
  z9 := Tryd.sizeOf9
  v9 := Tryd.zeroValue9
  t21 := Tryd.underlying21
  a21 := Tryd.isAgg21
  z21 := Tryd.sizeOf21
  v21 := Tryd.zeroValue21
  t37 := Tryd.underlying42
  a37 := Tryd.isAgg42
  z37 := Tryd.sizeOf42
  v37 := Tryd.zeroValue42
  t46 := Tryd.underlying107
  a46 := Tryd.isAgg107
  z46 := Tryd.sizeOf107
  v46 := Tryd.zeroValue107
  t53 := Tryd.underlying65
  a53 := Tryd.isAgg65
  z53 := Tryd.sizeOf65
  v53 := Tryd.zeroValue65
  t75 := Tryd.underlying60
  a75 := Tryd.isAgg60
  z75 := Tryd.sizeOf60
  v75 := Tryd.zeroValue60
  t85 := Tryd.underlying97
  a85 := Tryd.isAgg97
  z85 := Tryd.sizeOf97
  v85 := Tryd.zeroValue97
  t167 := Tryd.underlying96
  a167 := Tryd.isAgg96
  z167 := Tryd.sizeOf96
  v167 := Tryd.zeroValue96
  t175 := Tryd.underlying110
  a175 := Tryd.isAgg110
  z175 := Tryd.sizeOf110
  v175 := Tryd.zeroValue110 }
open Go.RowKit in
/-- internal/strconv.Atoi, at a decimal numeral of at most 18 bytes: ITS VALUE, AND NO ERROR. The world behind the call: the one new row that '[]byte(s)' lays. (LAID: no walk: one application.) -/
theorem Tryd.internal_strconv_Atoi (s : ByteArray) (n : Int) (hl : s.size ≤ 18) (h : Lib.atoi s.data.toList = some n) (w : World) :
    Calls Tryd.prog 64 #[.string s] w fun e w' => e = .returned (.tuple #[.int .i64 n, .nilIface]) ∧ ∃ t, w' = Lib.bytesWorld w 5 t := Any.internal_strconv_Atoi Tryd.lays244 s n hl h w
def Tryd.lays172_ren : Go.Shelf.Ren := ⟨fun | 172 => 53 | 244 => 64 | 245 => 65 | 247 => 75 | 279 => 76 | 280 => 77 | 281 => 78 | 282 => 79 | 287 => 88 | 316 => 89 | 171 => 40 | 205 => 90 | 321 => 97 | 322 => 98 | 243 => 46 | 246 => 54 | 283 => 66 | 284 => 67 | 285 => 68 | 286 => 69 | 129 => 81 | 317 => 80 | 318 => 82 | 319 => 83 | 320 => 84 | 337 => 91 | 338 => 92 | n => n, fun | 9 => 9 | 3 => 3 | 75 => 60 | 76 => 62 | 4 => 4 | 5 => 5 | 167 => 96 | 37 => 42 | 0 => 0 | 85 => 97 | 2 => 2 | 168 => 99 | 53 => 65 | 175 => 110 | 46 => 107 | 210 => 114 | 127 => 64 | 145 => 125 | 143 => 123 | 21 => 21 | 171 => 87 | 173 => 90 | 212 => 104 | 51 => 105 | 20 => 20 | 213 => 106 | 232 => 126 | 233 => 127 | 80 => 47 | n => n, fun | 15 => 1 | 16 => 2 | 17 => 0 | 18 => 5 | 19 => 6 | n => n⟩
theorem Tryd.lays172 : Go.Proofs.Lays.n172 Tryd.prog Tryd.lays172_ren := {
  mixed := by kernel_rfl
  f129 := Tryd.func81.trans (congrArg some (by kernel_rfl))
  f171 := Tryd.func40.trans (congrArg some (by kernel_rfl))
  f172 := Tryd.func53.trans (congrArg some (by kernel_rfl))
  f205 := Tryd.func90.trans (congrArg some (by kernel_rfl))
  f243 := Tryd.func46.trans (congrArg some (by kernel_rfl))
  f244 := Tryd.func64.trans (congrArg some (by kernel_rfl))
  f245 := Tryd.func65.trans (congrArg some (by kernel_rfl))
  f246 := Tryd.func54.trans (congrArg some (by kernel_rfl))
  f247 := Tryd.func75.trans (congrArg some (by kernel_rfl))
  f279 := Tryd.func76.trans (congrArg some (by kernel_rfl))
  f280 := Tryd.func77.trans (congrArg some (by kernel_rfl))
  f281 := Tryd.func78.trans (congrArg some (by kernel_rfl))
  f282 := Tryd.func79.trans (congrArg some (by kernel_rfl))
  f283 := Tryd.func66.trans (congrArg some (by kernel_rfl))
  f284 := Tryd.func67.trans (congrArg some (by kernel_rfl))
  f285 := Tryd.func68.trans (congrArg some (by kernel_rfl))
  f286 := Tryd.func69.trans (congrArg some (by kernel_rfl))
  f287 := Tryd.func88.trans (congrArg some (by kernel_rfl))
  f316 := Tryd.func89.trans (congrArg some (by kernel_rfl))
  f317 := Tryd.func80.trans (congrArg some (by kernel_rfl))
  f318 := Tryd.func82.trans (congrArg some (by kernel_rfl))
  f319 := Tryd.func83.trans (congrArg some (by kernel_rfl))
  f320 := Tryd.func84.trans (congrArg some (by kernel_rfl))
  f321 := Tryd.func97.trans (congrArg some (by kernel_rfl))
  f322 := Tryd.func98.trans (congrArg some (by kernel_rfl))
  f337 := Tryd.func91.trans (congrArg some (by kernel_rfl))
  f338 := Tryd.func92.trans (congrArg some (by kernel_rfl))
  t0 := Tryd.underlying0
  a0 := Tryd.isAgg0
  z0 := Tryd.sizeOf0
  v0 := Tryd.zeroValue0
  t2 := Tryd.underlying2
  a2 := Tryd.isAgg2
  z2 := Tryd.sizeOf2
  v2 := Tryd.zeroValue2
  t3 := Tryd.underlying3
  a3 := Tryd.isAgg3
  z3 := Tryd.sizeOf3
  v3 := Tryd.zeroValue3
  t4 := Tryd.underlying4
  a4 := Tryd.isAgg4
  z4 := Tryd.sizeOf4
  v4 := Tryd.zeroValue4
  t5 := Tryd.underlying5
  a5 := Tryd.isAgg5
  z5 := Tryd.sizeOf5
  v5 := Tryd.zeroValue5
  t9 := Tryd.underlying9
  a9 := Tryd.isAgg9
  z9 := Tryd.sizeOf9
  v9 := Tryd.zeroValue9
  t20 := Tryd.underlying20
  a20 := Tryd.isAgg20
  z20 := Tryd.sizeOf20
  v20 := Tryd.zeroValue20
  t21 := Tryd.underlying21
  a21 := Tryd.isAgg21
  z21 := Tryd.sizeOf21
  v21 := Tryd.zeroValue21
  t37 := Tryd.underlying42
  a37 := Tryd.isAgg42
  z37 := Tryd.sizeOf42
  v37 := Tryd.zeroValue42
  t46 := Tryd.underlying107
  a46 := Tryd.isAgg107
  z46 := Tryd.sizeOf107
  v46 := Tryd.zeroValue107
  t51 := Tryd.underlying105
  a51 := Tryd.isAgg105
  z51 := Tryd.sizeOf105
  v51 := Tryd.zeroValue105
  t53 := Tryd.underlying65
  a53 := Tryd.isAgg65
  z53 := Tryd.sizeOf65
  v53 := Tryd.zeroValue65
  t75 := Tryd.underlying60
  a75 := Tryd.isAgg60
  z75 := Tryd.sizeOf60
  v75 := Tryd.zeroValue60
  t76 := Tryd.underlying62
  a76 := Tryd.isAgg62
  z76 := Tryd.sizeOf62
  v76 := Tryd.zeroValue62
  t85 := Tryd.underlying97
  a85 := Tryd.isAgg97
  z85 := Tryd.sizeOf97
  v85 := Tryd.zeroValue97
  t127 := Tryd.underlying64
  a127 := Tryd.isAgg64
  z127 := Tryd.sizeOf64
  v127 := Tryd.zeroValue64
  t143 := Tryd.underlying123
  a143 := Tryd.isAgg123
  z143 := Tryd.sizeOf123
  v143 := Tryd.zeroValue123
  t145 := Tryd.underlying125
  a145 := Tryd.isAgg125
  z145 := Tryd.sizeOf125
  v145 := Tryd.zeroValue125
  t167 := Tryd.underlying96
  a167 := Tryd.isAgg96
  z167 := Tryd.sizeOf96
  v167 := Tryd.zeroValue96
  t168 := Tryd.underlying99
  a168 := Tryd.isAgg99
  z168 := Tryd.sizeOf99
  v168 := Tryd.zeroValue99
  t171 := Tryd.underlying87
  a171 := Tryd.isAgg87
  z171 := Tryd.sizeOf87
  v171 := Tryd.zeroValue87
  t173 := Tryd.underlying90
  a173 := Tryd.isAgg90
  z173 := Tryd.sizeOf90
  v173 := Tryd.zeroValue90
  t175 := Tryd.underlying110
  a175 := Tryd.isAgg110
  z175 := Tryd.sizeOf110
  v175 := Tryd.zeroValue110
  t210 := Tryd.underlying114
  a210 := Tryd.isAgg114
  z210 := Tryd.sizeOf114
  v210 := Tryd.zeroValue114
  t212 := Tryd.underlying104
  a212 := Tryd.isAgg104
  z212 := Tryd.sizeOf104
  v212 := Tryd.zeroValue104
  t213 := Tryd.underlying106
  a213 := Tryd.isAgg106
  z213 := Tryd.sizeOf106
  t232 := Tryd.underlying126
  a232 := Tryd.isAgg126
  z232 := Tryd.sizeOf126
  v232 := Tryd.zeroValue126
  t233 := Tryd.underlying127
  a233 := Tryd.isAgg127
  z233 := Tryd.sizeOf127
  v233 := Tryd.zeroValue127
  g15 := by kernel_rfl
  g16 := by kernel_rfl
  g17 := by kernel_rfl
  g18 := by kernel_rfl
  g19 := by kernel_rfl }
open Go.RowKit in
/-- strconv.Atoi: "Atoi is equivalent to ParseInt(s, 10, 0), converted to type int.": AT A DECIMAL NUMERAL OF AT MOST 18 BYTES: its value, and a nil error. The world behind the call: the one new row that the library's '[]byte(s)' lays. (LAID: no walk: one application.) -/
theorem Tryd.strconv_Atoi (s : ByteArray) (n : Int) (hl : s.size ≤ 18) (h : Lib.atoi s.data.toList = some n) (w : World) :
    Calls Tryd.prog 53 #[.string s] w fun e w' => e = .returned (.tuple #[.int .i64 n, .nilIface]) ∧ ∃ t, w' = Lib.bytesWorld w 5 t := Any.strconv_Atoi Tryd.lays172 s n hl h w
def Tryd.lays129_ren : Go.Shelf.Ren := ⟨fun | 129 => 81 | n => n, fun | 53 => 65 | 3 => 3 | 4 => 4 | 46 => 107 | 5 => 5 | 9 => 9 | n => n, fun | n => n⟩
theorem Tryd.lays129 : Go.Proofs.Lays.n129 Tryd.prog Tryd.lays129_ren := {
  mixed := by kernel_rfl
  f129 := Tryd.func81.trans (congrArg some (by kernel_rfl))
  t3 := Tryd.underlying3
  a3 := Tryd.isAgg3
  z3 := Tryd.sizeOf3
  v3 := Tryd.zeroValue3
  t4 := Tryd.underlying4
  a4 := Tryd.isAgg4
  z4 := Tryd.sizeOf4
  v4 := Tryd.zeroValue4
  t5 := Tryd.underlying5
  a5 := Tryd.isAgg5
  z5 := Tryd.sizeOf5
  v5 := Tryd.zeroValue5
  t9 := Tryd.underlying9
  a9 := Tryd.isAgg9
  z9 := Tryd.sizeOf9
  v9 := Tryd.zeroValue9
  t46 := Tryd.underlying107
  a46 := Tryd.isAgg107
  z46 := Tryd.sizeOf107
  v46 := Tryd.zeroValue107
  t53 := Tryd.underlying65
  a53 := Tryd.isAgg65
  z53 := Tryd.sizeOf65
  v53 := Tryd.zeroValue65 }
/-- bits.Len64: "Len64 returns the minimum number of bits required to represent x; the result is 0 for x == 0.": IT RETURNS 'Lib.bitLen x'; the world is as it was. ('h0', 'h1': x is a uint64.) (LAID: no walk: one application.) -/
theorem Tryd.bits_Len64 (x : Int) (w : World) (h0 : 0 ≤ x) (h1 : x ≤ 18446744073709551615) :
    Calls Tryd.prog 81 #[.int .u64 x] w fun e w' => e = .returned (.int .i64 (Lib.bitLen x.toNat)) ∧ w' = w := Any.bits_Len64 Tryd.lays129 x w h0 h1
def Tryd.lays317_ren : Go.Shelf.Ren := ⟨fun | 317 => 80 | n => n, fun | 3 => 3 | 46 => 107 | n => n, fun | n => n⟩
theorem Tryd.lays317 : Go.Proofs.Lays.n317 Tryd.prog Tryd.lays317_ren := {
  mixed := by kernel_rfl
  f317 := Tryd.func80.trans (congrArg some (by kernel_rfl))
  t3 := Tryd.underlying3
  a3 := Tryd.isAgg3
  z3 := Tryd.sizeOf3
  v3 := Tryd.zeroValue3
  t46 := Tryd.underlying107
  a46 := Tryd.isAgg107
  z46 := Tryd.sizeOf107
  v46 := Tryd.zeroValue107 }
open Go.Lib in
/-- internal/strconv.log10Pow2: "log10Pow2(x) returns ⌊log₁₀ 2**x⌋ = ⌊x * log₁₀ 2⌋.": '(x * 78913) >> 18', at an x up to 64 (a length in bits). The world is as it was. (LAID: no walk: one application.) -/
theorem Tryd.internal_strconv_log10Pow2 (x : Nat) (h : x ≤ 64) (w : World) :
    Calls Tryd.prog 80 #[.int .i64 x] w fun e w' => e = .returned (.int .i64 (Lib.l10 x)) ∧ w' = w := Any.internal_strconv_log10Pow2 Tryd.lays317 x h w
def Tryd.lays318_ren : Go.Shelf.Ren := ⟨fun | 318 => 82 | n => n, fun | 3 => 3 | 4 => 4 | n => n, fun | n => n⟩
theorem Tryd.lays318 : Go.Proofs.Lays.n318 Tryd.prog Tryd.lays318_ren := {
  mixed := by kernel_rfl
  f318 := Tryd.func82.trans (congrArg some (by kernel_rfl))
  t3 := Tryd.underlying3
  a3 := Tryd.isAgg3
  z3 := Tryd.sizeOf3
  v3 := Tryd.zeroValue3
  t4 := Tryd.underlying4
  a4 := Tryd.isAgg4
  z4 := Tryd.sizeOf4
  v4 := Tryd.zeroValue4 }
open Go.Lib in
/-- internal/strconv.bool2: "bool2 converts b to an integer: 1 for true, 0 for false." The world is as it was. (LAID: no walk: one application.) -/
theorem Tryd.internal_strconv_bool2_int (b : Bool) (w : World) :
    Calls Tryd.prog 82 #[.bool b] w fun e w' => e = .returned (.int .i64 (if b then 1 else 0)) ∧ w' = w := Any.internal_strconv_bool2_int Tryd.lays318 b w
def Tryd.lays283_ren : Go.Shelf.Ren := ⟨fun | 283 => 66 | n => n, fun | 3 => 3 | 9 => 9 | 4 => 4 | n => n, fun | n => n⟩
theorem Tryd.lays283 : Go.Proofs.Lays.n283 Tryd.prog Tryd.lays283_ren := {
  mixed := by kernel_rfl
  f283 := Tryd.func66.trans (congrArg some (by kernel_rfl))
  t3 := Tryd.underlying3
  a3 := Tryd.isAgg3
  z3 := Tryd.sizeOf3
  v3 := Tryd.zeroValue3
  t4 := Tryd.underlying4
  a4 := Tryd.isAgg4
  z4 := Tryd.sizeOf4
  v4 := Tryd.zeroValue4
  t9 := Tryd.underlying9
  a9 := Tryd.isAgg9
  z9 := Tryd.sizeOf9
  v9 := Tryd.zeroValue9 }
open Go.Lib in
/-- internal/strconv.small: "small returns the string for an i with 0 <= i < nSmalls.": i's decimal numeral. The world is as it was. (LAID: no walk: one application.) -/
theorem Tryd.internal_strconv_small (i : Nat) (h : i < 100) (w : World) :
    Calls Tryd.prog 66 #[.int .i64 i] w fun e w' => e = .returned (.string ⟨(Lib.decDigits i).toArray⟩) ∧ w' = w := Any.internal_strconv_small Tryd.lays283 i h w
def Tryd.laysM284_ren : Go.Shelf.Ren := ⟨fun | 284 => 67 | 129 => 81 | 317 => 80 | 318 => 82 | n => n, fun | 53 => 65 | 3 => 3 | 212 => 104 | 0 => 0 | 4 => 4 | 46 => 107 | 5 => 5 | 9 => 9 | n => n, fun | 17 => 0 | n => n⟩
theorem Tryd.laysM284 : Go.Proofs.LaysM.n284 Tryd.prog Tryd.laysM284_ren := {
  mixed := by kernel_rfl
  f129 := Tryd.func81.trans (congrArg some (by kernel_rfl))
  f284 := Tryd.func67.trans (congrArg some (by kernel_rfl))
  f317 := Tryd.func80.trans (congrArg some (by kernel_rfl))
  f318 := Tryd.func82.trans (congrArg some (by kernel_rfl))
  t0 := Tryd.underlying0
  a0 := Tryd.isAgg0
  z0 := Tryd.sizeOf0
  v0 := Tryd.zeroValue0
  t3 := Tryd.underlying3
  a3 := Tryd.isAgg3
  z3 := Tryd.sizeOf3
  v3 := Tryd.zeroValue3
  t4 := Tryd.underlying4
  a4 := Tryd.isAgg4
  z4 := Tryd.sizeOf4
  v4 := Tryd.zeroValue4
  t5 := Tryd.underlying5
  a5 := Tryd.isAgg5
  z5 := Tryd.sizeOf5
  v5 := Tryd.zeroValue5
  t9 := Tryd.underlying9
  a9 := Tryd.isAgg9
  z9 := Tryd.sizeOf9
  v9 := Tryd.zeroValue9
  t46 := Tryd.underlying107
  a46 := Tryd.isAgg107
  z46 := Tryd.sizeOf107
  v46 := Tryd.zeroValue107
  t53 := Tryd.underlying65
  a53 := Tryd.isAgg65
  z53 := Tryd.sizeOf65
  v53 := Tryd.zeroValue65
  t212 := Tryd.underlying104
  a212 := Tryd.isAgg104
  z212 := Tryd.sizeOf104
  v212 := Tryd.zeroValue104
  g17 := by kernel_rfl
  i0 := by kernel_rfl
  i3 := by kernel_rfl
  i4 := by kernel_rfl
  i5 := by kernel_rfl
  i9 := by kernel_rfl
  i46 := by kernel_rfl
  i53 := by kernel_rfl
  i212 := by kernel_rfl
  m17 := by kernel_rfl }
open Go.Lib in
/-- internal/strconv.numDigits, at a d that is not 0: THE NUMBER OF d's DECIMAL DIGITS. The world is as it was. (LAID: no walk: one application.) -/
theorem Tryd.internal_strconv_numDigits (u : Nat) (h1 : 1 ≤ u) (h2 : u < 18446744073709551616) (w : World) (htab : Lib.TabIs Tryd.prog w "internal/strconv.uint64pow10" .u64 Lib.pow10Tab) :
    Calls Tryd.prog 67 #[.int .u64 u] w fun e w' => e = .returned (.int .i64 (Lib.nDigits u)) ∧ w' = w := Any.internal_strconv_numDigits Tryd.laysM284 u h1 h2 w htab
def Tryd.lays285_ren : Go.Shelf.Ren := ⟨fun | 285 => 68 | n => n, fun | 37 => 42 | 53 => 65 | 3 => 3 | 4 => 4 | 51 => 105 | 9 => 9 | 5 => 5 | 0 => 0 | n => n, fun | n => n⟩
theorem Tryd.lays285 : Go.Proofs.Lays.n285 Tryd.prog Tryd.lays285_ren := {
  mixed := by kernel_rfl
  f285 := Tryd.func68.trans (congrArg some (by kernel_rfl))
  t0 := Tryd.underlying0
  a0 := Tryd.isAgg0
  z0 := Tryd.sizeOf0
  v0 := Tryd.zeroValue0
  t3 := Tryd.underlying3
  a3 := Tryd.isAgg3
  z3 := Tryd.sizeOf3
  v3 := Tryd.zeroValue3
  t4 := Tryd.underlying4
  a4 := Tryd.isAgg4
  z4 := Tryd.sizeOf4
  v4 := Tryd.zeroValue4
  t5 := Tryd.underlying5
  a5 := Tryd.isAgg5
  z5 := Tryd.sizeOf5
  v5 := Tryd.zeroValue5
  t9 := Tryd.underlying9
  a9 := Tryd.isAgg9
  z9 := Tryd.sizeOf9
  v9 := Tryd.zeroValue9
  t37 := Tryd.underlying42
  a37 := Tryd.isAgg42
  z37 := Tryd.sizeOf42
  v37 := Tryd.zeroValue42
  t51 := Tryd.underlying105
  a51 := Tryd.isAgg105
  z51 := Tryd.sizeOf105
  v51 := Tryd.zeroValue105
  t53 := Tryd.underlying65
  a53 := Tryd.isAgg65
  z53 := Tryd.sizeOf65
  v53 := Tryd.zeroValue65 }
open Go.RowKit Go.Sort Go.Lib in
/-- internal/strconv.formatBase10: "formatBase10 formats the decimal representation of u into a. The caller is responsible for ensuring that a is big enough to hold u. If a is too big, leading zeros will be filled in as needed.": THE ROW HOLDS u's DIGITS ('FmtInv .. 0 ..': every place t holds 'dg u (len - 1 - t)'); all else is as it was but for the count of draws. (LAID: no walk: one application.) -/
theorem Tryd.internal_strconv_formatBase10 (blk off cap : Nat) (u : Nat) (d : Array UInt8) (w : World) (hH : Holds (fun (b : UInt8) => Value.int .u8 (b.toNat : Int)) w blk off d) (hu : u < 10 ^ d.size) (hu64 : u < 18446744073709551616) (hsz : d.size < 4611686018427387904) :
    Calls Tryd.prog 68 #[.slice (some ⟨blk, off, none⟩) d.size cap, .int .u64 u] w fun e w' =>
      e = .returned (.tuple #[]) ∧ ∃ (n v' : Nat) (dk : Array UInt8), w' = (putRow (fun (b : UInt8) => Value.int .u8 (b.toNat : Int)) w blk off dk).drewN n ∧ FmtInv d.size u 0 v' dk := Any.internal_strconv_formatBase10 Tryd.lays285 blk off cap u d w hH hu hu64 hsz
def Tryd.laysM246_ren : Go.Shelf.Ren := ⟨fun | 246 => 54 | 283 => 66 | 284 => 67 | 285 => 68 | 286 => 69 | 129 => 81 | 317 => 80 | 318 => 82 | 319 => 83 | 320 => 84 | 337 => 91 | 338 => 92 | n => n, fun | 2 => 2 | 3 => 3 | 9 => 9 | 4 => 4 | 171 => 87 | 0 => 0 | 53 => 65 | 37 => 42 | 5 => 5 | 173 => 90 | 212 => 104 | 51 => 105 | 20 => 20 | 213 => 106 | 46 => 107 | 232 => 126 | 233 => 127 | n => n, fun | 17 => 0 | 18 => 5 | 19 => 6 | n => n⟩
theorem Tryd.laysM246 : Go.Proofs.LaysM.n246 Tryd.prog Tryd.laysM246_ren := {
  mixed := by kernel_rfl
  f129 := Tryd.func81.trans (congrArg some (by kernel_rfl))
  f246 := Tryd.func54.trans (congrArg some (by kernel_rfl))
  f283 := Tryd.func66.trans (congrArg some (by kernel_rfl))
  f284 := Tryd.func67.trans (congrArg some (by kernel_rfl))
  f285 := Tryd.func68.trans (congrArg some (by kernel_rfl))
  f286 := Tryd.func69.trans (congrArg some (by kernel_rfl))
  f317 := Tryd.func80.trans (congrArg some (by kernel_rfl))
  f318 := Tryd.func82.trans (congrArg some (by kernel_rfl))
  f319 := Tryd.func83.trans (congrArg some (by kernel_rfl))
  f320 := Tryd.func84.trans (congrArg some (by kernel_rfl))
  f337 := Tryd.func91.trans (congrArg some (by kernel_rfl))
  f338 := Tryd.func92.trans (congrArg some (by kernel_rfl))
  t0 := Tryd.underlying0
  a0 := Tryd.isAgg0
  z0 := Tryd.sizeOf0
  v0 := Tryd.zeroValue0
  t2 := Tryd.underlying2
  a2 := Tryd.isAgg2
  z2 := Tryd.sizeOf2
  v2 := Tryd.zeroValue2
  t3 := Tryd.underlying3
  a3 := Tryd.isAgg3
  z3 := Tryd.sizeOf3
  v3 := Tryd.zeroValue3
  t4 := Tryd.underlying4
  a4 := Tryd.isAgg4
  z4 := Tryd.sizeOf4
  v4 := Tryd.zeroValue4
  t5 := Tryd.underlying5
  a5 := Tryd.isAgg5
  z5 := Tryd.sizeOf5
  v5 := Tryd.zeroValue5
  t9 := Tryd.underlying9
  a9 := Tryd.isAgg9
  z9 := Tryd.sizeOf9
  v9 := Tryd.zeroValue9
  t20 := Tryd.underlying20
  a20 := Tryd.isAgg20
  z20 := Tryd.sizeOf20
  v20 := Tryd.zeroValue20
  t37 := Tryd.underlying42
  a37 := Tryd.isAgg42
  z37 := Tryd.sizeOf42
  v37 := Tryd.zeroValue42
  t46 := Tryd.underlying107
  a46 := Tryd.isAgg107
  z46 := Tryd.sizeOf107
  v46 := Tryd.zeroValue107
  t51 := Tryd.underlying105
  a51 := Tryd.isAgg105
  z51 := Tryd.sizeOf105
  v51 := Tryd.zeroValue105
  t53 := Tryd.underlying65
  a53 := Tryd.isAgg65
  z53 := Tryd.sizeOf65
  v53 := Tryd.zeroValue65
  t171 := Tryd.underlying87
  a171 := Tryd.isAgg87
  z171 := Tryd.sizeOf87
  v171 := Tryd.zeroValue87
  t173 := Tryd.underlying90
  a173 := Tryd.isAgg90
  z173 := Tryd.sizeOf90
  v173 := Tryd.zeroValue90
  t212 := Tryd.underlying104
  a212 := Tryd.isAgg104
  z212 := Tryd.sizeOf104
  v212 := Tryd.zeroValue104
  t213 := Tryd.underlying106
  a213 := Tryd.isAgg106
  z213 := Tryd.sizeOf106
  t232 := Tryd.underlying126
  a232 := Tryd.isAgg126
  z232 := Tryd.sizeOf126
  v232 := Tryd.zeroValue126
  t233 := Tryd.underlying127
  a233 := Tryd.isAgg127
  z233 := Tryd.sizeOf127
  v233 := Tryd.zeroValue127
  g17 := by kernel_rfl
  g18 := by kernel_rfl
  g19 := by kernel_rfl
  i0 := by kernel_rfl
  i2 := by kernel_rfl
  i3 := by kernel_rfl
  i4 := by kernel_rfl
  i5 := by kernel_rfl
  i9 := by kernel_rfl
  i20 := by kernel_rfl
  i37 := by kernel_rfl
  i46 := by kernel_rfl
  i51 := by kernel_rfl
  i53 := by kernel_rfl
  i171 := by kernel_rfl
  i173 := by kernel_rfl
  i212 := by kernel_rfl
  i232 := by kernel_rfl
  i233 := by kernel_rfl
  m17 := by kernel_rfl
  m18 := by kernel_rfl
  m19 := by kernel_rfl }
open Go.RowKit Go.Sort Go.Lib in
/-- internal/strconv.FormatInt: "FormatInt returns the string representation of i in the given base": AT BASE 10: i's decimal numeral, for every int64. The world behind the call: the world before it, new blocks behind the heap, draws. (LAID: no walk: one application.) -/
theorem Tryd.internal_strconv_FormatInt_10 (n : Int) (h0 : -9223372036854775808 ≤ n) (h1 : n ≤ 9223372036854775807) (w : World) (htab : Lib.TabIs Tryd.prog w "internal/strconv.uint64pow10" .u64 Lib.pow10Tab) :
    Calls Tryd.prog 54 #[.int .i64 n, .int .i64 10] w fun e w' => e = .returned (.string ⟨(Lib.itoa n).toArray⟩) ∧ ∃ k os, w' = grow (w.drewN k) os := Any.internal_strconv_FormatInt_10 Tryd.laysM246 n h0 h1 w htab
def Tryd.lays246_ren : Go.Shelf.Ren := ⟨fun | 246 => 54 | 283 => 66 | 284 => 67 | 285 => 68 | 286 => 69 | 129 => 81 | 317 => 80 | 318 => 82 | 319 => 83 | 320 => 84 | 337 => 91 | 338 => 92 | n => n, fun | 2 => 2 | 3 => 3 | 9 => 9 | 4 => 4 | 171 => 87 | 0 => 0 | 53 => 65 | 37 => 42 | 5 => 5 | 173 => 90 | 212 => 104 | 51 => 105 | 20 => 20 | 213 => 106 | 46 => 107 | 232 => 126 | 233 => 127 | n => n, fun | 17 => 0 | 18 => 5 | 19 => 6 | n => n⟩
theorem Tryd.lays246 : Go.Proofs.Lays.n246 Tryd.prog Tryd.lays246_ren := {
  mixed := by kernel_rfl
  f129 := Tryd.func81.trans (congrArg some (by kernel_rfl))
  f246 := Tryd.func54.trans (congrArg some (by kernel_rfl))
  f283 := Tryd.func66.trans (congrArg some (by kernel_rfl))
  f284 := Tryd.func67.trans (congrArg some (by kernel_rfl))
  f285 := Tryd.func68.trans (congrArg some (by kernel_rfl))
  f286 := Tryd.func69.trans (congrArg some (by kernel_rfl))
  f317 := Tryd.func80.trans (congrArg some (by kernel_rfl))
  f318 := Tryd.func82.trans (congrArg some (by kernel_rfl))
  f319 := Tryd.func83.trans (congrArg some (by kernel_rfl))
  f320 := Tryd.func84.trans (congrArg some (by kernel_rfl))
  f337 := Tryd.func91.trans (congrArg some (by kernel_rfl))
  f338 := Tryd.func92.trans (congrArg some (by kernel_rfl))
  t0 := Tryd.underlying0
  a0 := Tryd.isAgg0
  z0 := Tryd.sizeOf0
  v0 := Tryd.zeroValue0
  t2 := Tryd.underlying2
  a2 := Tryd.isAgg2
  z2 := Tryd.sizeOf2
  v2 := Tryd.zeroValue2
  t3 := Tryd.underlying3
  a3 := Tryd.isAgg3
  z3 := Tryd.sizeOf3
  v3 := Tryd.zeroValue3
  t4 := Tryd.underlying4
  a4 := Tryd.isAgg4
  z4 := Tryd.sizeOf4
  v4 := Tryd.zeroValue4
  t5 := Tryd.underlying5
  a5 := Tryd.isAgg5
  z5 := Tryd.sizeOf5
  v5 := Tryd.zeroValue5
  t9 := Tryd.underlying9
  a9 := Tryd.isAgg9
  z9 := Tryd.sizeOf9
  v9 := Tryd.zeroValue9
  t20 := Tryd.underlying20
  a20 := Tryd.isAgg20
  z20 := Tryd.sizeOf20
  v20 := Tryd.zeroValue20
  t37 := Tryd.underlying42
  a37 := Tryd.isAgg42
  z37 := Tryd.sizeOf42
  v37 := Tryd.zeroValue42
  t46 := Tryd.underlying107
  a46 := Tryd.isAgg107
  z46 := Tryd.sizeOf107
  v46 := Tryd.zeroValue107
  t51 := Tryd.underlying105
  a51 := Tryd.isAgg105
  z51 := Tryd.sizeOf105
  v51 := Tryd.zeroValue105
  t53 := Tryd.underlying65
  a53 := Tryd.isAgg65
  z53 := Tryd.sizeOf65
  v53 := Tryd.zeroValue65
  t171 := Tryd.underlying87
  a171 := Tryd.isAgg87
  z171 := Tryd.sizeOf87
  v171 := Tryd.zeroValue87
  t173 := Tryd.underlying90
  a173 := Tryd.isAgg90
  z173 := Tryd.sizeOf90
  v173 := Tryd.zeroValue90
  t212 := Tryd.underlying104
  a212 := Tryd.isAgg104
  z212 := Tryd.sizeOf104
  v212 := Tryd.zeroValue104
  t213 := Tryd.underlying106
  a213 := Tryd.isAgg106
  z213 := Tryd.sizeOf106
  t232 := Tryd.underlying126
  a232 := Tryd.isAgg126
  z232 := Tryd.sizeOf126
  v232 := Tryd.zeroValue126
  t233 := Tryd.underlying127
  a233 := Tryd.isAgg127
  z233 := Tryd.sizeOf127
  v233 := Tryd.zeroValue127
  g17 := by kernel_rfl
  g18 := by kernel_rfl
  g19 := by kernel_rfl }
open Go.RowKit Go.Sort Go.Lib in
/-- THE ROAD WITHOUT THE TABLE: 0 <= i < 100: two constants are read, nothing is laid: no premise on the world, and the world is as it was. (LAID: no walk: one application.) -/
theorem Tryd.internal_strconv_FormatInt_10_small (i : Nat) (hi : i < 100) (w : World) :
    Calls Tryd.prog 54 #[.int .i64 i, .int .i64 10] w fun e w' => e = .returned (.string ⟨(Lib.decDigits i).toArray⟩) ∧ w' = w := Any.internal_strconv_FormatInt_10_small Tryd.lays246 i hi w
def Tryd.laysM243_ren : Go.Shelf.Ren := ⟨fun | 243 => 46 | 246 => 54 | 283 => 66 | 284 => 67 | 285 => 68 | 286 => 69 | 129 => 81 | 317 => 80 | 318 => 82 | 319 => 83 | 320 => 84 | 337 => 91 | 338 => 92 | n => n, fun | 3 => 3 | 9 => 9 | 2 => 2 | 4 => 4 | 171 => 87 | 0 => 0 | 53 => 65 | 37 => 42 | 5 => 5 | 173 => 90 | 212 => 104 | 51 => 105 | 20 => 20 | 213 => 106 | 46 => 107 | 232 => 126 | 233 => 127 | n => n, fun | 17 => 0 | 18 => 5 | 19 => 6 | n => n⟩
theorem Tryd.laysM243 : Go.Proofs.LaysM.n243 Tryd.prog Tryd.laysM243_ren := {
  mixed := by kernel_rfl
  f129 := Tryd.func81.trans (congrArg some (by kernel_rfl))
  f243 := Tryd.func46.trans (congrArg some (by kernel_rfl))
  f246 := Tryd.func54.trans (congrArg some (by kernel_rfl))
  f283 := Tryd.func66.trans (congrArg some (by kernel_rfl))
  f284 := Tryd.func67.trans (congrArg some (by kernel_rfl))
  f285 := Tryd.func68.trans (congrArg some (by kernel_rfl))
  f286 := Tryd.func69.trans (congrArg some (by kernel_rfl))
  f317 := Tryd.func80.trans (congrArg some (by kernel_rfl))
  f318 := Tryd.func82.trans (congrArg some (by kernel_rfl))
  f319 := Tryd.func83.trans (congrArg some (by kernel_rfl))
  f320 := Tryd.func84.trans (congrArg some (by kernel_rfl))
  f337 := Tryd.func91.trans (congrArg some (by kernel_rfl))
  f338 := Tryd.func92.trans (congrArg some (by kernel_rfl))
  t0 := Tryd.underlying0
  a0 := Tryd.isAgg0
  z0 := Tryd.sizeOf0
  v0 := Tryd.zeroValue0
  t2 := Tryd.underlying2
  a2 := Tryd.isAgg2
  z2 := Tryd.sizeOf2
  v2 := Tryd.zeroValue2
  t3 := Tryd.underlying3
  a3 := Tryd.isAgg3
  z3 := Tryd.sizeOf3
  v3 := Tryd.zeroValue3
  t4 := Tryd.underlying4
  a4 := Tryd.isAgg4
  z4 := Tryd.sizeOf4
  v4 := Tryd.zeroValue4
  t5 := Tryd.underlying5
  a5 := Tryd.isAgg5
  z5 := Tryd.sizeOf5
  v5 := Tryd.zeroValue5
  t9 := Tryd.underlying9
  a9 := Tryd.isAgg9
  z9 := Tryd.sizeOf9
  v9 := Tryd.zeroValue9
  t20 := Tryd.underlying20
  a20 := Tryd.isAgg20
  z20 := Tryd.sizeOf20
  v20 := Tryd.zeroValue20
  t37 := Tryd.underlying42
  a37 := Tryd.isAgg42
  z37 := Tryd.sizeOf42
  v37 := Tryd.zeroValue42
  t46 := Tryd.underlying107
  a46 := Tryd.isAgg107
  z46 := Tryd.sizeOf107
  v46 := Tryd.zeroValue107
  t51 := Tryd.underlying105
  a51 := Tryd.isAgg105
  z51 := Tryd.sizeOf105
  v51 := Tryd.zeroValue105
  t53 := Tryd.underlying65
  a53 := Tryd.isAgg65
  z53 := Tryd.sizeOf65
  v53 := Tryd.zeroValue65
  t171 := Tryd.underlying87
  a171 := Tryd.isAgg87
  z171 := Tryd.sizeOf87
  v171 := Tryd.zeroValue87
  t173 := Tryd.underlying90
  a173 := Tryd.isAgg90
  z173 := Tryd.sizeOf90
  v173 := Tryd.zeroValue90
  t212 := Tryd.underlying104
  a212 := Tryd.isAgg104
  z212 := Tryd.sizeOf104
  v212 := Tryd.zeroValue104
  t213 := Tryd.underlying106
  a213 := Tryd.isAgg106
  z213 := Tryd.sizeOf106
  t232 := Tryd.underlying126
  a232 := Tryd.isAgg126
  z232 := Tryd.sizeOf126
  v232 := Tryd.zeroValue126
  t233 := Tryd.underlying127
  a233 := Tryd.isAgg127
  z233 := Tryd.sizeOf127
  v233 := Tryd.zeroValue127
  g17 := by kernel_rfl
  g18 := by kernel_rfl
  g19 := by kernel_rfl
  i0 := by kernel_rfl
  i2 := by kernel_rfl
  i3 := by kernel_rfl
  i4 := by kernel_rfl
  i5 := by kernel_rfl
  i9 := by kernel_rfl
  i20 := by kernel_rfl
  i37 := by kernel_rfl
  i46 := by kernel_rfl
  i51 := by kernel_rfl
  i53 := by kernel_rfl
  i171 := by kernel_rfl
  i173 := by kernel_rfl
  i212 := by kernel_rfl
  i232 := by kernel_rfl
  i233 := by kernel_rfl
  m17 := by kernel_rfl
  m18 := by kernel_rfl
  m19 := by kernel_rfl }
open Go.RowKit Go.Sort Go.Lib in
/-- internal/strconv.Itoa: "Itoa is equivalent to FormatInt(int64(i), 10).": i's decimal numeral, for every int. (LAID: no walk: one application.) -/
theorem Tryd.internal_strconv_Itoa (n : Int) (h0 : -9223372036854775808 ≤ n) (h1 : n ≤ 9223372036854775807) (w : World) (htab : Lib.TabIs Tryd.prog w "internal/strconv.uint64pow10" .u64 Lib.pow10Tab) :
    Calls Tryd.prog 46 #[.int .i64 n] w fun e w' => e = .returned (.string ⟨(Lib.itoa n).toArray⟩) ∧ ∃ k os, w' = grow (w.drewN k) os := Any.internal_strconv_Itoa Tryd.laysM243 n h0 h1 w htab
def Tryd.lays243_ren : Go.Shelf.Ren := ⟨fun | 243 => 46 | 246 => 54 | 283 => 66 | 284 => 67 | 285 => 68 | 286 => 69 | 129 => 81 | 317 => 80 | 318 => 82 | 319 => 83 | 320 => 84 | 337 => 91 | 338 => 92 | n => n, fun | 3 => 3 | 9 => 9 | 2 => 2 | 4 => 4 | 171 => 87 | 0 => 0 | 53 => 65 | 37 => 42 | 5 => 5 | 173 => 90 | 212 => 104 | 51 => 105 | 20 => 20 | 213 => 106 | 46 => 107 | 232 => 126 | 233 => 127 | n => n, fun | 17 => 0 | 18 => 5 | 19 => 6 | n => n⟩
theorem Tryd.lays243 : Go.Proofs.Lays.n243 Tryd.prog Tryd.lays243_ren := {
  mixed := by kernel_rfl
  f129 := Tryd.func81.trans (congrArg some (by kernel_rfl))
  f243 := Tryd.func46.trans (congrArg some (by kernel_rfl))
  f246 := Tryd.func54.trans (congrArg some (by kernel_rfl))
  f283 := Tryd.func66.trans (congrArg some (by kernel_rfl))
  f284 := Tryd.func67.trans (congrArg some (by kernel_rfl))
  f285 := Tryd.func68.trans (congrArg some (by kernel_rfl))
  f286 := Tryd.func69.trans (congrArg some (by kernel_rfl))
  f317 := Tryd.func80.trans (congrArg some (by kernel_rfl))
  f318 := Tryd.func82.trans (congrArg some (by kernel_rfl))
  f319 := Tryd.func83.trans (congrArg some (by kernel_rfl))
  f320 := Tryd.func84.trans (congrArg some (by kernel_rfl))
  f337 := Tryd.func91.trans (congrArg some (by kernel_rfl))
  f338 := Tryd.func92.trans (congrArg some (by kernel_rfl))
  t0 := Tryd.underlying0
  a0 := Tryd.isAgg0
  z0 := Tryd.sizeOf0
  v0 := Tryd.zeroValue0
  t2 := Tryd.underlying2
  a2 := Tryd.isAgg2
  z2 := Tryd.sizeOf2
  v2 := Tryd.zeroValue2
  t3 := Tryd.underlying3
  a3 := Tryd.isAgg3
  z3 := Tryd.sizeOf3
  v3 := Tryd.zeroValue3
  t4 := Tryd.underlying4
  a4 := Tryd.isAgg4
  z4 := Tryd.sizeOf4
  v4 := Tryd.zeroValue4
  t5 := Tryd.underlying5
  a5 := Tryd.isAgg5
  z5 := Tryd.sizeOf5
  v5 := Tryd.zeroValue5
  t9 := Tryd.underlying9
  a9 := Tryd.isAgg9
  z9 := Tryd.sizeOf9
  v9 := Tryd.zeroValue9
  t20 := Tryd.underlying20
  a20 := Tryd.isAgg20
  z20 := Tryd.sizeOf20
  v20 := Tryd.zeroValue20
  t37 := Tryd.underlying42
  a37 := Tryd.isAgg42
  z37 := Tryd.sizeOf42
  v37 := Tryd.zeroValue42
  t46 := Tryd.underlying107
  a46 := Tryd.isAgg107
  z46 := Tryd.sizeOf107
  v46 := Tryd.zeroValue107
  t51 := Tryd.underlying105
  a51 := Tryd.isAgg105
  z51 := Tryd.sizeOf105
  v51 := Tryd.zeroValue105
  t53 := Tryd.underlying65
  a53 := Tryd.isAgg65
  z53 := Tryd.sizeOf65
  v53 := Tryd.zeroValue65
  t171 := Tryd.underlying87
  a171 := Tryd.isAgg87
  z171 := Tryd.sizeOf87
  v171 := Tryd.zeroValue87
  t173 := Tryd.underlying90
  a173 := Tryd.isAgg90
  z173 := Tryd.sizeOf90
  v173 := Tryd.zeroValue90
  t212 := Tryd.underlying104
  a212 := Tryd.isAgg104
  z212 := Tryd.sizeOf104
  v212 := Tryd.zeroValue104
  t213 := Tryd.underlying106
  a213 := Tryd.isAgg106
  z213 := Tryd.sizeOf106
  t232 := Tryd.underlying126
  a232 := Tryd.isAgg126
  z232 := Tryd.sizeOf126
  v232 := Tryd.zeroValue126
  t233 := Tryd.underlying127
  a233 := Tryd.isAgg127
  z233 := Tryd.sizeOf127
  v233 := Tryd.zeroValue127
  g17 := by kernel_rfl
  g18 := by kernel_rfl
  g19 := by kernel_rfl }
open Go.RowKit Go.Sort Go.Lib in
/-- THE ROAD WITHOUT THE TABLE: 0 <= i < 100. (LAID: no walk: one application.) -/
theorem Tryd.internal_strconv_Itoa_small (i : Nat) (hi : i < 100) (w : World) :
    Calls Tryd.prog 46 #[.int .i64 i] w fun e w' => e = .returned (.string ⟨(Lib.decDigits i).toArray⟩) ∧ w' = w := Any.internal_strconv_Itoa_small Tryd.lays243 i hi w
def Tryd.laysM171_ren : Go.Shelf.Ren := ⟨fun | 171 => 40 | 243 => 46 | 246 => 54 | 283 => 66 | 284 => 67 | 285 => 68 | 286 => 69 | 129 => 81 | 317 => 80 | 318 => 82 | 319 => 83 | 320 => 84 | 337 => 91 | 338 => 92 | n => n, fun | 3 => 3 | 9 => 9 | 2 => 2 | 4 => 4 | 171 => 87 | 0 => 0 | 53 => 65 | 37 => 42 | 5 => 5 | 173 => 90 | 212 => 104 | 51 => 105 | 20 => 20 | 213 => 106 | 46 => 107 | 232 => 126 | 233 => 127 | n => n, fun | 17 => 0 | 18 => 5 | 19 => 6 | n => n⟩
theorem Tryd.laysM171 : Go.Proofs.LaysM.n171 Tryd.prog Tryd.laysM171_ren := {
  mixed := by kernel_rfl
  f129 := Tryd.func81.trans (congrArg some (by kernel_rfl))
  f171 := Tryd.func40.trans (congrArg some (by kernel_rfl))
  f243 := Tryd.func46.trans (congrArg some (by kernel_rfl))
  f246 := Tryd.func54.trans (congrArg some (by kernel_rfl))
  f283 := Tryd.func66.trans (congrArg some (by kernel_rfl))
  f284 := Tryd.func67.trans (congrArg some (by kernel_rfl))
  f285 := Tryd.func68.trans (congrArg some (by kernel_rfl))
  f286 := Tryd.func69.trans (congrArg some (by kernel_rfl))
  f317 := Tryd.func80.trans (congrArg some (by kernel_rfl))
  f318 := Tryd.func82.trans (congrArg some (by kernel_rfl))
  f319 := Tryd.func83.trans (congrArg some (by kernel_rfl))
  f320 := Tryd.func84.trans (congrArg some (by kernel_rfl))
  f337 := Tryd.func91.trans (congrArg some (by kernel_rfl))
  f338 := Tryd.func92.trans (congrArg some (by kernel_rfl))
  t0 := Tryd.underlying0
  a0 := Tryd.isAgg0
  z0 := Tryd.sizeOf0
  v0 := Tryd.zeroValue0
  t2 := Tryd.underlying2
  a2 := Tryd.isAgg2
  z2 := Tryd.sizeOf2
  v2 := Tryd.zeroValue2
  t3 := Tryd.underlying3
  a3 := Tryd.isAgg3
  z3 := Tryd.sizeOf3
  v3 := Tryd.zeroValue3
  t4 := Tryd.underlying4
  a4 := Tryd.isAgg4
  z4 := Tryd.sizeOf4
  v4 := Tryd.zeroValue4
  t5 := Tryd.underlying5
  a5 := Tryd.isAgg5
  z5 := Tryd.sizeOf5
  v5 := Tryd.zeroValue5
  t9 := Tryd.underlying9
  a9 := Tryd.isAgg9
  z9 := Tryd.sizeOf9
  v9 := Tryd.zeroValue9
  t20 := Tryd.underlying20
  a20 := Tryd.isAgg20
  z20 := Tryd.sizeOf20
  v20 := Tryd.zeroValue20
  t37 := Tryd.underlying42
  a37 := Tryd.isAgg42
  z37 := Tryd.sizeOf42
  v37 := Tryd.zeroValue42
  t46 := Tryd.underlying107
  a46 := Tryd.isAgg107
  z46 := Tryd.sizeOf107
  v46 := Tryd.zeroValue107
  t51 := Tryd.underlying105
  a51 := Tryd.isAgg105
  z51 := Tryd.sizeOf105
  v51 := Tryd.zeroValue105
  t53 := Tryd.underlying65
  a53 := Tryd.isAgg65
  z53 := Tryd.sizeOf65
  v53 := Tryd.zeroValue65
  t171 := Tryd.underlying87
  a171 := Tryd.isAgg87
  z171 := Tryd.sizeOf87
  v171 := Tryd.zeroValue87
  t173 := Tryd.underlying90
  a173 := Tryd.isAgg90
  z173 := Tryd.sizeOf90
  v173 := Tryd.zeroValue90
  t212 := Tryd.underlying104
  a212 := Tryd.isAgg104
  z212 := Tryd.sizeOf104
  v212 := Tryd.zeroValue104
  t213 := Tryd.underlying106
  a213 := Tryd.isAgg106
  z213 := Tryd.sizeOf106
  t232 := Tryd.underlying126
  a232 := Tryd.isAgg126
  z232 := Tryd.sizeOf126
  v232 := Tryd.zeroValue126
  t233 := Tryd.underlying127
  a233 := Tryd.isAgg127
  z233 := Tryd.sizeOf127
  v233 := Tryd.zeroValue127
  g17 := by kernel_rfl
  g18 := by kernel_rfl
  g19 := by kernel_rfl
  i0 := by kernel_rfl
  i2 := by kernel_rfl
  i3 := by kernel_rfl
  i4 := by kernel_rfl
  i5 := by kernel_rfl
  i9 := by kernel_rfl
  i20 := by kernel_rfl
  i37 := by kernel_rfl
  i46 := by kernel_rfl
  i51 := by kernel_rfl
  i53 := by kernel_rfl
  i171 := by kernel_rfl
  i173 := by kernel_rfl
  i212 := by kernel_rfl
  i232 := by kernel_rfl
  i233 := by kernel_rfl
  m17 := by kernel_rfl
  m18 := by kernel_rfl
  m19 := by kernel_rfl }
open Go.RowKit Go.Sort Go.Lib in
/-- strconv.Itoa: "Itoa is equivalent to FormatInt(int64(i), 10).": i's DECIMAL NUMERAL ('Lib.itoa': a '-' where i is negative, then the digits), FOR EVERY int. The world behind the call: the world before it, new blocks behind the heap (the library's 'var a [24]byte'), draws. (LAID: no walk: one application.) -/
theorem Tryd.strconv_Itoa (n : Int) (h0 : -9223372036854775808 ≤ n) (h1 : n ≤ 9223372036854775807) (w : World) (htab : Lib.TabIs Tryd.prog w "internal/strconv.uint64pow10" .u64 Lib.pow10Tab) :
    Calls Tryd.prog 40 #[.int .i64 n] w fun e w' => e = .returned (.string ⟨(Lib.itoa n).toArray⟩) ∧ ∃ k os, w' = grow (w.drewN k) os := Any.strconv_Itoa Tryd.laysM171 n h0 h1 w htab
def Tryd.lays171_ren : Go.Shelf.Ren := ⟨fun | 171 => 40 | 243 => 46 | 246 => 54 | 283 => 66 | 284 => 67 | 285 => 68 | 286 => 69 | 129 => 81 | 317 => 80 | 318 => 82 | 319 => 83 | 320 => 84 | 337 => 91 | 338 => 92 | n => n, fun | 3 => 3 | 9 => 9 | 2 => 2 | 4 => 4 | 171 => 87 | 0 => 0 | 53 => 65 | 37 => 42 | 5 => 5 | 173 => 90 | 212 => 104 | 51 => 105 | 20 => 20 | 213 => 106 | 46 => 107 | 232 => 126 | 233 => 127 | n => n, fun | 17 => 0 | 18 => 5 | 19 => 6 | n => n⟩
theorem Tryd.lays171 : Go.Proofs.Lays.n171 Tryd.prog Tryd.lays171_ren := {
  mixed := by kernel_rfl
  f129 := Tryd.func81.trans (congrArg some (by kernel_rfl))
  f171 := Tryd.func40.trans (congrArg some (by kernel_rfl))
  f243 := Tryd.func46.trans (congrArg some (by kernel_rfl))
  f246 := Tryd.func54.trans (congrArg some (by kernel_rfl))
  f283 := Tryd.func66.trans (congrArg some (by kernel_rfl))
  f284 := Tryd.func67.trans (congrArg some (by kernel_rfl))
  f285 := Tryd.func68.trans (congrArg some (by kernel_rfl))
  f286 := Tryd.func69.trans (congrArg some (by kernel_rfl))
  f317 := Tryd.func80.trans (congrArg some (by kernel_rfl))
  f318 := Tryd.func82.trans (congrArg some (by kernel_rfl))
  f319 := Tryd.func83.trans (congrArg some (by kernel_rfl))
  f320 := Tryd.func84.trans (congrArg some (by kernel_rfl))
  f337 := Tryd.func91.trans (congrArg some (by kernel_rfl))
  f338 := Tryd.func92.trans (congrArg some (by kernel_rfl))
  t0 := Tryd.underlying0
  a0 := Tryd.isAgg0
  z0 := Tryd.sizeOf0
  v0 := Tryd.zeroValue0
  t2 := Tryd.underlying2
  a2 := Tryd.isAgg2
  z2 := Tryd.sizeOf2
  v2 := Tryd.zeroValue2
  t3 := Tryd.underlying3
  a3 := Tryd.isAgg3
  z3 := Tryd.sizeOf3
  v3 := Tryd.zeroValue3
  t4 := Tryd.underlying4
  a4 := Tryd.isAgg4
  z4 := Tryd.sizeOf4
  v4 := Tryd.zeroValue4
  t5 := Tryd.underlying5
  a5 := Tryd.isAgg5
  z5 := Tryd.sizeOf5
  v5 := Tryd.zeroValue5
  t9 := Tryd.underlying9
  a9 := Tryd.isAgg9
  z9 := Tryd.sizeOf9
  v9 := Tryd.zeroValue9
  t20 := Tryd.underlying20
  a20 := Tryd.isAgg20
  z20 := Tryd.sizeOf20
  v20 := Tryd.zeroValue20
  t37 := Tryd.underlying42
  a37 := Tryd.isAgg42
  z37 := Tryd.sizeOf42
  v37 := Tryd.zeroValue42
  t46 := Tryd.underlying107
  a46 := Tryd.isAgg107
  z46 := Tryd.sizeOf107
  v46 := Tryd.zeroValue107
  t51 := Tryd.underlying105
  a51 := Tryd.isAgg105
  z51 := Tryd.sizeOf105
  v51 := Tryd.zeroValue105
  t53 := Tryd.underlying65
  a53 := Tryd.isAgg65
  z53 := Tryd.sizeOf65
  v53 := Tryd.zeroValue65
  t171 := Tryd.underlying87
  a171 := Tryd.isAgg87
  z171 := Tryd.sizeOf87
  v171 := Tryd.zeroValue87
  t173 := Tryd.underlying90
  a173 := Tryd.isAgg90
  z173 := Tryd.sizeOf90
  v173 := Tryd.zeroValue90
  t212 := Tryd.underlying104
  a212 := Tryd.isAgg104
  z212 := Tryd.sizeOf104
  v212 := Tryd.zeroValue104
  t213 := Tryd.underlying106
  a213 := Tryd.isAgg106
  z213 := Tryd.sizeOf106
  t232 := Tryd.underlying126
  a232 := Tryd.isAgg126
  z232 := Tryd.sizeOf126
  v232 := Tryd.zeroValue126
  t233 := Tryd.underlying127
  a233 := Tryd.isAgg127
  z233 := Tryd.sizeOf127
  v233 := Tryd.zeroValue127
  g17 := by kernel_rfl
  g18 := by kernel_rfl
  g19 := by kernel_rfl }
open Go.RowKit Go.Sort Go.Lib in
/-- THE ROAD WITHOUT THE TABLE: 0 <= i < 100: NO PREMISE ON THE WORLD, AND THE WORLD IS AS IT WAS: a row that keeps its argument in that range need list no table ('laid = []'). (LAID: no walk: one application.) -/
theorem Tryd.strconv_Itoa_small (i : Nat) (hi : i < 100) (w : World) :
    Calls Tryd.prog 40 #[.int .i64 i] w fun e w' => e = .returned (.string ⟨(Lib.decDigits i).toArray⟩) ∧ w' = w := Any.strconv_Itoa_small Tryd.lays171 i hi w
open Go.RowKit in
/-- internal/strconv.Atoi, at a string of 1 to 18 bytes THAT IS NO DECIMAL NUMERAL: 0, AND ErrSyntax (the package's own error number 2). The world behind the call: as it was, or with the one new row that '[]byte(s)' lays. (LAID: no walk: one application.) -/
theorem Tryd.internal_strconv_Atoi_err (s : ByteArray) (hl0 : 1 ≤ s.size) (hl : s.size ≤ 18) (h : Lib.atoi s.data.toList = none) (w : World) :
    Calls Tryd.prog 64 #[.string s] w fun e w' => e = .returned (.tuple #[.int .i64 0, (.iface 96 (.int .i64 2))]) ∧ (w' = w ∨ ∃ t, w' = Lib.bytesWorld w 5 t) := Any.internal_strconv_Atoi_err Tryd.lays244 s hl0 hl h w
def Tryd.lays247_ren : Go.Shelf.Ren := ⟨fun | 247 => 75 | 287 => 88 | 321 => 97 | 322 => 98 | n => n, fun | 9 => 9 | 3 => 3 | 2 => 2 | 75 => 60 | 4 => 4 | 167 => 96 | 5 => 5 | 53 => 65 | 175 => 110 | 46 => 107 | 37 => 42 | 0 => 0 | 21 => 21 | 80 => 47 | n => n, fun | n => n⟩
theorem Tryd.lays247 : Go.Proofs.Lays.n247 Tryd.prog Tryd.lays247_ren := {
  mixed := by kernel_rfl
  f247 := Tryd.func75.trans (congrArg some (by kernel_rfl))
  f287 := Tryd.func88.trans (congrArg some (by kernel_rfl))
  f321 := Tryd.func97.trans (congrArg some (by kernel_rfl))
  f322 := Tryd.func98.trans (congrArg some (by kernel_rfl))
  t0 := Tryd.underlying0
  a0 := Tryd.isAgg0
  z0 := Tryd.sizeOf0
  v0 := Tryd.zeroValue0
  t2 := Tryd.underlying2
  a2 := Tryd.isAgg2
  z2 := Tryd.sizeOf2
  v2 := Tryd.zeroValue2
  t3 := Tryd.underlying3
  a3 := Tryd.isAgg3
  z3 := Tryd.sizeOf3
  v3 := Tryd.zeroValue3
  t4 := Tryd.underlying4
  a4 := Tryd.isAgg4
  z4 := Tryd.sizeOf4
  v4 := Tryd.zeroValue4
  t5 := Tryd.underlying5
  a5 := Tryd.isAgg5
  z5 := Tryd.sizeOf5
  v5 := Tryd.zeroValue5
  t9 := Tryd.underlying9
  a9 := Tryd.isAgg9
  z9 := Tryd.sizeOf9
  v9 := Tryd.zeroValue9
  t21 := Tryd.underlying21
  a21 := Tryd.isAgg21
  z21 := Tryd.sizeOf21
  v21 := Tryd.zeroValue21
  t37 := Tryd.underlying42
  a37 := Tryd.isAgg42
  z37 := Tryd.sizeOf42
  v37 := Tryd.zeroValue42
  t46 := Tryd.underlying107
  a46 := Tryd.isAgg107
  z46 := Tryd.sizeOf107
  v46 := Tryd.zeroValue107
  t53 := Tryd.underlying65
  a53 := Tryd.isAgg65
  z53 := Tryd.sizeOf65
  v53 := Tryd.zeroValue65
  t75 := Tryd.underlying60
  a75 := Tryd.isAgg60
  z75 := Tryd.sizeOf60
  v75 := Tryd.zeroValue60
  t167 := Tryd.underlying96
  a167 := Tryd.isAgg96
  z167 := Tryd.sizeOf96
  v167 := Tryd.zeroValue96
  t175 := Tryd.underlying110
  a175 := Tryd.isAgg110
  z175 := Tryd.sizeOf110
  v175 := Tryd.zeroValue110 }
open Go.RowKit in
/-- internal/strconv.ParseInt at "": 'if s == "" { return 0, ErrSyntax }'. The world is as it was. (LAID: no walk: one application.) -/
theorem Tryd.internal_strconv_ParseInt_empty (base bits : Int) (w : World) :
    Calls Tryd.prog 75 #[.string ⟨#[]⟩, .int .i64 base, .int .i64 bits] w fun e w' => e = .returned (.tuple #[.int .i64 0, (.iface 96 (.int .i64 2))]) ∧ w' = w := Any.internal_strconv_ParseInt_empty Tryd.lays247 base bits w
open Go.RowKit in
/-- internal/strconv.Atoi at "". (LAID: no walk: one application.) -/
theorem Tryd.internal_strconv_Atoi_empty (w : World) :
    Calls Tryd.prog 64 #[.string ⟨#[]⟩] w fun e w' => e = .returned (.tuple #[.int .i64 0, (.iface 96 (.int .i64 2))]) ∧ w' = w := Any.internal_strconv_Atoi_empty Tryd.lays244 w
open Go.RowKit in
/-- internal/strconv.Atoi, AT EVERY STRING OF AT MOST 18 BYTES THAT IS NO DECIMAL NUMERAL: 0, and ErrSyntax. (LAID: no walk: one application.) -/
theorem Tryd.internal_strconv_Atoi_fail (s : ByteArray) (hl : s.size ≤ 18) (h : Lib.atoi s.data.toList = none) (w : World) :
    Calls Tryd.prog 64 #[.string s] w fun e w' => e = .returned (.tuple #[.int .i64 0, (.iface 96 (.int .i64 2))]) ∧ (w' = w ∨ ∃ t, w' = Lib.bytesWorld w 5 t) := Any.internal_strconv_Atoi_fail Tryd.lays244 s hl h w
def Tryd.laysM316_ren : Go.Shelf.Ren := ⟨fun | 316 => 89 | n => n, fun | 9 => 9 | 3 => 3 | 4 => 4 | 37 => 42 | 0 => 0 | 127 => 64 | 5 => 5 | n => n, fun | n => n⟩
theorem Tryd.laysM316 : Go.Proofs.LaysM.n316 Tryd.prog Tryd.laysM316_ren := {
  mixed := by kernel_rfl
  f316 := Tryd.func89.trans (congrArg some (by kernel_rfl))
  t0 := Tryd.underlying0
  a0 := Tryd.isAgg0
  z0 := Tryd.sizeOf0
  v0 := Tryd.zeroValue0
  t3 := Tryd.underlying3
  a3 := Tryd.isAgg3
  z3 := Tryd.sizeOf3
  v3 := Tryd.zeroValue3
  t4 := Tryd.underlying4
  a4 := Tryd.isAgg4
  z4 := Tryd.sizeOf4
  v4 := Tryd.zeroValue4
  t9 := Tryd.underlying9
  a9 := Tryd.isAgg9
  z9 := Tryd.sizeOf9
  v9 := Tryd.zeroValue9
  t37 := Tryd.underlying42
  a37 := Tryd.isAgg42
  z37 := Tryd.sizeOf42
  v37 := Tryd.zeroValue42
  t127 := Tryd.underlying64
  a127 := Tryd.isAgg64
  z127 := Tryd.sizeOf64
  v127 := Tryd.zeroValue64
  t5 := Tryd.underlying5
  a5 := Tryd.isAgg5
  z5 := Tryd.sizeOf5
  v5 := Tryd.zeroValue5
  i0 := by kernel_rfl
  i3 := by kernel_rfl
  i4 := by kernel_rfl
  i5 := by kernel_rfl
  i9 := by kernel_rfl
  i37 := by kernel_rfl
  i127 := by kernel_rfl }
open Go.RowKit in
/-- internal/stringslite.Clone (what strings.Clone calls): "Clone returns a fresh copy of s.": THE SAME BYTES. Of what was there nothing has turned (a new row is laid, and frozen, where s is not empty). (LAID: no walk: one application.) -/
theorem Tryd.stringslite_Clone (s : ByteArray) (w : World) (hlim : s.size ≤ 281474976710656) :
    Calls Tryd.prog 89 #[.string s] w fun e w' => e = .returned (.string s) ∧ Below w.heap.size w w' := Any.stringslite_Clone Tryd.laysM316 s w hlim
def Tryd.laysM279_ren : Go.Shelf.Ren := ⟨fun | 279 => 76 | 316 => 89 | n => n, fun | 9 => 9 | 168 => 99 | 75 => 60 | 210 => 114 | 3 => 3 | 4 => 4 | 37 => 42 | 0 => 0 | 127 => 64 | 80 => 47 | 5 => 5 | n => n, fun | 15 => 1 | n => n⟩
theorem Tryd.laysM279 : Go.Proofs.LaysM.n279 Tryd.prog Tryd.laysM279_ren := {
  mixed := by kernel_rfl
  f279 := Tryd.func76.trans (congrArg some (by kernel_rfl))
  f316 := Tryd.func89.trans (congrArg some (by kernel_rfl))
  t0 := Tryd.underlying0
  a0 := Tryd.isAgg0
  z0 := Tryd.sizeOf0
  v0 := Tryd.zeroValue0
  t3 := Tryd.underlying3
  a3 := Tryd.isAgg3
  z3 := Tryd.sizeOf3
  v3 := Tryd.zeroValue3
  t4 := Tryd.underlying4
  a4 := Tryd.isAgg4
  z4 := Tryd.sizeOf4
  v4 := Tryd.zeroValue4
  t9 := Tryd.underlying9
  a9 := Tryd.isAgg9
  z9 := Tryd.sizeOf9
  v9 := Tryd.zeroValue9
  t37 := Tryd.underlying42
  a37 := Tryd.isAgg42
  z37 := Tryd.sizeOf42
  v37 := Tryd.zeroValue42
  t75 := Tryd.underlying60
  a75 := Tryd.isAgg60
  z75 := Tryd.sizeOf60
  v75 := Tryd.zeroValue60
  t127 := Tryd.underlying64
  a127 := Tryd.isAgg64
  z127 := Tryd.sizeOf64
  v127 := Tryd.zeroValue64
  t168 := Tryd.underlying99
  a168 := Tryd.isAgg99
  z168 := Tryd.sizeOf99
  v168 := Tryd.zeroValue99
  t210 := Tryd.underlying114
  a210 := Tryd.isAgg114
  z210 := Tryd.sizeOf114
  v210 := Tryd.zeroValue114
  g15 := by kernel_rfl
  t5 := Tryd.underlying5
  a5 := Tryd.isAgg5
  z5 := Tryd.sizeOf5
  v5 := Tryd.zeroValue5
  t80 := Tryd.underlying47
  a80 := Tryd.isAgg47
  z80 := Tryd.sizeOf47
  v80 := Tryd.zeroValue47
  i0 := by kernel_rfl
  i3 := by kernel_rfl
  i4 := by kernel_rfl
  i5 := by kernel_rfl
  i9 := by kernel_rfl
  i37 := by kernel_rfl
  i75 := by kernel_rfl
  i80 := by kernel_rfl
  i127 := by kernel_rfl
  i168 := by kernel_rfl
  i210 := by kernel_rfl
  m15 := by kernel_rfl }
open Go.RowKit in
/-- strconv.syntaxError: '&NumError{fn, stringslite.Clone(str), ErrSyntax}': A POINTER TO A NEW BLOCK that holds fn, str's bytes, and what the variable ErrSyntax holds. Of what was there nothing has turned. (LAID: no walk: one application.) -/
theorem Tryd.strconv_syntaxError (fn s : ByteArray) (ev : Value) (w : World) (hlim : s.size ≤ 281474976710656) (hv : w.cell? ⟨1, 0, none⟩ = some ev) (hev : ev = .nilIface ∨ ∃ te pe, ev = .iface te pe) :
    Calls Tryd.prog 76 #[.string fn, .string s] w fun e w' => ∃ N, e = .returned (.pointer (some ⟨N, 0, none⟩)) ∧ w.heap.size ≤ N ∧ w'.heap[N]? = some (.cells #[.string fn, .string s, ev] 114 (0, 0)) ∧ Below w.heap.size w w' := Any.strconv_syntaxError Tryd.laysM279 fn s ev w hlim hv hev
def Tryd.laysC245_ren : Go.Shelf.Ren := ⟨fun | 245 => 65 | 279 => 76 | 280 => 77 | 281 => 78 | 282 => 79 | 316 => 89 | 171 => 40 | 205 => 90 | 243 => 46 | 246 => 54 | 283 => 66 | 284 => 67 | 285 => 68 | 286 => 69 | 129 => 81 | 317 => 80 | 318 => 82 | 319 => 83 | 320 => 84 | 337 => 91 | 338 => 92 | n => n, fun | 9 => 9 | 3 => 3 | 75 => 60 | 167 => 96 | 4 => 4 | 168 => 99 | 210 => 114 | 37 => 42 | 0 => 0 | 127 => 64 | 145 => 125 | 143 => 123 | 2 => 2 | 171 => 87 | 53 => 65 | 5 => 5 | 173 => 90 | 212 => 104 | 51 => 105 | 20 => 20 | 213 => 106 | 46 => 107 | 232 => 126 | 233 => 127 | 80 => 47 | n => n, fun | 15 => 1 | 16 => 2 | 17 => 0 | 18 => 5 | 19 => 6 | n => n⟩
theorem Tryd.laysC245 : Go.Proofs.LaysC.n245 Tryd.prog Tryd.laysC245_ren := {
  mixed := by kernel_rfl
  f129 := Tryd.func81.trans (congrArg some (by kernel_rfl))
  f171 := Tryd.func40.trans (congrArg some (by kernel_rfl))
  f205 := Tryd.func90.trans (congrArg some (by kernel_rfl))
  f243 := Tryd.func46.trans (congrArg some (by kernel_rfl))
  f245 := Tryd.func65.trans (congrArg some (by kernel_rfl))
  f246 := Tryd.func54.trans (congrArg some (by kernel_rfl))
  f279 := Tryd.func76.trans (congrArg some (by kernel_rfl))
  f280 := Tryd.func77.trans (congrArg some (by kernel_rfl))
  f281 := Tryd.func78.trans (congrArg some (by kernel_rfl))
  f282 := Tryd.func79.trans (congrArg some (by kernel_rfl))
  f283 := Tryd.func66.trans (congrArg some (by kernel_rfl))
  f284 := Tryd.func67.trans (congrArg some (by kernel_rfl))
  f285 := Tryd.func68.trans (congrArg some (by kernel_rfl))
  f286 := Tryd.func69.trans (congrArg some (by kernel_rfl))
  f316 := Tryd.func89.trans (congrArg some (by kernel_rfl))
  f317 := Tryd.func80.trans (congrArg some (by kernel_rfl))
  f318 := Tryd.func82.trans (congrArg some (by kernel_rfl))
  f319 := Tryd.func83.trans (congrArg some (by kernel_rfl))
  f320 := Tryd.func84.trans (congrArg some (by kernel_rfl))
  f337 := Tryd.func91.trans (congrArg some (by kernel_rfl))
  f338 := Tryd.func92.trans (congrArg some (by kernel_rfl))
  t0 := Tryd.underlying0
  a0 := Tryd.isAgg0
  z0 := Tryd.sizeOf0
  v0 := Tryd.zeroValue0
  t2 := Tryd.underlying2
  a2 := Tryd.isAgg2
  z2 := Tryd.sizeOf2
  v2 := Tryd.zeroValue2
  t3 := Tryd.underlying3
  a3 := Tryd.isAgg3
  z3 := Tryd.sizeOf3
  v3 := Tryd.zeroValue3
  t4 := Tryd.underlying4
  a4 := Tryd.isAgg4
  z4 := Tryd.sizeOf4
  v4 := Tryd.zeroValue4
  t5 := Tryd.underlying5
  a5 := Tryd.isAgg5
  z5 := Tryd.sizeOf5
  v5 := Tryd.zeroValue5
  t9 := Tryd.underlying9
  a9 := Tryd.isAgg9
  z9 := Tryd.sizeOf9
  v9 := Tryd.zeroValue9
  t20 := Tryd.underlying20
  a20 := Tryd.isAgg20
  z20 := Tryd.sizeOf20
  v20 := Tryd.zeroValue20
  t37 := Tryd.underlying42
  a37 := Tryd.isAgg42
  z37 := Tryd.sizeOf42
  v37 := Tryd.zeroValue42
  t46 := Tryd.underlying107
  a46 := Tryd.isAgg107
  z46 := Tryd.sizeOf107
  v46 := Tryd.zeroValue107
  t51 := Tryd.underlying105
  a51 := Tryd.isAgg105
  z51 := Tryd.sizeOf105
  v51 := Tryd.zeroValue105
  t53 := Tryd.underlying65
  a53 := Tryd.isAgg65
  z53 := Tryd.sizeOf65
  v53 := Tryd.zeroValue65
  t75 := Tryd.underlying60
  a75 := Tryd.isAgg60
  z75 := Tryd.sizeOf60
  v75 := Tryd.zeroValue60
  t127 := Tryd.underlying64
  a127 := Tryd.isAgg64
  z127 := Tryd.sizeOf64
  v127 := Tryd.zeroValue64
  t143 := Tryd.underlying123
  a143 := Tryd.isAgg123
  z143 := Tryd.sizeOf123
  v143 := Tryd.zeroValue123
  t145 := Tryd.underlying125
  a145 := Tryd.isAgg125
  z145 := Tryd.sizeOf125
  v145 := Tryd.zeroValue125
  t167 := Tryd.underlying96
  a167 := Tryd.isAgg96
  z167 := Tryd.sizeOf96
  v167 := Tryd.zeroValue96
  t168 := Tryd.underlying99
  a168 := Tryd.isAgg99
  z168 := Tryd.sizeOf99
  v168 := Tryd.zeroValue99
  t171 := Tryd.underlying87
  a171 := Tryd.isAgg87
  z171 := Tryd.sizeOf87
  v171 := Tryd.zeroValue87
  t173 := Tryd.underlying90
  a173 := Tryd.isAgg90
  z173 := Tryd.sizeOf90
  v173 := Tryd.zeroValue90
  t210 := Tryd.underlying114
  a210 := Tryd.isAgg114
  z210 := Tryd.sizeOf114
  v210 := Tryd.zeroValue114
  t212 := Tryd.underlying104
  a212 := Tryd.isAgg104
  z212 := Tryd.sizeOf104
  v212 := Tryd.zeroValue104
  t213 := Tryd.underlying106
  a213 := Tryd.isAgg106
  z213 := Tryd.sizeOf106
  t232 := Tryd.underlying126
  a232 := Tryd.isAgg126
  z232 := Tryd.sizeOf126
  v232 := Tryd.zeroValue126
  t233 := Tryd.underlying127
  a233 := Tryd.isAgg127
  z233 := Tryd.sizeOf127
  v233 := Tryd.zeroValue127
  g15 := by kernel_rfl
  g16 := by kernel_rfl
  g17 := by kernel_rfl
  g18 := by kernel_rfl
  g19 := by kernel_rfl
  t80 := Tryd.underlying47
  a80 := Tryd.isAgg47
  z80 := Tryd.sizeOf47
  v80 := Tryd.zeroValue47
  i0 := by kernel_rfl
  i2 := by kernel_rfl
  i3 := by kernel_rfl
  i4 := by kernel_rfl
  i5 := by kernel_rfl
  i9 := by kernel_rfl
  i20 := by kernel_rfl
  i37 := by kernel_rfl
  i46 := by kernel_rfl
  i51 := by kernel_rfl
  i53 := by kernel_rfl
  i75 := by kernel_rfl
  i80 := by kernel_rfl
  i127 := by kernel_rfl
  i143 := by kernel_rfl
  i145 := by kernel_rfl
  i167 := by kernel_rfl
  i168 := by kernel_rfl
  i171 := by kernel_rfl
  i173 := by kernel_rfl
  i210 := by kernel_rfl
  i212 := by kernel_rfl
  i232 := by kernel_rfl
  i233 := by kernel_rfl
  m15 := by kernel_rfl
  m16 := by kernel_rfl
  m17 := by kernel_rfl
  m18 := by kernel_rfl
  m19 := by kernel_rfl
  c0 := by kernel_rfl
  c2 := by kernel_rfl
  c3 := by kernel_rfl
  c4 := by kernel_rfl
  c5 := by kernel_rfl
  c9 := by kernel_rfl
  c20 := by kernel_rfl
  c37 := by kernel_rfl
  c46 := by kernel_rfl
  c51 := by kernel_rfl
  c53 := by kernel_rfl
  c75 := by kernel_rfl
  c80 := by kernel_rfl
  c127 := by kernel_rfl
  c143 := by kernel_rfl
  c145 := by kernel_rfl
  c167 := by kernel_rfl
  c168 := by kernel_rfl
  c171 := by kernel_rfl
  c173 := by kernel_rfl
  c210 := by kernel_rfl
  c212 := by kernel_rfl
  c213 := by kernel_rfl
  c232 := by kernel_rfl
  c233 := by kernel_rfl }
open Go.RowKit in
/-- strconv.toError, at the inner package's ErrSyntax: 'syntaxError(fn, s)' as an error: A *NumError IN A NEW BLOCK. (LAID: no walk: one application.) -/
theorem Tryd.strconv_toError_syntax (fn s : ByteArray) (base bits : Int) (ev : Value) (w : World) (hlim : s.size ≤ 281474976710656) (hv : w.cell? ⟨1, 0, none⟩ = some ev) (hev : ev = .nilIface ∨ ∃ te pe, ev = .iface te pe) :
    Calls Tryd.prog 65 #[.string fn, .string s, .int .i64 base, .int .i64 bits, .iface 96 (.int .i64 2)] w fun e w' => ∃ N, e = .returned (.iface 99 (.pointer (some ⟨N, 0, none⟩))) ∧ w.heap.size ≤ N ∧ w'.heap[N]? = some (.cells #[.string fn, .string s, ev] 114 (0, 0)) ∧ Below w.heap.size w w' := Any.strconv_toError_syntax Tryd.laysC245 fn s base bits ev w hlim hv hev
def Tryd.lays321_ren : Go.Shelf.Ren := ⟨fun | 321 => 97 | n => n, fun | 5 => 5 | n => n, fun | n => n⟩
theorem Tryd.lays321 : Go.Proofs.Lays.n321 Tryd.prog Tryd.lays321_ren := {
  mixed := by kernel_rfl
  f321 := Tryd.func97.trans (congrArg some (by kernel_rfl))
  t5 := Tryd.underlying5
  a5 := Tryd.isAgg5
  z5 := Tryd.sizeOf5
  v5 := Tryd.zeroValue5 }
open Go.RowKit in
/-- internal/strconv.lower: 'c | ('x' - 'X')': the bit 32 set. The world is as it was. (LAID: no walk: one application.) -/
theorem Tryd.internal_strconv_lower (c : Int) (w : World) :
    Calls Tryd.prog 97 #[.int .u8 c] w fun e w' => e = .returned (.int .u8 (bits .or .u8 c 32)) ∧ w' = w := Any.internal_strconv_lower Tryd.lays321 c w
def Tryd.lays287_ren : Go.Shelf.Ren := ⟨fun | 287 => 88 | 321 => 97 | 322 => 98 | n => n, fun | 9 => 9 | 3 => 3 | 53 => 65 | 75 => 60 | 4 => 4 | 167 => 96 | 5 => 5 | 46 => 107 | 37 => 42 | 0 => 0 | 21 => 21 | 80 => 47 | n => n, fun | n => n⟩
theorem Tryd.lays287 : Go.Proofs.Lays.n287 Tryd.prog Tryd.lays287_ren := {
  mixed := by kernel_rfl
  f287 := Tryd.func88.trans (congrArg some (by kernel_rfl))
  f321 := Tryd.func97.trans (congrArg some (by kernel_rfl))
  f322 := Tryd.func98.trans (congrArg some (by kernel_rfl))
  t0 := Tryd.underlying0
  a0 := Tryd.isAgg0
  z0 := Tryd.sizeOf0
  v0 := Tryd.zeroValue0
  t3 := Tryd.underlying3
  a3 := Tryd.isAgg3
  z3 := Tryd.sizeOf3
  v3 := Tryd.zeroValue3
  t4 := Tryd.underlying4
  a4 := Tryd.isAgg4
  z4 := Tryd.sizeOf4
  v4 := Tryd.zeroValue4
  t5 := Tryd.underlying5
  a5 := Tryd.isAgg5
  z5 := Tryd.sizeOf5
  v5 := Tryd.zeroValue5
  t9 := Tryd.underlying9
  a9 := Tryd.isAgg9
  z9 := Tryd.sizeOf9
  v9 := Tryd.zeroValue9
  t21 := Tryd.underlying21
  a21 := Tryd.isAgg21
  z21 := Tryd.sizeOf21
  v21 := Tryd.zeroValue21
  t37 := Tryd.underlying42
  a37 := Tryd.isAgg42
  z37 := Tryd.sizeOf42
  v37 := Tryd.zeroValue42
  t46 := Tryd.underlying107
  a46 := Tryd.isAgg107
  z46 := Tryd.sizeOf107
  v46 := Tryd.zeroValue107
  t53 := Tryd.underlying65
  a53 := Tryd.isAgg65
  z53 := Tryd.sizeOf65
  v53 := Tryd.zeroValue65
  t75 := Tryd.underlying60
  a75 := Tryd.isAgg60
  z75 := Tryd.sizeOf60
  v75 := Tryd.zeroValue60
  t167 := Tryd.underlying96
  a167 := Tryd.isAgg96
  z167 := Tryd.sizeOf96
  v167 := Tryd.zeroValue96 }
open Go.RowKit in
/-- internal/strconv.ParseUint(s, 10, 0), s NOT EMPTY: 'Lib.parseUint10 0' OF ITS BYTES: the number; or (0, ErrSyntax); or (the greatest uint64, ErrRange). The world behind the call: the one new row that '[]byte(s)' lays. (LAID: no walk: one application.) -/
theorem Tryd.internal_strconv_ParseUint_10 (t : ByteArray) (hne : t.size ≠ 0) (hmax : t.size ≤ 9223372036854775806) (w : World) :
    Calls Tryd.prog 88 #[.string t, .int .i64 10, .int .i64 0] w fun e w' => e = .returned (Lib.uintTuple 96 (Lib.parseUint10 0 t.data.toList)) ∧ w' = Lib.bytesWorld w 5 t := Any.internal_strconv_ParseUint_10 Tryd.lays287 t hne hmax w
open Go.RowKit in
/-- internal/strconv.ParseUint("", 10, 0): (0, ErrSyntax). The world is as it was. (LAID: no walk: one application.) -/
theorem Tryd.internal_strconv_ParseUint_10_empty (w : World) :
    Calls Tryd.prog 88 #[.string ⟨#[]⟩, .int .i64 10, .int .i64 0] w fun e w' => e = .returned (Lib.uintTuple 96 Lib.NumEnd.syntax) ∧ w' = w := Any.internal_strconv_ParseUint_10_empty Tryd.lays287 w
open Go.RowKit in
/-- internal/strconv.ParseUint(s, 10, 0): 'Lib.parseMag' OF ITS BYTES. The world: as it was (the empty string), or with the one new row that '[]byte(s)' lays. (LAID: no walk: one application.) -/
theorem Tryd.internal_strconv_ParseUint_10_any (t : ByteArray) (hmax : t.size ≤ 9223372036854775806) (w : World) :
    Calls Tryd.prog 88 #[.string t, .int .i64 10, .int .i64 0] w fun e w' => e = .returned (Lib.uintTuple 96 (Lib.parseMag t.data.toList)) ∧ (w' = w ∨ w' = Lib.bytesWorld w 5 t) := Any.internal_strconv_ParseUint_10_any Tryd.lays287 t hmax w
def Tryd.laysC247_ren : Go.Shelf.Ren := ⟨fun | 247 => 75 | 287 => 88 | 321 => 97 | 322 => 98 | n => n, fun | 9 => 9 | 3 => 3 | 2 => 2 | 75 => 60 | 4 => 4 | 167 => 96 | 5 => 5 | 53 => 65 | 175 => 110 | 46 => 107 | 37 => 42 | 0 => 0 | 21 => 21 | 80 => 47 | n => n, fun | n => n⟩
theorem Tryd.laysC247 : Go.Proofs.LaysC.n247 Tryd.prog Tryd.laysC247_ren := {
  mixed := by kernel_rfl
  f247 := Tryd.func75.trans (congrArg some (by kernel_rfl))
  f287 := Tryd.func88.trans (congrArg some (by kernel_rfl))
  f321 := Tryd.func97.trans (congrArg some (by kernel_rfl))
  f322 := Tryd.func98.trans (congrArg some (by kernel_rfl))
  t0 := Tryd.underlying0
  a0 := Tryd.isAgg0
  z0 := Tryd.sizeOf0
  v0 := Tryd.zeroValue0
  t2 := Tryd.underlying2
  a2 := Tryd.isAgg2
  z2 := Tryd.sizeOf2
  v2 := Tryd.zeroValue2
  t3 := Tryd.underlying3
  a3 := Tryd.isAgg3
  z3 := Tryd.sizeOf3
  v3 := Tryd.zeroValue3
  t4 := Tryd.underlying4
  a4 := Tryd.isAgg4
  z4 := Tryd.sizeOf4
  v4 := Tryd.zeroValue4
  t5 := Tryd.underlying5
  a5 := Tryd.isAgg5
  z5 := Tryd.sizeOf5
  v5 := Tryd.zeroValue5
  t9 := Tryd.underlying9
  a9 := Tryd.isAgg9
  z9 := Tryd.sizeOf9
  v9 := Tryd.zeroValue9
  t21 := Tryd.underlying21
  a21 := Tryd.isAgg21
  z21 := Tryd.sizeOf21
  v21 := Tryd.zeroValue21
  t37 := Tryd.underlying42
  a37 := Tryd.isAgg42
  z37 := Tryd.sizeOf42
  v37 := Tryd.zeroValue42
  t46 := Tryd.underlying107
  a46 := Tryd.isAgg107
  z46 := Tryd.sizeOf107
  v46 := Tryd.zeroValue107
  t53 := Tryd.underlying65
  a53 := Tryd.isAgg65
  z53 := Tryd.sizeOf65
  v53 := Tryd.zeroValue65
  t75 := Tryd.underlying60
  a75 := Tryd.isAgg60
  z75 := Tryd.sizeOf60
  v75 := Tryd.zeroValue60
  t167 := Tryd.underlying96
  a167 := Tryd.isAgg96
  z167 := Tryd.sizeOf96
  v167 := Tryd.zeroValue96
  t175 := Tryd.underlying110
  a175 := Tryd.isAgg110
  z175 := Tryd.sizeOf110
  v175 := Tryd.zeroValue110
  t80 := Tryd.underlying47
  a80 := Tryd.isAgg47
  z80 := Tryd.sizeOf47
  v80 := Tryd.zeroValue47
  i0 := by kernel_rfl
  i2 := by kernel_rfl
  i3 := by kernel_rfl
  i4 := by kernel_rfl
  i5 := by kernel_rfl
  i9 := by kernel_rfl
  i21 := by kernel_rfl
  i37 := by kernel_rfl
  i46 := by kernel_rfl
  i53 := by kernel_rfl
  i75 := by kernel_rfl
  i80 := by kernel_rfl
  i167 := by kernel_rfl
  i175 := by kernel_rfl
  c0 := by kernel_rfl
  c2 := by kernel_rfl
  c3 := by kernel_rfl
  c4 := by kernel_rfl
  c5 := by kernel_rfl
  c9 := by kernel_rfl
  c21 := by kernel_rfl
  c37 := by kernel_rfl
  c46 := by kernel_rfl
  c53 := by kernel_rfl
  c75 := by kernel_rfl
  c80 := by kernel_rfl
  c167 := by kernel_rfl
  c175 := by kernel_rfl }
open Go.RowKit in
/-- internal/strconv.ParseInt(s, 10, 0), s NOT EMPTY: 'Lib.atoiAll' OF ITS BYTES: (the number, nil); (0, ErrSyntax); (the greatest or the least int64 by the sign, ErrRange). The world: as it was, or with the one new row that '[]byte(..)' lays. (LAID: no walk: one application.) -/
theorem Tryd.internal_strconv_ParseInt_10 (s : ByteArray) (hne : s.size ≠ 0) (hmax : s.size ≤ 9223372036854775806) (w : World) :
    Calls Tryd.prog 75 #[.string s, .int .i64 10, .int .i64 0] w fun e w' => e = .returned (Lib.intTuple 96 (Lib.atoiSat s.data.toList) (Lib.atoiAll s.data.toList)) ∧ (w' = w ∨ ∃ t, w' = Lib.bytesWorld w 5 t) := Any.internal_strconv_ParseInt_10 Tryd.laysC247 s hne hmax w
def Tryd.laysC244_ren : Go.Shelf.Ren := ⟨fun | 244 => 64 | 247 => 75 | 287 => 88 | 321 => 97 | 322 => 98 | n => n, fun | 9 => 9 | 3 => 3 | 75 => 60 | 4 => 4 | 5 => 5 | 167 => 96 | 37 => 42 | 0 => 0 | 85 => 97 | 2 => 2 | 53 => 65 | 175 => 110 | 46 => 107 | 21 => 21 | 80 => 47 | n => n, fun | n => n⟩
theorem Tryd.laysC244 : Go.Proofs.LaysC.n244 Tryd.prog Tryd.laysC244_ren := {
  mixed := by kernel_rfl
  f244 := Tryd.func64.trans (congrArg some (by kernel_rfl))
  f247 := Tryd.func75.trans (congrArg some (by kernel_rfl))
  f287 := Tryd.func88.trans (congrArg some (by kernel_rfl))
  f321 := Tryd.func97.trans (congrArg some (by kernel_rfl))
  f322 := Tryd.func98.trans (congrArg some (by kernel_rfl))
  t0 := Tryd.underlying0
  a0 := Tryd.isAgg0
  z0 := Tryd.sizeOf0
  v0 := Tryd.zeroValue0
  t2 := Tryd.underlying2
  a2 := Tryd.isAgg2
  z2 := Tryd.sizeOf2
  v2 := Tryd.zeroValue2
  t3 := Tryd.underlying3
  a3 := Tryd.isAgg3
  z3 := Tryd.sizeOf3
  v3 := Tryd.zeroValue3
  t4 := Tryd.underlying4
  a4 := Tryd.isAgg4
  z4 := Tryd.sizeOf4
  v4 := Tryd.zeroValue4
  t5 := Tryd.underlying5
  a5 := Tryd.isAgg5
  z5 := Tryd.sizeOf5
  v5 := Tryd.zeroValue5
  t9 := Tryd.underlying9
  a9 := Tryd.isAgg9
  z9 := Tryd.sizeOf9
  v9 := Tryd.zeroValue9
  t21 := Tryd.underlying21
  a21 := Tryd.isAgg21
  z21 := Tryd.sizeOf21
  v21 := Tryd.zeroValue21
  t37 := Tryd.underlying42
  a37 := Tryd.isAgg42
  z37 := Tryd.sizeOf42
  v37 := Tryd.zeroValue42
  t46 := Tryd.underlying107
  a46 := Tryd.isAgg107
  z46 := Tryd.sizeOf107
  v46 := Tryd.zeroValue107
  t53 := Tryd.underlying65
  a53 := Tryd.isAgg65
  z53 := Tryd.sizeOf65
  v53 := Tryd.zeroValue65
  t75 := Tryd.underlying60
  a75 := Tryd.isAgg60
  z75 := Tryd.sizeOf60
  v75 := Tryd.zeroValue60
  t85 := Tryd.underlying97
  a85 := Tryd.isAgg97
  z85 := Tryd.sizeOf97
  v85 := Tryd.zeroValue97
  t167 := Tryd.underlying96
  a167 := Tryd.isAgg96
  z167 := Tryd.sizeOf96
  v167 := Tryd.zeroValue96
  t175 := Tryd.underlying110
  a175 := Tryd.isAgg110
  z175 := Tryd.sizeOf110
  v175 := Tryd.zeroValue110
  t80 := Tryd.underlying47
  a80 := Tryd.isAgg47
  z80 := Tryd.sizeOf47
  v80 := Tryd.zeroValue47
  i0 := by kernel_rfl
  i2 := by kernel_rfl
  i3 := by kernel_rfl
  i4 := by kernel_rfl
  i5 := by kernel_rfl
  i9 := by kernel_rfl
  i21 := by kernel_rfl
  i37 := by kernel_rfl
  i46 := by kernel_rfl
  i53 := by kernel_rfl
  i75 := by kernel_rfl
  i80 := by kernel_rfl
  i85 := by kernel_rfl
  i167 := by kernel_rfl
  i175 := by kernel_rfl
  c0 := by kernel_rfl
  c2 := by kernel_rfl
  c3 := by kernel_rfl
  c4 := by kernel_rfl
  c5 := by kernel_rfl
  c9 := by kernel_rfl
  c21 := by kernel_rfl
  c37 := by kernel_rfl
  c46 := by kernel_rfl
  c53 := by kernel_rfl
  c75 := by kernel_rfl
  c80 := by kernel_rfl
  c85 := by kernel_rfl
  c167 := by kernel_rfl
  c175 := by kernel_rfl }
open Go.RowKit in
/-- internal/strconv.Atoi, AT EVERY STRING OF 19 BYTES OR MORE: 'Lib.atoiAll' OF ITS BYTES: (the number, nil); (0, ErrSyntax); (the greatest or the least int by the sign, ErrRange). (LAID: no walk: one application.) -/
theorem Tryd.internal_strconv_Atoi_long (s : ByteArray) (h19 : 19 ≤ s.size) (hmax : s.size ≤ 9223372036854775806) (w : World) :
    Calls Tryd.prog 64 #[.string s] w fun e w' => e = .returned (Lib.intTuple 96 (Lib.atoiSat s.data.toList) (Lib.atoiAll s.data.toList)) ∧ (w' = w ∨ ∃ t, w' = Lib.bytesWorld w 5 t) := Any.internal_strconv_Atoi_long Tryd.laysC244 s h19 hmax w
open Go.RowKit in
/-- internal/strconv.Atoi, AT EVERY STRING: 'Lib.atoiAll' OF ITS BYTES: (the number, nil); (0, ErrSyntax); (the greatest or the least int by the sign, ErrRange). The world: as it was, or with the one new row that '[]byte(..)' lays. (LAID: no walk: one application.) -/
theorem Tryd.internal_strconv_Atoi_all (s : ByteArray) (hmax : s.size ≤ 9223372036854775806) (w : World) :
    Calls Tryd.prog 64 #[.string s] w fun e w' => e = .returned (Lib.intTuple 96 (Lib.atoiSat s.data.toList) (Lib.atoiAll s.data.toList)) ∧ (w' = w ∨ ∃ t, w' = Lib.bytesWorld w 5 t) := Any.internal_strconv_Atoi_all Tryd.laysC244 s hmax w
def Tryd.laysM280_ren : Go.Shelf.Ren := ⟨fun | 280 => 77 | 316 => 89 | n => n, fun | 9 => 9 | 168 => 99 | 75 => 60 | 210 => 114 | 3 => 3 | 4 => 4 | 37 => 42 | 0 => 0 | 127 => 64 | 80 => 47 | 5 => 5 | n => n, fun | 16 => 2 | n => n⟩
theorem Tryd.laysM280 : Go.Proofs.LaysM.n280 Tryd.prog Tryd.laysM280_ren := {
  mixed := by kernel_rfl
  f280 := Tryd.func77.trans (congrArg some (by kernel_rfl))
  f316 := Tryd.func89.trans (congrArg some (by kernel_rfl))
  t0 := Tryd.underlying0
  a0 := Tryd.isAgg0
  z0 := Tryd.sizeOf0
  v0 := Tryd.zeroValue0
  t3 := Tryd.underlying3
  a3 := Tryd.isAgg3
  z3 := Tryd.sizeOf3
  v3 := Tryd.zeroValue3
  t4 := Tryd.underlying4
  a4 := Tryd.isAgg4
  z4 := Tryd.sizeOf4
  v4 := Tryd.zeroValue4
  t9 := Tryd.underlying9
  a9 := Tryd.isAgg9
  z9 := Tryd.sizeOf9
  v9 := Tryd.zeroValue9
  t37 := Tryd.underlying42
  a37 := Tryd.isAgg42
  z37 := Tryd.sizeOf42
  v37 := Tryd.zeroValue42
  t75 := Tryd.underlying60
  a75 := Tryd.isAgg60
  z75 := Tryd.sizeOf60
  v75 := Tryd.zeroValue60
  t127 := Tryd.underlying64
  a127 := Tryd.isAgg64
  z127 := Tryd.sizeOf64
  v127 := Tryd.zeroValue64
  t168 := Tryd.underlying99
  a168 := Tryd.isAgg99
  z168 := Tryd.sizeOf99
  v168 := Tryd.zeroValue99
  t210 := Tryd.underlying114
  a210 := Tryd.isAgg114
  z210 := Tryd.sizeOf114
  v210 := Tryd.zeroValue114
  g16 := by kernel_rfl
  t5 := Tryd.underlying5
  a5 := Tryd.isAgg5
  z5 := Tryd.sizeOf5
  v5 := Tryd.zeroValue5
  t80 := Tryd.underlying47
  a80 := Tryd.isAgg47
  z80 := Tryd.sizeOf47
  v80 := Tryd.zeroValue47
  i0 := by kernel_rfl
  i3 := by kernel_rfl
  i4 := by kernel_rfl
  i5 := by kernel_rfl
  i9 := by kernel_rfl
  i37 := by kernel_rfl
  i75 := by kernel_rfl
  i80 := by kernel_rfl
  i127 := by kernel_rfl
  i168 := by kernel_rfl
  i210 := by kernel_rfl
  m16 := by kernel_rfl }
open Go.RowKit in
/-- strconv.rangeError: '&NumError{fn, stringslite.Clone(str), ErrRange}': A POINTER TO A NEW BLOCK that holds fn, str's bytes, and what the variable ErrRange holds. Of what was there nothing has turned. (LAID: no walk: one application.) -/
theorem Tryd.strconv_rangeError (fn s : ByteArray) (ev : Value) (w : World) (hlim : s.size ≤ 281474976710656) (hv : w.cell? ⟨2, 0, none⟩ = some ev) (hev : ev = .nilIface ∨ ∃ te pe, ev = .iface te pe) :
    Calls Tryd.prog 77 #[.string fn, .string s] w fun e w' => ∃ N, e = .returned (.pointer (some ⟨N, 0, none⟩)) ∧ w.heap.size ≤ N ∧ w'.heap[N]? = some (.cells #[.string fn, .string s, ev] 114 (0, 0)) ∧ Below w.heap.size w w' := Any.strconv_rangeError Tryd.laysM280 fn s ev w hlim hv hev
open Go.RowKit in
/-- strconv.toError, at the inner package's ErrRange: 'rangeError(fn, s)' as an error: A *NumError IN A NEW BLOCK. (LAID: no walk: one application.) -/
theorem Tryd.strconv_toError_range (fn s : ByteArray) (base bits : Int) (ev : Value) (w : World) (hlim : s.size ≤ 281474976710656) (hv : w.cell? ⟨2, 0, none⟩ = some ev) (hev : ev = .nilIface ∨ ∃ te pe, ev = .iface te pe) :
    Calls Tryd.prog 65 #[.string fn, .string s, .int .i64 base, .int .i64 bits, .iface 96 (.int .i64 1)] w fun e w' => ∃ N, e = .returned (.iface 99 (.pointer (some ⟨N, 0, none⟩))) ∧ w.heap.size ≤ N ∧ w'.heap[N]? = some (.cells #[.string fn, .string s, ev] 114 (0, 0)) ∧ Below w.heap.size w w' := Any.strconv_toError_range Tryd.laysC245 fn s base bits ev w hlim hv hev
def Tryd.laysC172_ren : Go.Shelf.Ren := ⟨fun | 172 => 53 | 244 => 64 | 245 => 65 | 247 => 75 | 279 => 76 | 280 => 77 | 281 => 78 | 282 => 79 | 287 => 88 | 316 => 89 | 171 => 40 | 205 => 90 | 321 => 97 | 322 => 98 | 243 => 46 | 246 => 54 | 283 => 66 | 284 => 67 | 285 => 68 | 286 => 69 | 129 => 81 | 317 => 80 | 318 => 82 | 319 => 83 | 320 => 84 | 337 => 91 | 338 => 92 | n => n, fun | 9 => 9 | 3 => 3 | 75 => 60 | 76 => 62 | 4 => 4 | 5 => 5 | 167 => 96 | 37 => 42 | 0 => 0 | 85 => 97 | 2 => 2 | 168 => 99 | 53 => 65 | 175 => 110 | 46 => 107 | 210 => 114 | 127 => 64 | 145 => 125 | 143 => 123 | 21 => 21 | 171 => 87 | 173 => 90 | 212 => 104 | 51 => 105 | 20 => 20 | 213 => 106 | 232 => 126 | 233 => 127 | 80 => 47 | n => n, fun | 15 => 1 | 16 => 2 | 17 => 0 | 18 => 5 | 19 => 6 | n => n⟩
theorem Tryd.laysC172 : Go.Proofs.LaysC.n172 Tryd.prog Tryd.laysC172_ren := {
  mixed := by kernel_rfl
  f129 := Tryd.func81.trans (congrArg some (by kernel_rfl))
  f171 := Tryd.func40.trans (congrArg some (by kernel_rfl))
  f172 := Tryd.func53.trans (congrArg some (by kernel_rfl))
  f205 := Tryd.func90.trans (congrArg some (by kernel_rfl))
  f243 := Tryd.func46.trans (congrArg some (by kernel_rfl))
  f244 := Tryd.func64.trans (congrArg some (by kernel_rfl))
  f245 := Tryd.func65.trans (congrArg some (by kernel_rfl))
  f246 := Tryd.func54.trans (congrArg some (by kernel_rfl))
  f247 := Tryd.func75.trans (congrArg some (by kernel_rfl))
  f279 := Tryd.func76.trans (congrArg some (by kernel_rfl))
  f280 := Tryd.func77.trans (congrArg some (by kernel_rfl))
  f281 := Tryd.func78.trans (congrArg some (by kernel_rfl))
  f282 := Tryd.func79.trans (congrArg some (by kernel_rfl))
  f283 := Tryd.func66.trans (congrArg some (by kernel_rfl))
  f284 := Tryd.func67.trans (congrArg some (by kernel_rfl))
  f285 := Tryd.func68.trans (congrArg some (by kernel_rfl))
  f286 := Tryd.func69.trans (congrArg some (by kernel_rfl))
  f287 := Tryd.func88.trans (congrArg some (by kernel_rfl))
  f316 := Tryd.func89.trans (congrArg some (by kernel_rfl))
  f317 := Tryd.func80.trans (congrArg some (by kernel_rfl))
  f318 := Tryd.func82.trans (congrArg some (by kernel_rfl))
  f319 := Tryd.func83.trans (congrArg some (by kernel_rfl))
  f320 := Tryd.func84.trans (congrArg some (by kernel_rfl))
  f321 := Tryd.func97.trans (congrArg some (by kernel_rfl))
  f322 := Tryd.func98.trans (congrArg some (by kernel_rfl))
  f337 := Tryd.func91.trans (congrArg some (by kernel_rfl))
  f338 := Tryd.func92.trans (congrArg some (by kernel_rfl))
  t0 := Tryd.underlying0
  a0 := Tryd.isAgg0
  z0 := Tryd.sizeOf0
  v0 := Tryd.zeroValue0
  t2 := Tryd.underlying2
  a2 := Tryd.isAgg2
  z2 := Tryd.sizeOf2
  v2 := Tryd.zeroValue2
  t3 := Tryd.underlying3
  a3 := Tryd.isAgg3
  z3 := Tryd.sizeOf3
  v3 := Tryd.zeroValue3
  t4 := Tryd.underlying4
  a4 := Tryd.isAgg4
  z4 := Tryd.sizeOf4
  v4 := Tryd.zeroValue4
  t5 := Tryd.underlying5
  a5 := Tryd.isAgg5
  z5 := Tryd.sizeOf5
  v5 := Tryd.zeroValue5
  t9 := Tryd.underlying9
  a9 := Tryd.isAgg9
  z9 := Tryd.sizeOf9
  v9 := Tryd.zeroValue9
  t20 := Tryd.underlying20
  a20 := Tryd.isAgg20
  z20 := Tryd.sizeOf20
  v20 := Tryd.zeroValue20
  t21 := Tryd.underlying21
  a21 := Tryd.isAgg21
  z21 := Tryd.sizeOf21
  v21 := Tryd.zeroValue21
  t37 := Tryd.underlying42
  a37 := Tryd.isAgg42
  z37 := Tryd.sizeOf42
  v37 := Tryd.zeroValue42
  t46 := Tryd.underlying107
  a46 := Tryd.isAgg107
  z46 := Tryd.sizeOf107
  v46 := Tryd.zeroValue107
  t51 := Tryd.underlying105
  a51 := Tryd.isAgg105
  z51 := Tryd.sizeOf105
  v51 := Tryd.zeroValue105
  t53 := Tryd.underlying65
  a53 := Tryd.isAgg65
  z53 := Tryd.sizeOf65
  v53 := Tryd.zeroValue65
  t75 := Tryd.underlying60
  a75 := Tryd.isAgg60
  z75 := Tryd.sizeOf60
  v75 := Tryd.zeroValue60
  t76 := Tryd.underlying62
  a76 := Tryd.isAgg62
  z76 := Tryd.sizeOf62
  v76 := Tryd.zeroValue62
  t85 := Tryd.underlying97
  a85 := Tryd.isAgg97
  z85 := Tryd.sizeOf97
  v85 := Tryd.zeroValue97
  t127 := Tryd.underlying64
  a127 := Tryd.isAgg64
  z127 := Tryd.sizeOf64
  v127 := Tryd.zeroValue64
  t143 := Tryd.underlying123
  a143 := Tryd.isAgg123
  z143 := Tryd.sizeOf123
  v143 := Tryd.zeroValue123
  t145 := Tryd.underlying125
  a145 := Tryd.isAgg125
  z145 := Tryd.sizeOf125
  v145 := Tryd.zeroValue125
  t167 := Tryd.underlying96
  a167 := Tryd.isAgg96
  z167 := Tryd.sizeOf96
  v167 := Tryd.zeroValue96
  t168 := Tryd.underlying99
  a168 := Tryd.isAgg99
  z168 := Tryd.sizeOf99
  v168 := Tryd.zeroValue99
  t171 := Tryd.underlying87
  a171 := Tryd.isAgg87
  z171 := Tryd.sizeOf87
  v171 := Tryd.zeroValue87
  t173 := Tryd.underlying90
  a173 := Tryd.isAgg90
  z173 := Tryd.sizeOf90
  v173 := Tryd.zeroValue90
  t175 := Tryd.underlying110
  a175 := Tryd.isAgg110
  z175 := Tryd.sizeOf110
  v175 := Tryd.zeroValue110
  t210 := Tryd.underlying114
  a210 := Tryd.isAgg114
  z210 := Tryd.sizeOf114
  v210 := Tryd.zeroValue114
  t212 := Tryd.underlying104
  a212 := Tryd.isAgg104
  z212 := Tryd.sizeOf104
  v212 := Tryd.zeroValue104
  t213 := Tryd.underlying106
  a213 := Tryd.isAgg106
  z213 := Tryd.sizeOf106
  t232 := Tryd.underlying126
  a232 := Tryd.isAgg126
  z232 := Tryd.sizeOf126
  v232 := Tryd.zeroValue126
  t233 := Tryd.underlying127
  a233 := Tryd.isAgg127
  z233 := Tryd.sizeOf127
  v233 := Tryd.zeroValue127
  g15 := by kernel_rfl
  g16 := by kernel_rfl
  g17 := by kernel_rfl
  g18 := by kernel_rfl
  g19 := by kernel_rfl
  t80 := Tryd.underlying47
  a80 := Tryd.isAgg47
  z80 := Tryd.sizeOf47
  v80 := Tryd.zeroValue47
  i0 := by kernel_rfl
  i2 := by kernel_rfl
  i3 := by kernel_rfl
  i4 := by kernel_rfl
  i5 := by kernel_rfl
  i9 := by kernel_rfl
  i20 := by kernel_rfl
  i21 := by kernel_rfl
  i37 := by kernel_rfl
  i46 := by kernel_rfl
  i51 := by kernel_rfl
  i53 := by kernel_rfl
  i75 := by kernel_rfl
  i76 := by kernel_rfl
  i80 := by kernel_rfl
  i85 := by kernel_rfl
  i127 := by kernel_rfl
  i143 := by kernel_rfl
  i145 := by kernel_rfl
  i167 := by kernel_rfl
  i168 := by kernel_rfl
  i171 := by kernel_rfl
  i173 := by kernel_rfl
  i175 := by kernel_rfl
  i210 := by kernel_rfl
  i212 := by kernel_rfl
  i232 := by kernel_rfl
  i233 := by kernel_rfl
  m15 := by kernel_rfl
  m16 := by kernel_rfl
  m17 := by kernel_rfl
  m18 := by kernel_rfl
  m19 := by kernel_rfl
  c0 := by kernel_rfl
  c2 := by kernel_rfl
  c3 := by kernel_rfl
  c4 := by kernel_rfl
  c5 := by kernel_rfl
  c9 := by kernel_rfl
  c20 := by kernel_rfl
  c21 := by kernel_rfl
  c37 := by kernel_rfl
  c46 := by kernel_rfl
  c51 := by kernel_rfl
  c53 := by kernel_rfl
  c75 := by kernel_rfl
  c76 := by kernel_rfl
  c80 := by kernel_rfl
  c85 := by kernel_rfl
  c127 := by kernel_rfl
  c143 := by kernel_rfl
  c145 := by kernel_rfl
  c167 := by kernel_rfl
  c168 := by kernel_rfl
  c171 := by kernel_rfl
  c173 := by kernel_rfl
  c175 := by kernel_rfl
  c210 := by kernel_rfl
  c212 := by kernel_rfl
  c213 := by kernel_rfl
  c232 := by kernel_rfl
  c233 := by kernel_rfl }
open Go.RowKit in
/-- strconv.Atoi, AT EVERY STRING THAT SPELLS AN int ('Lib.atoiAll .. = .ok v'; of whatever length: leading zeros count): v, AND NO ERROR. The world: as it was, or with the one new row that '[]byte(..)' lays. (LAID: no walk: one application.) -/
theorem Tryd.strconv_Atoi_ok (s : ByteArray) (hmax : s.size ≤ 9223372036854775806) (v : Int) (h : Lib.atoiAll s.data.toList = .ok v) (w : World) :
    Calls Tryd.prog 53 #[.string s] w fun e w' => e = .returned (.tuple #[.int .i64 v, .nilIface]) ∧ (w' = w ∨ ∃ t, w' = Lib.bytesWorld w 5 t) := Any.strconv_Atoi_ok Tryd.laysC172 s hmax v h w
open Go.RowKit in
/-- strconv.Atoi, AT EVERY STRING THAT IS NO DECIMAL NUMERAL ('.syntax'): 0, AND AN ERROR THAT IS NOT nil: a *NumError in a new block N: {Func: "Atoi", Num: s's bytes, Err: what the variable ErrSyntax holds}. Of what was there nothing has turned. (LAID: no walk: one application.) -/
theorem Tryd.strconv_Atoi_syntax (s : ByteArray) (hlim : s.size ≤ 281474976710656) (h : Lib.atoiAll s.data.toList = Lib.NumEnd.syntax) (ev : Value) (w : World) (hv : w.cell? ⟨1, 0, none⟩ = some ev) (hev : ev = .nilIface ∨ ∃ te pe, ev = .iface te pe) :
    Calls Tryd.prog 53 #[.string s] w fun e w' => ∃ N, e = .returned (.tuple #[.int .i64 (0), .iface 99 (.pointer (some ⟨N, 0, none⟩))]) ∧ w.heap.size ≤ N ∧ w'.heap[N]? = some (.cells #[.string ⟨#[65, 116, 111, 105]⟩, .string s, ev] 114 (0, 0)) ∧ Below w.heap.size w w' := Any.strconv_Atoi_syntax Tryd.laysC172 s hlim h ev w hv hev
open Go.RowKit in
/-- strconv.Atoi, AT EVERY NUMERAL THAT NO int HOLDS ('.range'): THE GREATEST OR THE LEAST int, BY THE SIGN ('Lib.atoiSat'), AND AN ERROR THAT IS NOT nil: a *NumError in a new block N: {Func: "Atoi", Num: s's bytes, Err: what the variable ErrRange holds}. Of what was there nothing has turned. (LAID: no walk: one application.) -/
theorem Tryd.strconv_Atoi_range (s : ByteArray) (hlim : s.size ≤ 281474976710656) (h : Lib.atoiAll s.data.toList = .range) (ev : Value) (w : World) (hv : w.cell? ⟨2, 0, none⟩ = some ev) (hev : ev = .nilIface ∨ ∃ te pe, ev = .iface te pe) :
    Calls Tryd.prog 53 #[.string s] w fun e w' => ∃ N, e = .returned (.tuple #[.int .i64 (Lib.atoiSat s.data.toList), .iface 99 (.pointer (some ⟨N, 0, none⟩))]) ∧ w.heap.size ≤ N ∧ w'.heap[N]? = some (.cells #[.string ⟨#[65, 116, 111, 105]⟩, .string s, ev] 114 (0, 0)) ∧ Below w.heap.size w w' := Any.strconv_Atoi_range Tryd.laysC172 s hlim h ev w hv hev
def Tryd.lays217_ren : Go.Shelf.Ren := ⟨fun | 217 => 99 | 266 => 100 | n => n, fun | 9 => 9 | 5 => 5 | 3 => 3 | n => n, fun | n => n⟩
theorem Tryd.lays217 : Go.Proofs.Lays.n217 Tryd.prog Tryd.lays217_ren := {
  mixed := by kernel_rfl
  f217 := Tryd.func99.trans (congrArg some (by kernel_rfl))
  f266 := Tryd.func100.trans (congrArg some (by kernel_rfl))
  t3 := Tryd.underlying3
  a3 := Tryd.isAgg3
  z3 := Tryd.sizeOf3
  v3 := Tryd.zeroValue3
  t5 := Tryd.underlying5
  a5 := Tryd.isAgg5
  z5 := Tryd.sizeOf5
  v5 := Tryd.zeroValue5
  t9 := Tryd.underlying9
  a9 := Tryd.isAgg9
  z9 := Tryd.sizeOf9
  v9 := Tryd.zeroValue9 }
open Go.RowKit Go.Lib in
/-- internal/stringslite.IndexByte (what strings.IndexByte calls): IT RETURNS 'Lib.indexByte s c'; the world is as it was. (LAID: no walk: one application.) -/
theorem Tryd.stringslite_IndexByte (s : ByteArray) (c : Int) (w : World) :
    Calls Tryd.prog 99 #[.string s, .int .u8 c] w fun e w' => e = .returned (.int .i64 (Lib.indexByte s.data.toList c.toNat.toUInt8)) ∧ w' = w := Any.stringslite_IndexByte Tryd.lays217 s c w
def Tryd.lays224_ren : Go.Shelf.Ren := ⟨fun | 224 => 95 | n => n, fun | 3 => 3 | n => n, fun | n => n⟩
theorem Tryd.lays224 : Go.Proofs.Lays.n224 Tryd.prog Tryd.lays224_ren := {
  mixed := by kernel_rfl
  f224 := Tryd.func95.trans (congrArg some (by kernel_rfl))
  t3 := Tryd.underlying3
  a3 := Tryd.isAgg3
  z3 := Tryd.sizeOf3
  v3 := Tryd.zeroValue3 }
open Go.RowKit Go.Lib in
/-- internal/bytealg.Cutover: "Cutover reports the number of failures of IndexByte we should tolerate before switching over to Index. n is the number of bytes processed so far.": on amd64: (n + 16) / 8. (LAID: no walk: one application.) -/
theorem Tryd.bytealg_Cutover (n : Int) (h0 : 0 ≤ n) (h1 : n < 4611686018427387904) (w : World) :
    Calls Tryd.prog 95 #[.int .i64 n] w fun e w' => e = .returned (.int .i64 ((n + 16) / 8)) ∧ w' = w := Any.bytealg_Cutover Tryd.lays224 n h0 h1 w
def Tryd.lays206_ren : Go.Shelf.Ren := ⟨fun | 206 => 70 | n => n, fun | 9 => 9 | 4 => 4 | 3 => 3 | n => n, fun | n => n⟩
theorem Tryd.lays206 : Go.Proofs.Lays.n206 Tryd.prog Tryd.lays206_ren := {
  mixed := by kernel_rfl
  f206 := Tryd.func70.trans (congrArg some (by kernel_rfl))
  t3 := Tryd.underlying3
  a3 := Tryd.isAgg3
  z3 := Tryd.sizeOf3
  v3 := Tryd.zeroValue3
  t4 := Tryd.underlying4
  a4 := Tryd.isAgg4
  z4 := Tryd.sizeOf4
  v4 := Tryd.zeroValue4
  t9 := Tryd.underlying9
  a9 := Tryd.isAgg9
  z9 := Tryd.sizeOf9
  v9 := Tryd.zeroValue9 }
open Go.RowKit Go.Lib in
/-- internal/stringslite.HasPrefix (what strings.HasPrefix calls). (LAID: no walk: one application.) -/
theorem Tryd.stringslite_HasPrefix (s p : ByteArray) (w : World) :
    Calls Tryd.prog 70 #[.string s, .string p] w fun e w' => e = .returned (.bool (Lib.hasPrefix s.data.toList p.data.toList)) ∧ w' = w := Any.stringslite_HasPrefix Tryd.lays206 s p w
def Tryd.lays208_ren : Go.Shelf.Ren := ⟨fun | 208 => 56 | 206 => 70 | n => n, fun | 9 => 9 | 4 => 4 | 3 => 3 | n => n, fun | n => n⟩
theorem Tryd.lays208 : Go.Proofs.Lays.n208 Tryd.prog Tryd.lays208_ren := {
  mixed := by kernel_rfl
  f206 := Tryd.func70.trans (congrArg some (by kernel_rfl))
  f208 := Tryd.func56.trans (congrArg some (by kernel_rfl))
  t3 := Tryd.underlying3
  a3 := Tryd.isAgg3
  z3 := Tryd.sizeOf3
  v3 := Tryd.zeroValue3
  t4 := Tryd.underlying4
  a4 := Tryd.isAgg4
  z4 := Tryd.sizeOf4
  v4 := Tryd.zeroValue4
  t9 := Tryd.underlying9
  a9 := Tryd.isAgg9
  z9 := Tryd.sizeOf9
  v9 := Tryd.zeroValue9 }
open Go.RowKit Go.Lib in
/-- internal/stringslite.TrimPrefix (what strings.TrimPrefix calls). (LAID: no walk: one application.) -/
theorem Tryd.stringslite_TrimPrefix (s p : ByteArray) (w : World) :
    Calls Tryd.prog 56 #[.string s, .string p] w fun e w' => e = .returned (.string ⟨(Lib.trimPrefix s.data.toList p.data.toList).toArray⟩) ∧ w' = w := Any.stringslite_TrimPrefix Tryd.lays208 s p w
def Tryd.lays101_ren : Go.Shelf.Ren := ⟨fun | 101 => 51 | 208 => 56 | 206 => 70 | n => n, fun | 9 => 9 | 4 => 4 | 3 => 3 | n => n, fun | n => n⟩
theorem Tryd.lays101 : Go.Proofs.Lays.n101 Tryd.prog Tryd.lays101_ren := {
  mixed := by kernel_rfl
  f101 := Tryd.func51.trans (congrArg some (by kernel_rfl))
  f206 := Tryd.func70.trans (congrArg some (by kernel_rfl))
  f208 := Tryd.func56.trans (congrArg some (by kernel_rfl))
  t3 := Tryd.underlying3
  a3 := Tryd.isAgg3
  z3 := Tryd.sizeOf3
  v3 := Tryd.zeroValue3
  t4 := Tryd.underlying4
  a4 := Tryd.isAgg4
  z4 := Tryd.sizeOf4
  v4 := Tryd.zeroValue4
  t9 := Tryd.underlying9
  a9 := Tryd.isAgg9
  z9 := Tryd.sizeOf9
  v9 := Tryd.zeroValue9 }
open Go.RowKit Go.Lib in
/-- strings.TrimPrefix: "TrimPrefix returns s without the provided leading prefix string. If s doesn't start with prefix, s is returned unchanged.": IT RETURNS 'Lib.trimPrefix s prefix'; the world is as it was. (LAID: no walk: one application.) -/
theorem Tryd.strings_TrimPrefix (s p : ByteArray) (w : World) :
    Calls Tryd.prog 51 #[.string s, .string p] w fun e w' => e = .returned (.string ⟨(Lib.trimPrefix s.data.toList p.data.toList).toArray⟩) ∧ w' = w := Any.strings_TrimPrefix Tryd.lays101 s p w
def Tryd.lays152_ren : Go.Shelf.Ren := ⟨fun | 152 => 86 | 137 => 93 | 119 => 94 | 224 => 95 | 225 => 96 | 217 => 99 | 266 => 100 | n => n, fun | 9 => 9 | 21 => 21 | 3 => 3 | 4 => 4 | 5 => 5 | 0 => 0 | 46 => 107 | n => n, fun | n => n⟩
theorem Tryd.lays152 : Go.Proofs.Lays.n152 Tryd.prog Tryd.lays152_ren := {
  mixed := by kernel_rfl
  f119 := Tryd.func94.trans (congrArg some (by kernel_rfl))
  f137 := Tryd.func93.trans (congrArg some (by kernel_rfl))
  f152 := Tryd.func86.trans (congrArg some (by kernel_rfl))
  f217 := Tryd.func99.trans (congrArg some (by kernel_rfl))
  f224 := Tryd.func95.trans (congrArg some (by kernel_rfl))
  f225 := Tryd.func96.trans (congrArg some (by kernel_rfl))
  f266 := Tryd.func100.trans (congrArg some (by kernel_rfl))
  t0 := Tryd.underlying0
  a0 := Tryd.isAgg0
  z0 := Tryd.sizeOf0
  v0 := Tryd.zeroValue0
  t3 := Tryd.underlying3
  a3 := Tryd.isAgg3
  z3 := Tryd.sizeOf3
  v3 := Tryd.zeroValue3
  t4 := Tryd.underlying4
  a4 := Tryd.isAgg4
  z4 := Tryd.sizeOf4
  v4 := Tryd.zeroValue4
  t5 := Tryd.underlying5
  a5 := Tryd.isAgg5
  z5 := Tryd.sizeOf5
  v5 := Tryd.zeroValue5
  t9 := Tryd.underlying9
  a9 := Tryd.isAgg9
  z9 := Tryd.sizeOf9
  v9 := Tryd.zeroValue9
  t21 := Tryd.underlying21
  a21 := Tryd.isAgg21
  z21 := Tryd.sizeOf21
  v21 := Tryd.zeroValue21
  t46 := Tryd.underlying107
  a46 := Tryd.isAgg107
  z46 := Tryd.sizeOf107
  v46 := Tryd.zeroValue107 }
open Go.RowKit Go.Lib in
theorem Tryd.strings_IndexRune_ascii (s : ByteArray) (r : Int) (w : World) (h0 : 0 ≤ r) (h1 : r < 128) :
    Calls Tryd.prog 86 #[.string s, .int .i32 r] w fun e w' => e = .returned (.int .i64 (Lib.indexByte s.data.toList r.toNat.toUInt8)) ∧ w' = w := Any.strings_IndexRune_ascii Tryd.lays152 s r w h0 h1
def Tryd.lays151_ren : Go.Shelf.Ren := ⟨fun | 151 => 73 | 152 => 86 | 137 => 93 | 119 => 94 | 224 => 95 | 225 => 96 | 217 => 99 | 266 => 100 | n => n, fun | 9 => 9 | 21 => 21 | 4 => 4 | 3 => 3 | 5 => 5 | 0 => 0 | 46 => 107 | n => n, fun | n => n⟩
theorem Tryd.lays151 : Go.Proofs.Lays.n151 Tryd.prog Tryd.lays151_ren := {
  mixed := by kernel_rfl
  f119 := Tryd.func94.trans (congrArg some (by kernel_rfl))
  f137 := Tryd.func93.trans (congrArg some (by kernel_rfl))
  f151 := Tryd.func73.trans (congrArg some (by kernel_rfl))
  f152 := Tryd.func86.trans (congrArg some (by kernel_rfl))
  f217 := Tryd.func99.trans (congrArg some (by kernel_rfl))
  f224 := Tryd.func95.trans (congrArg some (by kernel_rfl))
  f225 := Tryd.func96.trans (congrArg some (by kernel_rfl))
  f266 := Tryd.func100.trans (congrArg some (by kernel_rfl))
  t0 := Tryd.underlying0
  a0 := Tryd.isAgg0
  z0 := Tryd.sizeOf0
  v0 := Tryd.zeroValue0
  t3 := Tryd.underlying3
  a3 := Tryd.isAgg3
  z3 := Tryd.sizeOf3
  v3 := Tryd.zeroValue3
  t4 := Tryd.underlying4
  a4 := Tryd.isAgg4
  z4 := Tryd.sizeOf4
  v4 := Tryd.zeroValue4
  t5 := Tryd.underlying5
  a5 := Tryd.isAgg5
  z5 := Tryd.sizeOf5
  v5 := Tryd.zeroValue5
  t9 := Tryd.underlying9
  a9 := Tryd.isAgg9
  z9 := Tryd.sizeOf9
  v9 := Tryd.zeroValue9
  t21 := Tryd.underlying21
  a21 := Tryd.isAgg21
  z21 := Tryd.sizeOf21
  v21 := Tryd.zeroValue21
  t46 := Tryd.underlying107
  a46 := Tryd.isAgg107
  z46 := Tryd.sizeOf107
  v46 := Tryd.zeroValue107 }
open Go.RowKit Go.Lib in
theorem Tryd.strings_ContainsRune_ascii (s : ByteArray) (r : Int) (w : World) (h0 : 0 ≤ r) (h1 : r < 128) :
    Calls Tryd.prog 73 #[.string s, .int .i32 r] w fun e w' => e = .returned (.bool (decide (0 ≤ Lib.indexByte s.data.toList r.toNat.toUInt8))) ∧ w' = w := Any.strings_ContainsRune_ascii Tryd.lays151 s r w h0 h1
def Tryd.lays227_ren : Go.Shelf.Ren := ⟨fun | 227 => 59 | n => n, fun | 9 => 9 | 116 => 81 | 4 => 4 | 0 => 0 | 3 => 3 | 5 => 5 | n => n, fun | n => n⟩
theorem Tryd.lays227 : Go.Proofs.Lays.n227 Tryd.prog Tryd.lays227_ren := {
  mixed := by kernel_rfl
  f227 := Tryd.func59.trans (congrArg some (by kernel_rfl))
  t0 := Tryd.underlying0
  a0 := Tryd.isAgg0
  z0 := Tryd.sizeOf0
  v0 := Tryd.zeroValue0
  t3 := Tryd.underlying3
  a3 := Tryd.isAgg3
  z3 := Tryd.sizeOf3
  v3 := Tryd.zeroValue3
  t4 := Tryd.underlying4
  a4 := Tryd.isAgg4
  z4 := Tryd.sizeOf4
  v4 := Tryd.zeroValue4
  t5 := Tryd.underlying5
  a5 := Tryd.isAgg5
  z5 := Tryd.sizeOf5
  v5 := Tryd.zeroValue5
  t9 := Tryd.underlying9
  a9 := Tryd.isAgg9
  z9 := Tryd.sizeOf9
  v9 := Tryd.zeroValue9
  t116 := Tryd.underlying81
  a116 := Tryd.isAgg81
  z116 := Tryd.sizeOf81 }
open Go.RowKit Go.Lib in
theorem Tryd.strings_makeASCIISet (hv116 : ∀ w, (zeroValue 81).run Tryd.prog w = .ok (.agg (Array.replicate 256 (.bool false))) w) (chars : ByteArray) (w : World) (hs : chars.size < 4294967281) (hascii : ∀ (j : Nat) b, chars.data.toList[j]? = some b → b.toNat < 128) :
    Calls Tryd.prog 59 #[.string chars] w fun e w' => e = .returned (.tuple #[.agg (Lib.setCells chars.data.toList), .bool true]) ∧ w' = w.alloc (.cells (Lib.setCells chars.data.toList) 81) := Any.strings_makeASCIISet Tryd.lays227 hv116 (by kernel_rfl) chars w hs hascii
def Tryd.lays228_ren : Go.Shelf.Ren := ⟨fun | 228 => 71 | n => n, fun | 124 => 85 | 5 => 5 | 4 => 4 | 0 => 0 | 116 => 81 | n => n, fun | n => n⟩
theorem Tryd.lays228 : Go.Proofs.Lays.n228 Tryd.prog Tryd.lays228_ren := {
  mixed := by kernel_rfl
  f228 := Tryd.func71.trans (congrArg some (by kernel_rfl))
  t0 := Tryd.underlying0
  a0 := Tryd.isAgg0
  z0 := Tryd.sizeOf0
  v0 := Tryd.zeroValue0
  t4 := Tryd.underlying4
  a4 := Tryd.isAgg4
  z4 := Tryd.sizeOf4
  v4 := Tryd.zeroValue4
  t5 := Tryd.underlying5
  a5 := Tryd.isAgg5
  z5 := Tryd.sizeOf5
  v5 := Tryd.zeroValue5
  t116 := Tryd.underlying81
  a116 := Tryd.isAgg81
  z116 := Tryd.sizeOf81
  t124 := Tryd.underlying85
  a124 := Tryd.isAgg85
  z124 := Tryd.sizeOf85
  v124 := Tryd.zeroValue85 }
open Go.RowKit Go.Lib in
/-- '(as *asciiSet) contains(c)': 'as[c]': the set lies at block b, whole. (LAID: no walk: one application.) -/
theorem Tryd.asciiSet_contains (b : Nat) (x : UInt8) (v : Bool) (w : World) (hc : w.cell? ⟨b, x.toNat, none⟩ = some (.bool v)) :
    Calls Tryd.prog 71 #[.pointer (some ⟨b, 0, none⟩), .int .u8 x.toNat] w fun e w' => e = .returned (.bool v) ∧ w' = w := Any.asciiSet_contains Tryd.lays228 b x v w hc
def Tryd.lays260_ren : Go.Shelf.Ren := ⟨fun | 260 => 85 | n => n, fun | 9 => 9 | 21 => 21 | 3 => 3 | 4 => 4 | 5 => 5 | 119 => 117 | 0 => 0 | 46 => 107 | 139 => 120 | 138 => 119 | n => n, fun | 3 => 3 | 4 => 4 | n => n⟩
theorem Tryd.lays260 : Go.Proofs.Lays.n260 Tryd.prog Tryd.lays260_ren := {
  mixed := by kernel_rfl
  f260 := Tryd.func85.trans (congrArg some (by kernel_rfl))
  t0 := Tryd.underlying0
  a0 := Tryd.isAgg0
  z0 := Tryd.sizeOf0
  v0 := Tryd.zeroValue0
  t3 := Tryd.underlying3
  a3 := Tryd.isAgg3
  z3 := Tryd.sizeOf3
  v3 := Tryd.zeroValue3
  t4 := Tryd.underlying4
  a4 := Tryd.isAgg4
  z4 := Tryd.sizeOf4
  v4 := Tryd.zeroValue4
  t5 := Tryd.underlying5
  a5 := Tryd.isAgg5
  z5 := Tryd.sizeOf5
  v5 := Tryd.zeroValue5
  t9 := Tryd.underlying9
  a9 := Tryd.isAgg9
  z9 := Tryd.sizeOf9
  v9 := Tryd.zeroValue9
  t21 := Tryd.underlying21
  a21 := Tryd.isAgg21
  z21 := Tryd.sizeOf21
  v21 := Tryd.zeroValue21
  t46 := Tryd.underlying107
  a46 := Tryd.isAgg107
  z46 := Tryd.sizeOf107
  v46 := Tryd.zeroValue107
  t119 := Tryd.underlying117
  a119 := Tryd.isAgg117
  z119 := Tryd.sizeOf117
  t138 := Tryd.underlying119
  a138 := Tryd.isAgg119
  z138 := Tryd.sizeOf119
  v138 := Tryd.zeroValue119
  t139 := Tryd.underlying120
  a139 := Tryd.isAgg120
  z139 := Tryd.sizeOf120
  v139 := Tryd.zeroValue120
  g3 := by kernel_rfl
  g4 := by kernel_rfl }
open Go.RowKit Go.Lib in
theorem Tryd.utf8_decodeRuneInStringSlow (s : ByteArray) (w : World) (hT : Lib.Utf8Tabs 3 4 w) :
    Calls Tryd.prog 85 #[.string s] w fun e w' => e = .returned (.tuple #[.int .i32 (Lib.decodeGo s).1, .int .i64 (Lib.decodeGo s).2]) ∧ Below w.heap.size w w' := Any.utf8_decodeRuneInStringSlow Tryd.lays260 s w hT
end Go.Proofs

/- What a derivation is printed as; numbers printed; the contract of Itoa. No condition. -/
namespace Go.Am
open Go.Proofs Go.Sort
attribute [local go_sem ↓] ofL_cons ofH_cons upd_apply
attribute [local go_sem] cellsD
set_option maxHeartbeats 1000000
set_option linter.unusedSimpArgs false

/-- What is known of the program's package variables. -/
class Tabs [Glb] : Prop where
  ok : ∀ w : World, (∀ b, Glb.A b → w.heap[b]? = Glb.M b) → Lib.TabIs Tryd.prog w "internal/strconv.uint64pow10" .u64 Lib.pow10Tab ∧ (∃ te pe, w.cell? ⟨1, 0, none⟩ = some (.iface te pe)) ∧ (∃ te pe, w.cell? ⟨2, 0, none⟩ = some (.iface te pe))

def inI (n : Int) : Prop := -9223372036854775808 ≤ n ∧ n ≤ 9223372036854775807
def decB (n : Int) : ByteArray := ⟨(Lib.itoa n).toArray⟩
theorem decD_len : ∀ (k u : Nat), u < 10 ^ (k + 1) → (Lib.decDigits u).length ≤ k + 1
  | 0, u, h => by rw [Lib.decDigits_one (by omega)]; simp
  | k + 1, u, h => by
    rw [Lib.decDigits]
    split
    · simp
    · have := decD_len k (u / 10) (by rw [Nat.div_lt_iff_lt_mul (by decide)]; rw [Nat.pow_succ] at h; exact h)
      simp only [List.length_append, List.length_cons, List.length_nil]
      omega
theorem decB_size {n : Int} (h : inI n) : (decB n).size ≤ 21 := by
  have hs : (decB n).size = (Lib.itoa n).length := by simp [decB, ByteArray.size]
  rw [hs]
  unfold Lib.itoa
  obtain ⟨h0, h1⟩ := h
  split
  · have := decD_len 19 n.natAbs (by omega)
    simp only [List.length_cons]
    omega
  · have := decD_len 19 n.toNat (by omega)
    omega

def sp : ByteArray := ⟨#[32]⟩
def headD (d : Dv) : ByteArray := d.name ++ sp ++ decB d.frm ++ sp ++ decB d.to
mutual
def printD : Dv → ByteArray
  | .mk k n f t ks => (if k == 1 then (⟨#[40, 43]⟩ : ByteArray) else ⟨#[40]⟩) ++ headD (.mk k n f t ks) ++ printKs ks ++ ⟨#[41]⟩
def printKs : List Dv → ByteArray
  | [] => ⟨#[]⟩
  | d :: r => sp ++ printD d ++ printKs r
end
theorem printD_eq (d : Dv) : printD d = (if d.kind == 1 then (⟨#[40, 43]⟩ : ByteArray) else ⟨#[40]⟩) ++ headD d ++ printKs d.kids ++ ⟨#[41]⟩ := by
  obtain ⟨k, n, f, t, ks⟩ := d
  rw [printD]
  rfl
theorem ba_ext {a b : ByteArray} (h : a.data.toList = b.data.toList) : a = b := by
  cases a; cases b
  simp only [ByteArray.mk.injEq]
  exact Array.ext' h
theorem ba_assoc (a b c : ByteArray) : a ++ b ++ c = a ++ (b ++ c) := ba_ext (by simp)
theorem push_eq (a : ByteArray) (c : UInt8) : a.push c = a ++ ⟨#[c]⟩ := ba_ext (by simp)
theorem app_nil (a : ByteArray) : a ++ ⟨#[]⟩ = a := ba_ext (by simp)
theorem printKs_app : ∀ (l r : List Dv), printKs (l ++ r) = printKs l ++ printKs r
  | [], r => by rw [List.nil_append, printKs]; exact ba_ext (by simp)
  | d :: l, r => by rw [List.cons_append, printKs, printKs_app l r, printKs]; exact ba_ext (by simp)
theorem printKs_take {ks : List Dv} {i : Nat} (h : i < ks.length) : printKs (ks.take (i + 1)) = printKs (ks.take i) ++ (sp ++ printD (ks.getD i default)) := by
  rw [List.take_succ_eq_append_getElem h, printKs_app, getD_lt h, printKs, printKs]
  exact ba_ext (by simp)
theorem printKs_le (ks : List Dv) (i : Nat) : (printKs (ks.take i)).size ≤ (printKs ks).size := by
  have : printKs ks = printKs (ks.take i) ++ printKs (ks.drop i) := by rw [← printKs_app, List.take_append_drop]
  rw [this, ByteArray.size_append]
  omega
mutual
/-- The numbers of a derivation are of the type int. -/
def inD : Dv → Prop
  | .mk _ _ f t ks => inI f ∧ inI t ∧ inDs ks
def inDs : List Dv → Prop
  | [] => True
  | d :: r => inD d ∧ inDs r
end
theorem inDs_get : ∀ {ks : List Dv} {i : Nat}, inDs ks → (h : i < ks.length) → inD (ks.getD i default)
  | d :: r, 0, h, _ => h.1
  | d :: r, i + 1, h, hi => by
    have := inDs_get (i := i) h.2 (by simpa using hi)
    simpa using this
theorem inD_frm {d : Dv} (h : inD d) : inI d.frm := by cases d; exact h.1
theorem inD_to {d : Dv} (h : inD d) : inI d.to := by cases d; exact h.2.1
theorem inD_kid {d : Dv} (h : inD d) {i : Nat} (hi : i < d.kids.length) : inD (d.kids.getD i default) := by cases d; exact inDs_get h.2.2 hi
theorem head_facts {d : Dv} {M : Nat} (hd : inD d) (h : d.name.size ≤ M) : d.name.size + sp.size ≤ M + 100 ∧ (d.name ++ sp).size + (decB d.frm).size ≤ M + 100 ∧ (d.name ++ sp ++ decB d.frm).size + sp.size ≤ M + 100 ∧ (d.name ++ sp ++ decB d.frm ++ sp).size + (decB d.to).size ≤ M + 100 ∧ (headD d).size ≤ M + 100 := by
  have h1 := decB_size (inD_frm hd)
  have h2 := decB_size (inD_to hd)
  have h3 : sp.size = 1 := rfl
  simp only [headD, ByteArray.size_append, h3]
  omega
theorem print_name (d : Dv) : d.name.size ≤ (printD d).size := by
  rw [printD_eq]
  simp only [headD, ByteArray.size_append]
  omega
theorem print_kids (d : Dv) : (printKs d.kids).size + (headD d).size + 2 ≤ (printD d).size := by
  rw [printD_eq]
  have h1 : (⟨#[41]⟩ : ByteArray).size = 1 := rfl
  have h2 : 1 ≤ (if d.kind == 1 then (⟨#[40, 43]⟩ : ByteArray) else ⟨#[40]⟩).size := by split <;> decide
  simp only [ByteArray.size_append]
  omega

theorem below_draw_grow (w : World) (k : Nat) (os : Array Obj) : RowKit.Below w.heap.size w (grow (w.drewN k) os) := by
  refine ⟨rfl, rfl, rfl, by simp [grow, World.drewN], fun i hi => ?_⟩
  simp only [grow, World.drewN]
  rw [Array.getElem?_append_left (by simpa using hi)]

variable [Glb]

theorem itoa_ok [T : Tabs] {n : Int} (h : inI n) : APure Tryd.prog 40 [.int n] (.str (decB n)) := by
  refine ⟨⟨_, Tryd.func40, by kernel_rfl, rfl⟩, fun Z w vs hz hg hl hx => ?_⟩
  match vs, hl with
  | [v], _ =>
    have hx0 := hx 0 (by simp)
    simp only [List.getD_cons_zero] at hx0
    have hv : v = .int .i64 n := by cases hx0; rfl
    subst hv
    refine (Tryd.strconv_Itoa n h.1 h.2 w (T.ok w fun b hb => (hg b hb).2).1).mono ?_
    rintro e w' ⟨rfl, k, os, rfl⟩
    exact ⟨_, rfl, .raw _, below_draw_grow w k os⟩
theorem dec_ok [Tabs] {n : Int} (h : inI n) : APure Tryd.prog 33 [.int n] (.str (decB n)) := by
  have FF : True := trivial
  refine apure_of Tryd.func33 rfl (by kernel_rfl) (by simp [Tryd.ntmps33]) ?_
  rw [Tryd.ntmps33]
  refine awp_rseq (by decide) fun KK hKK => ?_
  refine m_assign ?_
  refine hKK _ _ ?_
  clear hKK KK
  refine awp_rseq (by decide) fun KK hKK => ?_
  refine m_move ?_
  refine m_call (fun hG => itoa_ok h) ?_
  refine m_assign ?_
  refine hKK _ _ ?_
  clear hKK KK
  refine awp_ret ⟨[_], ⟨⟨(by simp only [go_sem, reduceIte, Nat.reduceEqDiff, FF]), (by simp only [go_sem, reduceIte, Nat.reduceEqDiff, FF] <;> rfl)⟩, trivial⟩, ?_⟩
  simp only [go_sem, reduceIte, Nat.reduceEqDiff, FF, tupled]
  exact CV.Sub.refl _
end Go.Am

/- Contracts: a derivation printed. No condition. -/
namespace Go.Am
open Go.Proofs
attribute [local go_sem ↓] ofL_cons ofH_cons upd_apply
attribute [local go_sem] cellsD
set_option maxHeartbeats 2000000
set_option linter.unusedSimpArgs false

variable [Glb]

theorem print_ok [Tabs] : ∀ (N : Nat) (d : Dv) (u : Bool) (b : ByteArray), d.size ≤ N → inD d → okD d → b.size + (printD d).size ≤ 1000000000 → AFun Tryd.prog 22 [.agg ((cellsD d).map .c), .ptr 0 0] (bldB u b) fun out h' => out = .ret (.c (.tup [])) ∧ h' = bldB true (b ++ printD d) := by
  intro N
  induction N with
  | zero => intro d; cases d; simp [Dv.size]
  | succ N ih =>
  intro d u b hN hin hok hsz
  have hlen := okD_len hok
  have hpn := print_name d
  have hpk := print_kids d
  obtain ⟨a1, a2, a3, a4, a5⟩ := head_facts hin (M := 1000000000) (by omega)
  replace a1 := Nat.le_trans a1 (by decide : 1000000000 + 100 ≤ 9223372036854775807)
  replace a2 := Nat.le_trans a2 (by decide : 1000000000 + 100 ≤ 9223372036854775807)
  replace a3 := Nat.le_trans a3 (by decide : 1000000000 + 100 ≤ 9223372036854775807)
  replace a4 := Nat.le_trans a4 (by decide : 1000000000 + 100 ≤ 9223372036854775807)
  refine afun_of Tryd.func22 rfl (by kernel_rfl) (by simp [Tryd.ntmps22]) (fo := [0, 1]) (fun o ho => ?_) ?_
  · exact Classical.byContradiction fun hm => ho ((bld_foot u b.size (strRow b)).out o hm)
  have FF : True := trivial
  rw [Tryd.ntmps22]
  refine m_cut [(0, .agg ((cellsD d).map .c)), (1, .ptr 0 0)] [(0, .box 44 [bldP u, .own 1 b.size]), (1, .row 5 1 b.size (strRow b))] (h2 := by cases u <;> rfl) ?_
  refine awp_rseq (by decide) fun KK hKK => ?_
  refine m_box ?_
  refine hKK _ _ ?_
  clear hKK KK
  refine awp_seqL ?_
  refine awpl_op (by rfl) (by rfl) ?_
  refine m_move ?_
  refine run_nil ?_
  refine awpl_callI [0, 1] ((wByte_ok u b 40 (by omega)).mono fun out h1 q => CallI.of_eq q (by simp [AV.refsw, AV.ref1w]) (bld_foot true (b.push 40).size (strRow (b.push 40))) ?_) (by rfl) (by simp only [List.map, go_sem, reduceIte, Nat.reduceEqDiff, FF] <;> rfl) (bld_foot u b.size (strRow b)) (by simp only [List.forall_mem_cons, List.forall_mem_nil, go_sem, reduceIte, Nat.reduceEqDiff, FF]; all_goals ((repeat' apply And.intro) <;> first | trivial | rfl)) (by simp [AV.refsw, AV.ref1w])
  refine awpl_end ?_
  rw [thenQ_normal]
  refine m_cut [(1, .ptr 0 0), (2, .ptr 2 0)] [(0, .box 44 [.ptr 0 0, .own 1 (b.push 40).size]), (1, .row 5 1 (b.push 40).size (strRow (b.push 40))), (2, .box 45 ((cellsD d).map .c))] ?_
  refine m_join (ι := ByteArray) (fun B => [(1, .ptr 0 0), (2, .ptr 2 0)]) (fun B => [(0, .box 44 [.ptr 0 0, .own 1 B.size]), (1, .row 5 1 B.size (strRow B)), (2, .box 45 ((cellsD d).map .c))]) (fun B => B = b ++ (if d.kind == 1 then (⟨#[40, 43]⟩ : ByteArray) else ⟨#[40]⟩)) ?_ ?_
  · refine awp_rseq (by decide) fun KK hKK => ?_
    refine m_field ?_
    refine m_load ?_
    refine m_bin ?_
    refine hKK _ _ ?_
    clear hKK KK
    refine m_cond (fun hc => ?_) (fun hc => ?_)
    · refine awp_regL ?_
      refine awpl_op (by rfl) (by rfl) ?_
      refine m_move ?_
      refine run_nil ?_
      refine awpl_callI [0, 1] ((wByte_ok true (b.push 40) 43 (by rw [ByteArray.size_push]; omega)).mono fun out h1 q => CallI.of_eq q (by simp [AV.refsw, AV.ref1w]) (bld_foot true ((b.push 40).push 43).size (strRow ((b.push 40).push 43))) ?_) (by rfl) (by simp only [List.map, go_sem, reduceIte, Nat.reduceEqDiff, FF] <;> rfl) (bld_foot true (b.push 40).size (strRow (b.push 40))) (by simp only [List.forall_mem_cons, List.forall_mem_nil, go_sem, reduceIte, Nat.reduceEqDiff, FF]; all_goals ((repeat' apply And.intro) <;> first | trivial | rfl)) (by simp [AV.refsw, AV.ref1w])
      refine awpl_end ?_
      try rw [thenQ_normal]
      refine ⟨(b.push 40).push 43, ?_, (by simp only [List.forall_mem_cons, List.forall_mem_nil, go_sem, reduceIte, Nat.reduceEqDiff, FF]; all_goals ((repeat' apply And.intro) <;> first | trivial | rfl | exact objLe_refl _ | (intro _ _; exact Subs.refl _))), (by simp only [List.forall_mem_cons, List.forall_mem_nil, go_sem, reduceIte, Nat.reduceEqDiff, FF]; all_goals ((repeat' apply And.intro) <;> first | trivial | rfl | exact objLe_refl _ | (intro _ _; exact Subs.refl _)))⟩
      rw [if_pos hc, push_eq, push_eq, ba_assoc]
      rfl
    · refine awp_skip ?_
      try rw [thenQ_normal]
      refine ⟨b.push 40, ?_, (by simp only [List.forall_mem_cons, List.forall_mem_nil, go_sem, reduceIte, Nat.reduceEqDiff, FF]; all_goals ((repeat' apply And.intro) <;> first | trivial | rfl | exact objLe_refl _ | (intro _ _; exact Subs.refl _))), (by simp only [List.forall_mem_cons, List.forall_mem_nil, go_sem, reduceIte, Nat.reduceEqDiff, FF]; all_goals ((repeat' apply And.intro) <;> first | trivial | rfl | exact objLe_refl _ | (intro _ _; exact Subs.refl _)))⟩
      rw [if_neg (by rw [hc]; decide), push_eq]
  rintro B hB
  have hbs : b.size + (printD d).size = B.size + (headD d).size + (printKs d.kids).size + 1 := by
    have e1 : (⟨#[41]⟩ : ByteArray).size = 1 := rfl
    rw [hB, printD_eq]
    simp only [ByteArray.size_append, e1]
    omega
  have hfin : B ++ headD d ++ printKs d.kids ++ ⟨#[41]⟩ = b ++ printD d := by
    rw [hB, printD_eq]
    simp only [ba_assoc]
  clear hB
  simp only [ByteArray.size_append] at a1 a2 a3 a4
  replace a1 : d.name.size + #[(32 : UInt8)].size ≤ 9223372036854775807 := a1
  replace a2 : d.name.size + #[(32 : UInt8)].size + (decB d.frm).size ≤ 9223372036854775807 := a2
  replace a3 : d.name.size + #[(32 : UInt8)].size + (decB d.frm).size + #[(32 : UInt8)].size ≤ 9223372036854775807 := a3
  replace a4 : d.name.size + #[(32 : UInt8)].size + (decB d.frm).size + #[(32 : UInt8)].size + (decB d.to).size ≤ 9223372036854775807 := a4
  have FF := And.intro a1 (And.intro a2 (And.intro a3 (And.intro a4 FF)))
  refine awp_rseq_drawX Tryd.mixed (by rfl) (by decide) (by kernel_rfl) (by decide) (by kernel_rfl) fun KK hKK => ?_
  refine m_move ?_
  refine m_field ?_
  refine m_load ?_
  refine m_bin ?_
  refine m_field ?_
  refine m_load ?_
  refine m_call (fun hG => dec_ok (inD_frm hin)) ?_
  refine m_bin ?_
  refine m_bin ?_
  refine m_field ?_
  refine m_load ?_
  refine m_call (fun hG => dec_ok (inD_to hin)) ?_
  refine m_bin ?_
  refine hKK _ _ ?_
  clear hKK KK
  refine awpl_callI [0, 1] ((wStr_ok true B (headD d) (by omega) (by omega)).mono fun out h1 q => CallI.of_eq q (by simp [AV.refsw, AV.ref1w]) (bld_foot true (B ++ headD d).size (strRow (B ++ headD d))) ?_) (by rfl) (by simp only [List.map, go_sem, reduceIte, Nat.reduceEqDiff, FF] <;> rfl) (bld_foot true B.size (strRow B)) (by simp only [List.forall_mem_cons, List.forall_mem_nil, go_sem, reduceIte, Nat.reduceEqDiff, FF]; all_goals ((repeat' apply And.intro) <;> first | trivial | rfl)) (by simp [AV.refsw, AV.ref1w])
  refine awpl_end ?_
  rw [thenQ_normal]
  clear a1 a2 a3 a4
  generalize hC : B ++ headD d = C at *
  have hCs : C.size = B.size + (headD d).size := by rw [← hC, ByteArray.size_append]
  have FF : True := trivial
  refine m_cut [(1, .ptr 0 0), (2, .ptr 2 0)] [(0, .box 44 [.ptr 0 0, .own 1 C.size]), (1, .row 5 1 C.size (strRow C)), (2, .box 45 ((cellsD d).map .c))] ?_
  refine awp_seq ?_
  refine awp_rseq (by decide) fun KK hKK => ?_
  refine m_field ?_
  refine m_load ?_
  refine m_len ?_
  refine m_move ?_
  refine hKK _ _ ?_
  clear hKK KK
  refine awp_block ?_
  refine m_for (ι := Nat × ByteArray) (fun p => [(1, .ptr 0 0), (28, .c (encKids d.kids)), (29, .int d.kids.length), (30, .int p.1)]) (fun p => [(0, .box 44 [.ptr 0 0, .own 1 p.2.size]), (1, .row 5 1 p.2.size (strRow p.2))]) (fun p => d.kids.length - p.1) (fun p => p.1 ≤ d.kids.length ∧ p.2 = C ++ printKs (d.kids.take p.1)) ((0, C)) ?_ ?_
  · exact ⟨Nat.zero_le _, by rw [List.take_zero, printKs, app_nil]⟩
  rintro ⟨i, X⟩ ⟨hi, hX⟩
  dsimp only at hi hX
  have hXs : X.size = C.size + (printKs (d.kids.take i)).size := by rw [hX, ByteArray.size_append]
  have hle := printKs_le d.kids i
  refine awp_rseq (by decide) fun KK hKK => ?_
  refine m_bin ?_
  refine hKK _ _ ?_
  clear hKK KK
  refine awp_seq ?_
  refine m_cond (fun hc => ?_) (fun hc => ?_)
  · simp only [decide_eq_true_eq] at hc
    have hi' : i < d.kids.length := by omega
    have w3 : IntKind.i64.wrap ((i : Int) + 1) = ((i + 1 : Nat) : Int) := wrap_in (by omega)
    have eK : (encDs d.kids).getD i [] = cellsD (d.kids.getD i default) := encDs_getD hi'
    have hst := printKs_take hi'
    have hle2 := printKs_le d.kids (i + 1)
    have hkz := kids_sizeD d i hi'
    have hkin := inD_kid hin hi'
    have hkok := okD_kid hok hi'
    generalize d.kids.getD i default = kid at *
    have hst2 : (printKs (d.kids.take (i + 1))).size = (printKs (d.kids.take i)).size + (1 + (printD kid).size) := by
      have e1 : sp.size = 1 := rfl
      rw [hst]
      simp only [ByteArray.size_append, e1]
    have hX2 : X.push 32 ++ printD kid = C ++ printKs (d.kids.take (i + 1)) := by
      rw [hst, hX, push_eq]
      simp only [ba_assoc]
      rfl
    refine awp_skip ?_
    first | rw [thenQ_normal] | rw [blockQ_normal, thenQ_normal]
    refine awp_seq (awp_block ?_)
    clear hc
    have FF := And.intro eK FF
    refine awp_rseq (by decide) fun KK hKK => ?_
    refine m_index ?_
    refine m_load ?_
    refine m_alloc ?_
    first | refine m_stPtr ?_ | refine m_stRp ?_
    refine hKK _ _ ?_
    clear hKK KK
    refine m_cut [(1, .ptr 0 0), (5, .ptr 5 0), (28, .c (encKids d.kids)), (29, .int d.kids.length), (30, .int i)] [(0, .box 44 [.ptr 0 0, .own 1 X.size]), (1, .row 5 1 X.size (strRow X)), (5, .box 24 ((cellsD kid).map .c))] ?_
    refine awp_seqL ?_
    refine awpl_op (by rfl) (by rfl) ?_
    refine m_move ?_
    refine run_nil ?_
    refine awpl_callI [0, 1] ((wByte_ok true X 32 (by omega)).mono fun out h1 q => CallI.of_eq q (by simp [AV.refsw, AV.ref1w]) (bld_foot true (X.push 32).size (strRow (X.push 32))) ?_) (by rfl) (by simp only [List.map, go_sem, reduceIte, Nat.reduceEqDiff, FF] <;> rfl) (bld_foot true X.size (strRow X)) (by simp only [List.forall_mem_cons, List.forall_mem_nil, go_sem, reduceIte, Nat.reduceEqDiff, FF]; all_goals ((repeat' apply And.intro) <;> first | trivial | rfl)) (by simp [AV.refsw, AV.ref1w])
    refine awpl_end ?_
    rw [thenQ_normal]
    generalize hY : X.push 32 = Y at *
    have hYs : Y.size = X.size + 1 := by rw [← hY, ByteArray.size_push]
    refine m_cut [(1, .ptr 0 0), (5, .ptr 5 0), (28, .c (encKids d.kids)), (29, .int d.kids.length), (30, .int i)] [(0, .box 44 [.ptr 0 0, .own 1 Y.size]), (1, .row 5 1 Y.size (strRow Y)), (5, .box 24 ((cellsD kid).map .c))] ?_
    refine awp_regL ?_
    refine awpl_op (by rfl) (by rfl) ?_
    refine m_load ?_
    refine run_nil ?_
    refine awpl_op (by rfl) (by rfl) ?_
    refine m_move ?_
    refine run_nil ?_
    refine awpl_callI [0, 1] ((ih kid true Y (by omega) hkin hkok (by omega)).mono fun out h1 q => CallI.of_eq q (by simp [AV.refsw, AV.ref1w]) (bld_foot true (Y ++ printD kid).size (strRow (Y ++ printD kid))) ?_) (by rfl) (by simp only [List.map, go_sem, reduceIte, Nat.reduceEqDiff, FF] <;> rfl) (bld_foot true Y.size (strRow Y)) (by simp only [List.forall_mem_cons, List.forall_mem_nil, go_sem, reduceIte, Nat.reduceEqDiff, FF]; all_goals ((repeat' apply And.intro) <;> first | trivial | rfl)) (by simp [AV.refsw, AV.ref1w])
    refine awpl_end ?_
    generalize hV : Y ++ printD kid = V at *
    first | rw [thenQ_normal] | rw [blockQ_normal, thenQ_normal]
    refine m_cut [(1, .ptr 0 0), (28, .c (encKids d.kids)), (29, .int d.kids.length), (30, .int i)] [(0, .box 44 [.ptr 0 0, .own 1 V.size]), (1, .row 5 1 V.size (strRow V))] ?_
    have FF := And.intro w3 FF
    refine awp_rlast (by decide) fun KK hKK => ?_
    refine m_bin ?_
    refine m_move ?_
    refine hKK _ _ ?_
    clear hKK KK
    try rw [thenQ_normal]
    refine m_next ((i + 1, V)) ?_ ?_
    · exact ⟨by dsimp only; omega, hX2⟩
    · dsimp only; omega
  · refine awp_exit ?_
    simp only [thenQ_exit, blockQ_exit, reduceIte, Nat.reduceEqDiff]
    try rw [thenQ_normal]
    have hi' : i = d.kids.length := by simp only [decide_eq_false_iff_not] at hc; omega
    rw [hi', List.take_length] at hX
    clear hc
    rw [← hX] at hfin
    have hfin2 : X.push 41 = b ++ printD d := by rw [push_eq]; exact hfin
    refine awp_regL ?_
    refine awpl_op (by rfl) (by rfl) ?_
    refine m_move ?_
    refine run_nil ?_
    refine awpl_callI [0, 1] ((wByte_ok true X 41 (by omega)).mono fun out h1 q => CallI.of_eq q (by simp [AV.refsw, AV.ref1w]) (bld_foot true (X.push 41).size (strRow (X.push 41))) ?_) (by rfl) (by simp only [List.map, go_sem, reduceIte, Nat.reduceEqDiff, FF] <;> rfl) (bld_foot true X.size (strRow X)) (by simp only [List.forall_mem_cons, List.forall_mem_nil, go_sem, reduceIte, Nat.reduceEqDiff, FF]; all_goals ((repeat' apply And.intro) <;> first | trivial | rfl)) (by simp [AV.refsw, AV.ref1w])
    refine awpl_end ?_
    rw [hfin2]
    refine ⟨rfl, [], trivial, .inl ⟨.tup [], by simp, CV.Sub.refl _, rfl, keepH_eq (l := [(0, .box 44 [.ptr 0 0, .own 1 (b ++ printD d).size]), (1, .row 5 1 (b ++ printD d).size (strRow (b ++ printD d)))]) ?_⟩⟩
    intro p hp
    simp only [List.mem_cons, List.not_mem_nil, or_false] at hp
    rcases hp with rfl | rfl <;> rfl
end Go.Am

/- Contracts: (*strings.Builder).String; deriv.Print. No condition. -/
namespace Go.Am
open Go.Proofs Go.RowKit
attribute [local go_sem ↓] ofL_cons ofH_cons upd_apply
attribute [local go_sem] cellsD
set_option maxHeartbeats 2000000
set_option maxRecDepth 100000
set_option linter.unusedSimpArgs false

theorem Tryd.cellsByte : Tryd.prog.cellsOf 5 = 1 := by kernel_rfl
theorem Tryd.undPByte : Tryd.prog.underlying 64 = some (.pointer 5) := by kernel_rfl

theorem str_calls (q g cap : Nat) (p : Value) (cur : Array Value) (l : List UInt8) (w : World) (hbk : w.heap[q]? = some (.cells #[p, .slice (some ⟨g, 0, none⟩) l.length cap] 44 (0, 0))) (hg : w.heap[g]? = some (.cells cur 5 (0, 0))) (h0 : l ≠ []) (hnc : l.length ≤ cap) (hcm : cap ≤ maxLen) (hcs : cur.size = cap * 1)
    (hcell : ∀ j x, l[j]? = some x → cur.getD j undef = .int .u8 x.toNat) : Calls Tryd.prog 23 #[.pointer (some ⟨q, 0, none⟩)] w fun e w' => e = .returned (.string ⟨l.toArray⟩) ∧ ∃ n, w' = w.drew.freeze ⟨g, 0, none⟩ n := by
  have hl0 : l.length ≠ 0 := by simpa using h0
  have c1 : w.drew.cell? ⟨q, 1, none⟩ = some (.slice (some ⟨g, 0, none⟩) l.length cap) := by
    have : w.drew.heap[q]? = some (.cells #[p, .slice (some ⟨g, 0, none⟩) l.length cap] 44 (0, 0)) := hbk
    rw [Lib.cell_of_heap this]; rfl
  have hSD : (Builtin.unsafeSliceData_ #[42] 64 #[.slice (some ⟨g, 0, none⟩) l.length cap]).run Tryd.prog w.drew = .ok (.pointer (some ⟨g, 0, none⟩)) w.drew :=
    Lib.run_unsafeSliceData_row _ _ _ _ _ _ (by omega)
  have hUS : (Builtin.unsafeString_ #[64, 3] 9 #[.pointer (some ⟨g, 0, none⟩), .int .i64 l.length]).run Tryd.prog w.drew = .ok (.string ⟨l.toArray⟩) (w.drew.freeze ⟨g, 0, none⟩ l.length) := by
    refine Lib.run_unsafeString_row w.drew 64 3 9 5 Tryd.undPByte Tryd.cellsByte g cur.size (by have hg' : w.drew.heap[g]? = some (.cells cur 5 (0, 0)) := hg; simp [World.shape?, hg']) l h0 (by omega) (by unfold maxLen at hcm; omega) ?_
    intro j x hx
    have hj : j < l.length := (List.getElem?_eq_some_iff.1 hx).1
    have := cell_of_heap (w := w.drew) hg (j := j) (by omega)
    rw [hcell j x hx] at this
    have e : (⟨g, 0, none⟩ : Addr).add j = ⟨g, j, none⟩ := by unfold Addr.add; split <;> simp_all
    rw [e]
    exact this
  have mixed := Tryd.mixed
  go_enter Tryd.func23, Tryd.ntmps23
  go_wp2
  go_region_o
  all_goals (go_wp2; go_ret; exact ⟨rfl, _, rfl⟩)


theorem string_enters : Enters Tryd.prog 23 := ⟨_, Tryd.func23, by kernel_rfl, rfl⟩

variable [Glb]

def rho (k : Nat) : Nat := if k = 0 then 3 else 100

theorem Print_ok [Tabs] (d : Dv) (hin : inD d) (hok : okD d) (hsz : (printD d).size ≤ 1000000000) : APure Tryd.prog 10 [.agg (cellsD d)] (.str (printD d)) := by
  have FF : True := trivial
  refine apure_of Tryd.func10 rfl (by kernel_rfl) (by simp [Tryd.ntmps10]) ?_
  rw [Tryd.ntmps10]
  have hpk := print_kids d
  refine awp_rseq (by decide) fun KK hKK => ?_
  refine m_box ?_
  refine m_assign ?_
  refine hKK _ _ ?_
  clear hKK KK
  refine awp_rseq (by decide) fun KK hKK => ?_
  refine m_alloc ?_
  refine hKK _ _ ?_
  clear hKK KK
  refine AWp.weak (weak_adoptB 3 1 100 _ _ 5 1 (strRow ⟨#[]⟩) (by simp only [go_sem, reduceIte, Nat.reduceEqDiff, FF] <;> rfl) (by rfl) (by simp only [go_sem, reduceIte, Nat.reduceEqDiff, FF])) ?_
  refine m_cut [(1, .ptr 1 0), (3, .ptr 3 0)] [(1, .box 24 ((cellsD d).map .c)), (3, .box 44 [.c (.raw (.pointer none)), .own 100 0]), (100, .row 5 1 0 (strRow ⟨#[]⟩))] ?_
  refine awp_seqL ?_
  refine awpl_op (by rfl) (by rfl) ?_
  refine m_load ?_
  refine run_nil ?_
  refine awpl_call [0, 1] rho ((print_ok d.size d false ⟨#[]⟩ (Nat.le_refl _) hin hok (by have : (⟨#[]⟩ : ByteArray).size = 0 := rfl; omega)).mono fun out h1 q => ?_) (by rfl) (by simp only [List.map, go_sem, reduceIte, Nat.reduceEqDiff] <;> rfl) (by decide) (bld_foot false _ _) (by simp only [List.forall_mem_cons, List.forall_mem_nil, go_sem, reduceIte, Nat.reduceEqDiff]; all_goals ((repeat' apply And.intro) <;> first | trivial | rfl)) (by simp [AV.refsw, AV.ref1w])
  obtain ⟨rfl, rfl⟩ := q
  have e0 : (⟨#[]⟩ : ByteArray) ++ printD d = printD d := ba_ext (by simp)
  rw [e0]
  refine ⟨by simp [AV.refsw, AV.ref1w], bld_foot true _ _, ?_⟩
  refine awpl_end ?_
  rw [thenQ_normal]
  refine m_cut [(3, .ptr 3 0)] [(3, .box 44 [.ptr 3 0, .own 100 (printD d).size]), (100, .row 5 1 (printD d).size (strRow (printD d)))] ?_
  refine awp_seqL ?_
  refine awpl_str str_calls string_enters (by omega) rfl rfl rfl (by decide) ?_
  refine awpl_op (by rfl) (by rfl) ?_
  refine m_assign ?_
  refine run_nil ?_
  refine awpl_end ?_
  rw [thenQ_normal]
  refine awp_ret ⟨[_], ⟨⟨(by simp only [go_sem, reduceIte, Nat.reduceEqDiff, FF]), (by simp only [go_sem, reduceIte, Nat.reduceEqDiff, FF] <;> rfl)⟩, trivial⟩, ?_⟩
  simp only [go_sem, reduceIte, Nat.reduceEqDiff, FF, tupled]
  exact CV.Sub.refl _
end Go.Am

/- The abstract machine, part 28: ranging over a string; bytes made a string. Generic over the program; no condition. -/
namespace Go.Am
open Go.RowKit
set_option linter.unusedVariables false
section
variable {P : Program} {nt : Nat} {fo : List Nat} {s : Slots} {h : AH} {Q : APost} {ops : Array Oper} {l : List Oper}

theorem awpl_range [Glb] {d : Tmp} {t ty : TypeId} {y : Operand} {pos : String} {af : Array Edge} {str : ByteArray} (hy : ev s y = .c (.raw (.string str))) (hu : P.underlying t = some .string) (hgo : h d = .gone) (hd : d < nt)
    (hn : ∀ b, AWpL P nt fo ops l Q (upd s d (.c (.raw (.pointer (some ⟨b, 0, none⟩))))) (upd h d (.blk b (.stringIter str 0)))) : AWpL P nt fo ops (⟨some d, .range t y, ty, pos, af, none⟩ :: l) Q s h := by
  intro E a w I ⟨gs, R⟩
  have hv := ev_ok R y
  rw [hy] at hv
  have hv' : a.eval y = .string str := hv.raw_inv
  unfold wpList
  rw [if_pos (by simp [Region.wanted])]
  refine .inl ?_
  unfold Oper.wp
  have hr : (execOp a.eval ⟨some d, .range t y, ty, pos, af, none⟩).run P w = .ok (.value (.pointer (some ⟨w.heap.size, 0, none⟩))) (w.alloc (.stringIter str 0)) := by
    simp [execOp, hv', run_range_string w t str hu, World.iter]
  rw [hr]
  refine hn w.heap.size E _ _ I ⟨_, RelG.put (R.eff (w' := w.alloc (.stringIter str 0)) d (.blk w.heap.size (.stringIter str 0)) (some (w.heap.size, 0)) rfl rfl rfl (by simp) (fun k hk _ => Below.heap_alloc w _ k hk) (.inr ⟨_, _, rfl, Nat.le_refl _, by simp⟩) (fun ty cells e => ?_) (fun ty sz n f e => ?_) fun _ _ => ?_) hd (.c _ _ (.raw _))⟩
  · rw [hgo] at e; cases e
  · rw [hgo] at e; cases e
  · exact ⟨0, upd_same _ _ _, by unfold World.alloc; simp⟩

theorem awpl_next [Glb] {d o : Tmp} {ty : TypeId} {y : Operand} {pos : String} {af : Array Edge} {b k : Nat} {str : ByteArray} (hy : ev s y = .c (.raw (.pointer (some ⟨b, 0, none⟩)))) (ho : h o = .blk b (.stringIter str k)) (hk : k < str.size) (hd : d < nt)
    (hn : AWpL P nt fo ops l Q (upd s d (.c (.tup [.raw (.bool true), .raw (.int .i64 k), .raw (.int .i32 (Utf8.decode str k).1)]))) (upd h o (.blk b (.stringIter str (k + (Utf8.decode str k).2))))) : AWpL P nt fo ops (⟨some d, .next y true, ty, pos, af, none⟩ :: l) Q s h := by
  intro E a w I ⟨gs, R⟩
  have hv := ev_ok R y
  rw [hy] at hv
  have hv' : a.eval y = .pointer (some ⟨b, 0, none⟩) := hv.raw_inv
  have hob := R.objs o
  rw [ho] at hob
  obtain ⟨K, g1, g2⟩ := hob
  unfold wpList
  rw [if_pos (by simp [Region.wanted])]
  refine .inl ?_
  unfold Oper.wp
  have hr : (execOp a.eval ⟨some d, .next y true, ty, pos, af, none⟩).run P w = .ok (.value (.tuple #[.bool true, .int .i64 k, .int .i32 (Utf8.decode str k).1])) (w.iterAt b str (k + (Utf8.decode str k).2)) := by
    simp [execOp, hv', Lib.run_next_any_at w b str k ty g2 hk]
  rw [hr]
  have hlt : b < w.heap.size := (R.fresh o b K g1).2
  have e0 : upd gs o (gs o) = gs := funext fun i => by unfold upd; split <;> simp_all
  have R' := R.eff (w' := w.iterAt b str (k + (Utf8.decode str k).2)) o (.blk b (.stringIter str (k + (Utf8.decode str k).2))) (gs o) rfl rfl rfl (by simp [World.iterAt]) (fun i _ hi => by
      have : b ≠ i := fun e => hi K (by rw [← e]; exact g1)
      simp only [World.iterAt]
      rw [Array.getElem?_setIfInBounds_ne this]) (.inl rfl) (fun ty cells e => by rw [ho] at e; cases e) (fun ty sz n f e => by rw [ho] at e; cases e) fun _ _ => ⟨K, by rw [upd_same]; exact g1, Lib.iterAt_heap w b str k _ g2⟩
  refine hn E _ _ I ⟨_, RelG.put R' hd (.c _ _ (.tup _ _ rfl fun i hi => ?_))⟩
  match i, hi with
  | 0, _ => exact .raw _
  | 1, _ => exact .raw _
  | 2, _ => exact .raw _

theorem awpl_nextE [Glb] {d o : Tmp} {ty : TypeId} {y : Operand} {pos : String} {af : Array Edge} {b k : Nat} {str : ByteArray} (hy : ev s y = .c (.raw (.pointer (some ⟨b, 0, none⟩)))) (ho : h o = .blk b (.stringIter str k)) (hk : ¬ k < str.size) (hd : d < nt)
    (hn : AWpL P nt fo ops l Q (upd s d (.c (.tup [.raw (.bool false)]))) h) : AWpL P nt fo ops (⟨some d, .next y true, ty, pos, af, none⟩ :: l) Q s h := by
  intro E a w I ⟨gs, R⟩
  have hv := ev_ok R y
  rw [hy] at hv
  have hv' : a.eval y = .pointer (some ⟨b, 0, none⟩) := hv.raw_inv
  have hob := R.objs o
  rw [ho] at hob
  obtain ⟨K, g1, g2⟩ := hob
  unfold wpList
  rw [if_pos (by simp [Region.wanted])]
  refine .inl ?_
  unfold Oper.wp
  have hr : (execOp a.eval ⟨some d, .next y true, ty, pos, af, none⟩).run P w = .ok (.value (.tuple #[.bool false])) w := by
    simp [execOp, hv', Lib.run_next_end_at w b str k ty g2 hk]
  rw [hr]
  refine hn E _ _ I ⟨_, RelG.put R hd (.c _ _ (.tup _ _ rfl fun i hi => ?_))⟩
  match i, hi with
  | 0, _ => exact .raw _

/-- Bytes made a string. -/
theorem awpl_b2s [Glb] {d : Tmp} {t u e ty : TypeId} {y : Operand} {pos : String} {af : Array Edge} {n : Nat} {f : Nat → List CV} {str : ByteArray} (hy : ev s y = .c (.im 1 n f)) (h0 : 0 < n) (hn' : str.size = n) (hf : ∀ i, i < n → f i = strRow str i) (ht : P.underlying t = some (.slice e)) (he : P.underlying e = some (.int .u8)) (hu : P.underlying u = some .string) (hd : d < nt)
    (hn : AWpL P nt fo ops l Q (upd s d (.c (.raw (.string str)))) h) : AWpL P nt fo ops (⟨some d, .convert t u y, ty, pos, af, none⟩ :: l) Q s h := by
  intro E a w I ⟨gs, R⟩
  have hv := ev_ok R y
  rw [hy] at hv
  unfold wpList
  rw [if_pos (by simp [Region.wanted])]
  refine .inl ?_
  unfold Oper.wp
  have hr : (execOp a.eval ⟨some d, .convert t u y, ty, pos, af, none⟩).run P w = .ok (.value (.string str)) w := by
    generalize hv0 : a.eval y = v at hv
    cases hv with
    | c _ _ hx =>
      cases hx with
      | nul => omega
      | im ad _ c _ _ g hb hlt hnc hc ho hf' hh =>
        have hlen : str.data.toList.length = n := hn'
        have := run_convert_bytes_back (P := P) w t u e ad c str.data.toList ht he hu (fun j hj => by
          have hjn : j < n := by rw [← hlen]; exact hj
          have h1 := hh j 0 hjn (by decide)
          rw [hf j hjn] at h1
          simp only [Nat.mul_one, Nat.add_zero, strRow, List.getD_cons_zero] at h1
          have h2 : g j = (Lib.strCells str).getD j undef := h1.raw_inv
          rw [hc j (by omega), h2]
          rw [getD_lt (by rw [Lib.strCells_length, hn']; exact hjn)]
          simp [Lib.strCells])
        rw [hlen] at this
        simp [execOp, hv0, this]
  rw [hr]
  exact hn E _ _ I ⟨_, RelG.put R hd (.c _ _ (.raw _))⟩
end
section
variable {P : Program} {ops : Array Oper} {K : Slots → AH → Prop} {r : List Oper} {s : Slots} {h : AH} {d : Nat} {ty : TypeId} {pos : String} {af : Array Edge} {x : AV}
theorem k_sl_str [Glb] {G : Bool} {t : TypeId} {y : Operand} {lo hi : Option Operand} {u : AV} {L H : Option AV} {b : ByteArray} {l hh : Nat} (h1 : ev s y = u) (e1 : u.strip = .c (.raw (.string b))) (h2 : bndOf s lo = L) (h3 : bndOf s hi = H) (ht : P.underlying t = some .string)
    (b1 : bnd G 0 l L) (b2 : bnd G b.size hh H) (hw : G = true → u.wh = true) (hl : G = true → l ≤ hh ∧ hh ≤ b.size) : aop1 P (.slice t y lo hi none) (ev s) h G (.str (b.extract l hh)) := by
  subst h1 h2 h3
  refine ⟨l, hh, ?_, ?_, ?_, fun g => ⟨hw g, (hl g).1⟩, ?_⟩
  · intro z e; subst e; exact b1
  · intro e; subst e; exact b1
  · intro z e; subst e; exact b2
  · rw [e1]
    exact ⟨ht, fun g => (hl g).2, fun e => by subst e; exact b2, rfl⟩
theorem m_slStr [Glb] {t : TypeId} {y : Operand} {lo hi : Option Operand} {u : AV} {L H : Option AV} {b : ByteArray} {l hh : Nat} (hn : aRun P ops K r (upd s d (.str (b.extract l hh))) h) (h1 : ev s y = u := by simp only [go_sem, reduceIte, Nat.reduceEqDiff, FF] <;> rfl) (e1 : u.strip = .c (.raw (.string b)) := by rfl) (h2 : bndOf s lo = L := by simp only [go_sem, reduceIte, Nat.reduceEqDiff, FF] <;> rfl) (h3 : bndOf s hi = H := by simp only [go_sem, reduceIte, Nat.reduceEqDiff, FF] <;> rfl) (ht1 : P.underlying t = some .string := by simp only [go_sem] <;> rfl)
    (b1 : bnd true 0 l L := by first | exact bd_no | exact bd_one | exact bd_nat | exact bd_yes (by rfl) (by first | rfl | omega) (fun _ => rfl)) (b2 : bnd true b.size hh H := by first | exact bd_no | exact bd_one | exact bd_nat | exact bd_yes (by rfl) (by first | rfl | omega) (fun _ => rfl)) (hw : true = true → u.wh = true := by exact fun _ => rfl) (hl : true = true → l ≤ hh ∧ hh ≤ b.size := by intro hG; (repeat' apply And.intro) <;> first | rfl | omega | (dsimp only; omega)) : aRun P ops K (⟨some d, .slice t y lo hi none, ty, pos, af, none⟩ :: r) s h := st1 rfl (k_sl_str h1 e1 h2 h3 ht1 b1 b2 hw hl) hn
theorem g_slStr [Glb] {j0 t0 : Nat} {want g0 G : Bool} {u0 : AV} {t : TypeId} {y : Operand} {lo hi : Option Operand} {u : AV} {L H : Option AV} {b : ByteArray} {l hh : Nat} (hn : aRun P ops K r (upd s d (.when G (.str (b.extract l hh)))) h) (ht : (ops[j0]?).bind (·.dst) = some t0 := by rfl) (hs : s t0 = u0 := by simp only [go_sem, reduceIte, Nat.reduceEqDiff, FF] <;> rfl) (hu : u0.strip = .bool g0 := by rfl) (hG : (u0.wh && g0 == want) = G := by simp only [go_sem, reduceIte, Nat.reduceEqDiff, FF] <;> rfl) (h1 : ev s y = u := by simp only [go_sem, reduceIte, Nat.reduceEqDiff, FF] <;> rfl) (e1 : u.strip = .c (.raw (.string b)) := by rfl) (h2 : bndOf s lo = L := by simp only [go_sem, reduceIte, Nat.reduceEqDiff, FF] <;> rfl) (h3 : bndOf s hi = H := by simp only [go_sem, reduceIte, Nat.reduceEqDiff, FF] <;> rfl) (ht1 : P.underlying t = some .string := by simp only [go_sem] <;> rfl)
    (b1 : bnd G 0 l L := by first | exact bd_no | exact bd_one | exact bd_nat | exact bd_yes (by rfl) (by first | rfl | omega) (by intro hG; simp only [go_sem, hG])) (b2 : bnd G b.size hh H := by first | exact bd_no | exact bd_one | exact bd_nat | exact bd_yes (by rfl) (by first | rfl | omega) (by intro hG; simp only [go_sem, hG])) (hw : G = true → u.wh = true := by intro hG; simp only [go_sem, hG]) (hl : G = true → l ≤ hh ∧ hh ≤ b.size := by intro hG; (repeat' apply And.intro) <;> first | rfl | omega | (simp only [Bool.not_eq_true', Bool.or_eq_false_iff, Bool.and_eq_true, decide_eq_true_eq, decide_eq_false_iff_not, beq_iff_eq] at hG; omega)) : aRun P ops K (⟨some d, .slice t y lo hi none, ty, pos, af, some (j0, want)⟩ :: r) s h := sg1 rfl ht hs hu hG (k_sl_str h1 e1 h2 h3 ht1 b1 b2 hw hl) hn
end
end Go.Am

/- Contracts: numbers and derivations printed as the reference has it. No condition. -/
namespace Go.Am
open Go.Proofs
attribute [local go_sem ↓] ofL_cons ofH_cons upd_apply
attribute [local go_sem] cellsD
set_option maxHeartbeats 2000000
set_option linter.unusedSimpArgs false

def digs (u : Nat) : List UInt8 := if u = 0 then [] else Lib.decDigits u
theorem digs_step {u : Nat} (h : 0 < u) : digs u = digs (u / 10) ++ [UInt8.ofNat (48 + u % 10)] := by
  unfold digs
  rw [if_neg (by omega)]
  by_cases h1 : u < 10
  · rw [if_pos (by omega), Lib.decDigits_one h1, Nat.mod_eq_of_lt h1]; rfl
  · rw [if_neg (by omega), Lib.decDigits, dif_neg h1]

theorem Tryd.undBytes : Tryd.prog.underlying 42 = some (.slice 5) := by kernel_rfl
theorem Tryd.undU8 : Tryd.prog.underlying 5 = some (.int .u8) := by kernel_rfl
theorem Tryd.undStr : Tryd.prog.underlying 9 = some .string := by kernel_rfl

variable [Glb]

theorem rdec_ok {n : Int} (h : inI n) : APure Tryd.prog 24 [.int n] (.str (decB n)) := by
  obtain ⟨h0, h1⟩ := h
  have FF : True := trivial
  refine apure_of Tryd.func24 rfl (by kernel_rfl) (by simp [Tryd.ntmps24]) ?_
  rw [Tryd.ntmps24]
  refine awp_rseq (by decide) fun KK hKK => ?_
  refine m_assign ?_
  refine hKK _ _ ?_
  clear hKK KK
  refine awp_seq ?_
  refine awp_rseq (by decide) fun KK hKK => ?_
  refine m_move ?_
  refine m_bin ?_
  refine hKK _ _ ?_
  clear hKK KK
  refine m_cond (fun hc => ?_) (fun hc => ?_)
  · refine awp_rseq (by decide) fun KK hKK => ?_
    refine m_assign ?_
    refine hKK _ _ ?_
    clear hKK KK
    refine awp_ret ⟨[_], ⟨⟨(by simp only [go_sem, reduceIte, Nat.reduceEqDiff, FF]), (by simp only [go_sem, reduceIte, Nat.reduceEqDiff, FF] <;> rfl)⟩, trivial⟩, ?_⟩
    simp only [go_sem, reduceIte, Nat.reduceEqDiff, FF, tupled]
    have : n = 0 := by simpa using hc
    subst this
    have e0 : decB 0 = ⟨#[48]⟩ := by
      unfold decB Lib.itoa
      rw [if_neg (by decide), Lib.decDigits_one (by decide)]
      rfl
    exact CV.Sub.of_eq (by rw [e0])
  refine awp_skip ?_
  first | rw [thenQ_normal] | rw [blockQ_normal, thenQ_normal]
  have hn0 : n ≠ 0 := by simpa using hc
  clear hc
  refine awp_rseq (by decide) fun KK hKK => ?_
  refine m_move ?_
  refine m_convert ?_
  refine m_assign ?_
  refine hKK _ _ ?_
  clear hKK KK
  refine m_join (ι := Nat) (fun U => [(0, .int n), (3, .c (.raw (.int .u64 U)))]) (fun U => []) (fun U => U = n.natAbs) ?_ ?_
  · refine awp_rseq (by decide) fun KK hKK => ?_
    refine m_move ?_
    refine m_bin ?_
    refine hKK _ _ ?_
    clear hKK KK
    refine m_cond (fun hc => ?_) (fun hc => ?_)
    · have hlt : n < 0 := by simpa using hc
      clear hc
      have w0 : IntKind.u64.wrap (0 - IntKind.u64.wrap n) = (n.natAbs : Int) := by
        rw [IntKind.wrap_u64, IntKind.wrap_u64]
        omega
      have FF := And.intro w0 FF
      refine awp_rlast (by decide) fun KK hKK => ?_
      refine m_move ?_
      refine m_neg ?_
      refine m_assign ?_
      refine hKK _ _ ?_
      clear hKK KK
      try rw [thenQ_normal]
      refine ⟨n.natAbs, ?_, (by simp only [List.forall_mem_cons, List.forall_mem_nil, go_sem, reduceIte, Nat.reduceEqDiff, FF]; all_goals ((repeat' apply And.intro) <;> first | trivial | rfl | exact objLe_refl _ | (intro _ _; exact Subs.refl _))), (by simp only [List.forall_mem_cons, List.forall_mem_nil, go_sem, reduceIte, Nat.reduceEqDiff, FF]; all_goals ((repeat' apply And.intro) <;> first | trivial | rfl | exact objLe_refl _ | (intro _ _; exact Subs.refl _)))⟩
      rfl
    · have hlt : ¬ n < 0 := by simpa using hc
      have w0 : IntKind.u64.wrap n = (n.natAbs : Int) := by
        rw [IntKind.wrap_u64]
        omega
      refine awp_skip ?_
      have FF := And.intro w0 FF
      try rw [thenQ_normal]
      refine ⟨n.natAbs, ?_, (by simp only [List.forall_mem_cons, List.forall_mem_nil, go_sem, reduceIte, Nat.reduceEqDiff, FF]; all_goals ((repeat' apply And.intro) <;> first | trivial | rfl | exact objLe_refl _ | (intro _ _; exact Subs.refl _))), (by simp only [List.forall_mem_cons, List.forall_mem_nil, go_sem, reduceIte, Nat.reduceEqDiff, FF]; all_goals ((repeat' apply And.intro) <;> first | trivial | rfl | exact objLe_refl _ | (intro _ _; exact Subs.refl _)))⟩
      rfl
  rintro U hU
  have hU64 : U < 18446744073709551616 := by omega
  have hU0 : 0 < U := by omega
  have hdU : (digs U).length ≤ 20 := by
    unfold digs
    rw [if_neg (by omega)]
    exact decD_len 19 U (by omega)
  refine awp_rseq (by decide) fun KK hKK => ?_
  refine m_assign ?_
  refine hKK _ _ ?_
  clear hKK KK
  refine m_join (ι := ByteArray) (fun A => [(0, .int n), (4, .str A)]) (fun A => []) (fun A => A.data.toList = digs U) ?_ ?_
  · refine awp_block ?_
    refine m_for (ι := Nat × ByteArray) (fun p => [(0, .int n), (3, .c (.raw (.int .u64 p.1))), (4, .str p.2)]) (fun p => []) (fun p => p.1) (fun p => p.1 ≤ U ∧ digs p.1 ++ p.2.data.toList = digs U) ((U, ⟨#[]⟩)) ?_ ?_
    · exact ⟨Nat.le_refl _, by simp⟩
    rintro ⟨u, A⟩ ⟨hu, hA⟩
    dsimp only at hu hA
    have hAs : A.size ≤ 20 := by
      have h2 : A.size = A.data.toList.length := rfl
      have h3 := congrArg List.length hA
      rw [List.length_append] at h3
      omega
    refine awp_seq ?_
    refine awp_rseq (by decide) fun KK hKK => ?_
    refine m_move ?_
    refine m_bin ?_
    refine hKK _ _ ?_
    clear hKK KK
    refine m_cond (fun hc => ?_) (fun hc => ?_)
    · have hu0 : 0 < u := by simpa using hc
      clear hc
      obtain ⟨D, hD⟩ : ∃ D : ByteArray, D = ⟨#[UInt8.ofNat (48 + u % 10)]⟩ := ⟨_, rfl⟩
      have hDs : D.size = 1 := by rw [hD]; rfl
      have w0 : ((10 : Int) = 0) = False := by simp
      have w1 : IntKind.u64.wrap (48 + (u : Int).tmod 10) = ((48 + u % 10 : Nat) : Int) := by
        rw [IntKind.wrap_u64, Int.tmod_eq_emod_of_nonneg (by omega)]
        omega
      have w2 : IntKind.u8.wrap ((48 + u % 10 : Nat) : Int) = ((48 + u % 10 : Nat) : Int) := by
        rw [IntKind.wrap_u8]
        omega
      have w3 : IntKind.u64.wrap ((u : Int).tdiv 10) = ((u / 10 : Nat) : Int) := by
        rw [IntKind.wrap_u64, Int.tdiv_eq_ediv_of_nonneg (by omega)]
        omega
      have w4 : D.size + A.size ≤ 9223372036854775807 := by omega
      have hrow : ∀ i, i < 1 → [[CV.raw (.int .u8 ((48 + u % 10 : Nat) : Int))]].getD i [] = strRow D i := fun i hi => by
        match i, hi with
        | 0, _ =>
          subst hD
          simp [strRow, Lib.strCells]
          omega
      refine awp_skip ?_
      first | rw [thenQ_normal] | rw [blockQ_normal, thenQ_normal]
      refine awp_block ?_
      have FF := And.intro w0 (And.intro w1 (And.intro w2 (And.intro w4 FF)))
      refine awp_seqL ?_
      refine awpl_op (by rfl) (by rfl) ?_
      refine m_move ?_
      refine run_nil ?_
      refine awpl_op (by rfl) (by rfl) ?_
      refine m_bin ?_
      refine run_nil ?_
      refine awpl_op (by rfl) (by rfl) ?_
      refine m_bin ?_
      refine run_nil ?_
      refine awpl_op (by rfl) (by rfl) ?_
      refine m_convert ?_
      refine run_nil ?_
      refine awpl_op (by rfl) (by rfl) ?_
      refine m_sliceN ?_
      refine run_nil ?_
      refine awpl_b2s (str := D) (by simp only [go_sem, reduceIte, Nat.reduceEqDiff, FF] <;> rfl) (by decide) hDs hrow Tryd.undBytes Tryd.undU8 Tryd.undStr (by decide) ?_
      refine awpl_op (by rfl) (by rfl) ?_
      refine m_move ?_
      refine run_nil ?_
      refine awpl_op (by rfl) (by rfl) ?_
      refine m_bin ?_
      refine run_nil ?_
      refine awpl_op (by rfl) (by rfl) ?_
      refine m_assign ?_
      refine run_nil ?_
      refine awpl_end ?_
      rw [thenQ_normal]
      have FF := And.intro w0 (And.intro w3 FF)
      refine awp_rlast (by decide) fun KK hKK => ?_
      refine m_move ?_
      refine m_bin ?_
      refine m_assign ?_
      refine hKK _ _ ?_
      clear hKK KK
      rw [blockQ_normal]
      have hdl : (D ++ A).data.toList = UInt8.ofNat (48 + u % 10) :: A.data.toList := by rw [hD]; simp
      try rw [thenQ_normal]
      refine m_next ((u / 10, D ++ A)) ?_ ?_
      · refine ⟨by dsimp only; omega, ?_⟩
        dsimp only
        rw [hdl, ← hA, digs_step hu0, List.append_assoc]
        rfl
      · dsimp only; omega
    · refine awp_exit ?_
      simp only [thenQ_exit, blockQ_exit, reduceIte, Nat.reduceEqDiff]
      try rw [thenQ_normal]
      have hu0 : u = 0 := by
        have : ¬ 0 < u := by simpa using hc
        omega
      try rw [thenQ_normal]
      refine ⟨A, ?_, (by simp only [List.forall_mem_cons, List.forall_mem_nil, go_sem, reduceIte, Nat.reduceEqDiff, FF]; all_goals ((repeat' apply And.intro) <;> first | trivial | rfl | exact objLe_refl _ | (intro _ _; exact Subs.refl _))), (by simp only [List.forall_mem_cons, List.forall_mem_nil, go_sem, reduceIte, Nat.reduceEqDiff, FF]; all_goals ((repeat' apply And.intro) <;> first | trivial | rfl | exact objLe_refl _ | (intro _ _; exact Subs.refl _)))⟩
      rw [hu0] at hA
      exact hA
  rintro A hA
  refine awp_seq ?_
  refine awp_rseq (by decide) fun KK hKK => ?_
  refine m_move ?_
  refine m_bin ?_
  refine hKK _ _ ?_
  clear hKK KK
  refine m_cond (fun hc => ?_) (fun hc => ?_)
  · have hlt : n < 0 := by simpa using hc
    have w5 : #[(45 : UInt8)].size + A.size ≤ 9223372036854775807 := by
      have h2 : A.size = A.data.toList.length := rfl
      have h3 : #[(45 : UInt8)].size = 1 := rfl
      rw [hA] at h2
      omega
    have FF := And.intro w5 FF
    refine awp_rseq (by decide) fun KK hKK => ?_
    refine m_move ?_
    refine m_bin ?_
    refine m_assign ?_
    refine hKK _ _ ?_
    clear hKK KK
    refine awp_ret ⟨[_], ⟨⟨(by simp only [go_sem, reduceIte, Nat.reduceEqDiff, FF]), (by simp only [go_sem, reduceIte, Nat.reduceEqDiff, FF] <;> rfl)⟩, trivial⟩, ?_⟩
    simp only [go_sem, reduceIte, Nat.reduceEqDiff, FF, tupled]
    have e0 : decB n = ⟨#[45]⟩ ++ A := by
      apply ba_ext
      unfold decB Lib.itoa
      rw [if_pos hlt, ← hU]
      unfold digs at hA
      rw [if_neg (by omega)] at hA
      simp [hA]
    exact CV.Sub.of_eq (by rw [e0])
  · have hlt : ¬ n < 0 := by simpa using hc
    refine awp_skip ?_
    first | rw [thenQ_normal] | rw [blockQ_normal, thenQ_normal]
    refine awp_rseq (by decide) fun KK hKK => ?_
    refine m_move ?_
    refine m_assign ?_
    refine hKK _ _ ?_
    clear hKK KK
    refine awp_ret ⟨[_], ⟨⟨(by simp only [go_sem, reduceIte, Nat.reduceEqDiff, FF]), (by simp only [go_sem, reduceIte, Nat.reduceEqDiff, FF] <;> rfl)⟩, trivial⟩, ?_⟩
    simp only [go_sem, reduceIte, Nat.reduceEqDiff, FF, tupled]
    have e0 : decB n = A := by
      apply ba_ext
      unfold decB Lib.itoa
      rw [if_neg hlt, show n.toNat = U by omega]
      unfold digs at hA
      rw [if_neg (by omega)] at hA
      simp [hA]
    exact CV.Sub.of_eq (by rw [e0])
end Go.Am

/- Contracts: derivations printed as the reference has it. No condition. -/
namespace Go.Am
open Go.Proofs
attribute [local go_sem ↓] ofL_cons ofH_cons upd_apply
attribute [local go_sem] cellsD
set_option maxHeartbeats 2000000
set_option linter.unusedSimpArgs false

variable [Glb]

theorem rprint_ok : ∀ (N : Nat) (d : Dv), d.size ≤ N → inD d → okD d → (printD d).size ≤ 1000000000 → APure Tryd.prog 11 [.agg (cellsD d)] (.str (printD d)) := by
  intro N
  induction N with
  | zero => intro d; cases d; simp [Dv.size]
  | succ N ih =>
  intro d hN hin hok hsz
  have hlen := okD_len hok
  have hpn := print_name d
  have hpk := print_kids d
  obtain ⟨a1, a2, a3, a4, a5⟩ := head_facts hin (M := 1000000000) (by omega)
  have FF : True := trivial
  refine apure_of Tryd.func11 rfl (by kernel_rfl) (by simp [Tryd.ntmps11]) ?_
  rw [Tryd.ntmps11]
  refine awp_rseq (by decide) fun KK hKK => ?_
  refine m_box ?_
  refine m_assign ?_
  refine hKK _ _ ?_
  clear hKK KK
  refine awp_rseq (by decide) fun KK hKK => ?_
  refine m_assign ?_
  refine hKK _ _ ?_
  clear hKK KK
  refine m_join (ι := ByteArray) (fun B => [(1, .ptr 1 0), (3, .str B)]) (fun B => [(1, .box 24 ((cellsD d).map .c))]) (fun B => B = (if d.kind == 1 then (⟨#[40, 43]⟩ : ByteArray) else ⟨#[40]⟩)) ?_ ?_
  · refine awp_rseq (by decide) fun KK hKK => ?_
    refine m_field ?_
    refine m_load ?_
    refine m_bin ?_
    refine hKK _ _ ?_
    clear hKK KK
    refine m_cond (fun hc => ?_) (fun hc => ?_)
    · refine awp_rlast (by decide) fun KK hKK => ?_
      refine m_assign ?_
      refine hKK _ _ ?_
      clear hKK KK
      try rw [thenQ_normal]
      refine ⟨⟨#[40, 43]⟩, ?_, (by simp only [List.forall_mem_cons, List.forall_mem_nil, go_sem, reduceIte, Nat.reduceEqDiff, FF]; all_goals ((repeat' apply And.intro) <;> first | trivial | rfl | exact objLe_refl _ | (intro _ _; exact Subs.refl _))), (by simp only [List.forall_mem_cons, List.forall_mem_nil, go_sem, reduceIte, Nat.reduceEqDiff, FF]; all_goals ((repeat' apply And.intro) <;> first | trivial | rfl | exact objLe_refl _ | (intro _ _; exact Subs.refl _)))⟩
      rw [if_pos hc]
    · refine awp_skip ?_
      try rw [thenQ_normal]
      refine ⟨⟨#[40]⟩, ?_, (by simp only [List.forall_mem_cons, List.forall_mem_nil, go_sem, reduceIte, Nat.reduceEqDiff, FF]; all_goals ((repeat' apply And.intro) <;> first | trivial | rfl | exact objLe_refl _ | (intro _ _; exact Subs.refl _))), (by simp only [List.forall_mem_cons, List.forall_mem_nil, go_sem, reduceIte, Nat.reduceEqDiff, FF]; all_goals ((repeat' apply And.intro) <;> first | trivial | rfl | exact objLe_refl _ | (intro _ _; exact Subs.refl _)))⟩
      rw [if_neg (by rw [hc]; decide)]
  rintro B hB
  have hBs : B.size ≤ 2 := by rw [hB]; split <;> decide
  have hfin : B ++ headD d ++ printKs d.kids ++ ⟨#[41]⟩ = printD d := by rw [hB, printD_eq]
  have hfs : B.size + (headD d).size + (printKs d.kids).size + 1 = (printD d).size := by
    have e1 : (⟨#[41]⟩ : ByteArray).size = 1 := rfl
    rw [← hfin]
    simp only [ByteArray.size_append, e1]
  clear hB
  have e1 : #[(32 : UInt8)].size = 1 := rfl
  have e2 : sp.size = 1 := rfl
  simp only [ByteArray.size_append, e2] at a1 a2 a3 a4
  have b0 : B.size + d.name.size ≤ 9223372036854775807 := by omega
  have b1 : B.size + d.name.size + #[(32 : UInt8)].size ≤ 9223372036854775807 := by omega
  have b2 : B.size + d.name.size + #[(32 : UInt8)].size + (decB d.frm).size ≤ 9223372036854775807 := by omega
  have b3 : B.size + d.name.size + #[(32 : UInt8)].size + (decB d.frm).size + #[(32 : UInt8)].size ≤ 9223372036854775807 := by omega
  have b4 : B.size + d.name.size + #[(32 : UInt8)].size + (decB d.frm).size + #[(32 : UInt8)].size + (decB d.to).size ≤ 9223372036854775807 := by omega
  have hC0 : B ++ d.name ++ ⟨#[32]⟩ ++ decB d.frm ++ ⟨#[32]⟩ ++ decB d.to = B ++ headD d := by
    unfold headD sp
    simp only [ba_assoc]
  have FF := And.intro b0 (And.intro b1 (And.intro b2 (And.intro b3 (And.intro b4 FF))))
  refine awp_rseq_draw Tryd.mixed (by decide) (by kernel_rfl) fun KK hKK => ?_
  refine m_move ?_
  refine m_field ?_
  refine m_load ?_
  refine m_bin ?_
  refine m_bin ?_
  refine m_field ?_
  refine m_load ?_
  refine m_call (fun hG => rdec_ok (inD_frm hin)) ?_
  refine m_bin ?_
  refine m_bin ?_
  refine m_field ?_
  refine m_load ?_
  refine m_call (fun hG => rdec_ok (inD_to hin)) ?_
  refine m_bin ?_
  refine m_assign ?_
  refine hKK _ _ ?_
  clear hKK KK
  clear a1 a2 a3 a4 a5 b0 b1 b2 b3 b4
  rw [hC0]
  generalize hC : B ++ headD d = C at *
  have hCs : C.size = B.size + (headD d).size := by rw [← hC, ByteArray.size_append]
  have FF : True := trivial
  refine m_cut [(1, .ptr 1 0), (3, .str C)] [(1, .box 24 ((cellsD d).map .c))] ?_
  refine awp_seq ?_
  refine awp_rseq (by decide) fun KK hKK => ?_
  refine m_assign ?_
  refine hKK _ _ ?_
  clear hKK KK
  refine awp_block ?_
  refine m_for (ι := Nat × ByteArray) (fun p => [(1, .ptr 1 0), (3, .str p.2), (4, .int p.1)]) (fun p => [(1, .box 24 ((cellsD d).map .c))]) (fun p => d.kids.length - p.1) (fun p => p.1 ≤ d.kids.length ∧ p.2 = C ++ printKs (d.kids.take p.1)) ((0, C)) ?_ ?_
  · exact ⟨Nat.zero_le _, by rw [List.take_zero, printKs, app_nil]⟩
  rintro ⟨i, X⟩ ⟨hi, hX⟩
  dsimp only at hi hX
  have hXs : X.size = C.size + (printKs (d.kids.take i)).size := by rw [hX, ByteArray.size_append]
  have hle := printKs_le d.kids i
  refine awp_seq ?_
  refine awp_rseq (by decide) fun KK hKK => ?_
  refine m_move ?_
  refine m_field ?_
  refine m_load ?_
  refine m_len ?_
  refine m_bin ?_
  refine hKK _ _ ?_
  clear hKK KK
  refine m_cond (fun hc => ?_) (fun hc => ?_)
  · simp only [decide_eq_true_eq] at hc
    have hi' : i < d.kids.length := by omega
    have w3 : IntKind.i64.wrap ((i : Int) + 1) = ((i + 1 : Nat) : Int) := wrap_in (by omega)
    have eK : (encDs d.kids).getD i [] = cellsD (d.kids.getD i default) := encDs_getD hi'
    have hst := printKs_take hi'
    have hle2 := printKs_le d.kids (i + 1)
    have hkz := kids_sizeD d i hi'
    have hkin := inD_kid hin hi'
    have hkok := okD_kid hok hi'
    generalize d.kids.getD i default = kid at *
    have hst2 : (printKs (d.kids.take (i + 1))).size = (printKs (d.kids.take i)).size + (1 + (printD kid).size) := by
      rw [hst]
      simp only [ByteArray.size_append, e2]
    have hX2 : X ++ ⟨#[32]⟩ ++ printD kid = C ++ printKs (d.kids.take (i + 1)) := by
      rw [hst, hX]
      simp only [ba_assoc]
      rfl
    have w4 : X.size + #[(32 : UInt8)].size ≤ 9223372036854775807 := by omega
    have w5 : X.size + #[(32 : UInt8)].size + (printD kid).size ≤ 9223372036854775807 := by omega
    refine awp_skip ?_
    first | rw [thenQ_normal] | rw [blockQ_normal, thenQ_normal]
    refine awp_seq (awp_block ?_)
    clear hc
    have FF := And.intro eK (And.intro w4 (And.intro w5 FF))
    refine awp_rlast (by decide) fun KK hKK => ?_
    refine m_move ?_
    refine m_bin ?_
    refine m_field ?_
    refine m_load ?_
    refine m_move ?_
    refine m_index ?_
    refine m_load ?_
    refine m_call (fun hG => ih kid (by omega) hkin hkok (by omega)) ?_
    refine m_bin ?_
    refine m_assign ?_
    refine hKK _ _ ?_
    clear hKK KK
    rw [hX2]
    generalize hV : C ++ printKs (d.kids.take (i + 1)) = V at *
    first | rw [thenQ_normal] | rw [blockQ_normal, thenQ_normal]
    have FF : True := trivial
    refine m_cut [(1, .ptr 1 0), (3, .str V), (4, .int i)] [(1, .box 24 ((cellsD d).map .c))] ?_
    have FF := And.intro w3 FF
    refine awp_rlast (by decide) fun KK hKK => ?_
    refine m_move ?_
    refine m_bin ?_
    refine m_assign ?_
    refine hKK _ _ ?_
    clear hKK KK
    try rw [thenQ_normal]
    refine m_next ((i + 1, V)) ?_ ?_
    · exact ⟨by dsimp only; omega, hV.symm⟩
    · dsimp only; omega
  · refine awp_exit ?_
    simp only [thenQ_exit, blockQ_exit, reduceIte, Nat.reduceEqDiff]
    try rw [thenQ_normal]
    have hi' : i = d.kids.length := by simp only [decide_eq_false_iff_not] at hc; omega
    rw [hi', List.take_length] at hX
    clear hc
    rw [← hX] at hfin
    have w4 : X.size + #[(41 : UInt8)].size ≤ 9223372036854775807 := by
      have e3 : #[(41 : UInt8)].size = 1 := rfl
      omega
    have FF := And.intro w4 FF
    refine awp_rseq (by decide) fun KK hKK => ?_
    refine m_move ?_
    refine m_bin ?_
    refine m_assign ?_
    refine hKK _ _ ?_
    clear hKK KK
    rw [hfin]
    refine awp_ret ⟨[_], ⟨⟨(by simp only [go_sem, reduceIte, Nat.reduceEqDiff, FF]), (by simp only [go_sem, reduceIte, Nat.reduceEqDiff, FF] <;> rfl)⟩, trivial⟩, ?_⟩
    simp only [go_sem, reduceIte, Nat.reduceEqDiff, FF, tupled]
    exact CV.Sub.refl _
end Go.Am

/- Contracts: names, as the program has them. No condition. -/
namespace Go.Am
open Go.Proofs
attribute [local go_sem ↓] ofL_cons ofH_cons upd_apply
set_option maxHeartbeats 2000000
set_option linter.unusedSimpArgs false

theorem decode_high (s : ByteArray) (pos : Nat) (h : 128 ≤ (s.get! pos).toNat) : 128 ≤ (Utf8.decode s pos).1 := by
  have hb : ∀ k, (s.get! (pos + k)).toNat < 256 := fun k => (s.get! (pos + k)).toNat_lt
  have h0 := hb 0; have h1 := hb 1; have h2 := hb 2; have h3 := hb 3
  have h4 : 128 ≤ (s.get! (pos + 0)).toNat := h
  simp only [Utf8.decode]
  repeat' split
  all_goals simp_all [Utf8.runeError]
  all_goals omega
theorem byteAt_eq (s : ByteArray) (i : Nat) (h : i < s.size) : byteAt s i = ((s[i]'h).toNat : Int) := by
  unfold byteAt
  rw [getElem?_pos s i h]
  rfl

def badR (k : Nat) (r : Int) : Bool := !lowerB r && ((k : Int) == 0 || (!digitB r && r != 45))
theorem decode_cases (s : ByteArray) (k : Nat) (h : k < s.size) : (Utf8.decode s k = ((byteAt s k).toNat, 1) ∧ byteAt s k = ((Utf8.decode s k).1 : Int)) ∨ (128 ≤ byteAt s k ∧ 128 ≤ (Utf8.decode s k).1) := by
  rw [byteAt_eq s k h]
  by_cases hb : (s[k]'h).toNat < 128
  · left
    rw [decode_ascii s k h hb]
    exact ⟨by simp, rfl⟩
  · right
    refine ⟨by omega, decode_high s k ?_⟩
    have : s.get! k = s[k]'h := by
      simp [ByteArray.get!, getElem!_pos, h]
      rfl
    rw [this]
    omega
theorem part_high {c : Int} (h : 128 ≤ c) : partB c false = false ∧ lowerB c = false ∧ digitB c = false ∧ c ≠ 45 := by
  have h1 : ¬ c ≤ 57 := by omega
  have h2 : ¬ c ≤ 122 := by omega
  have h3 : c ≠ 45 := by omega
  simp [partB, lowerB, digitB, h1, h2, h3]
theorem named_not {s : ByteArray} {k : Nat} (h : k < s.size) (hp : partB (byteAt s k) false = false) : namedB s false = false := by
  unfold namedB
  split
  · rfl
  · exact allB_false (p := fun c => partB c false) hp s.size h
theorem bad_named {s : ByteArray} {k : Nat} (h : k < s.size) (hb : badR k (Utf8.decode s k).1 = true) : namedB s false = false := by
  rcases decode_cases s k h with ⟨_, e⟩ | ⟨e1, e2⟩
  · rw [← e] at hb
    simp only [badR, Bool.and_eq_true, Bool.not_eq_true', Bool.or_eq_true, beq_iff_eq, bne_iff_ne, ne_eq] at hb
    obtain ⟨h1, h2 | ⟨h2, h3⟩⟩ := hb
    · have hk : k = 0 := by omega
      subst hk
      unfold namedB
      by_cases h4 : digitB (byteAt s 0) = true
      · simp [h4]
      · by_cases h5 : byteAt s 0 = 45
        · simp [h5]
        · split
          · rfl
          · exact allB_false (p := fun c => partB c false) (i := 0) (by simp [partB, h4, h5, h1]) s.size h
    · exact named_not h (by simp [partB, h1, h2, h3])
  · exact named_not h (part_high e1).1
theorem good_step {s : ByteArray} {k : Nat} (h : k < s.size) (hb : badR k (Utf8.decode s k).1 = false) : (Utf8.decode s k).2 = 1 ∧ partB (byteAt s k) false = true ∧ (k = 0 → lowerB (byteAt s 0) = true) := by
  rcases decode_cases s k h with ⟨e0, e⟩ | ⟨e1, e2⟩
  · rw [← e] at hb
    refine ⟨by rw [e0], ?_, ?_⟩
    · cases h1 : lowerB (byteAt s k) with
      | true => simp [partB, h1]
      | false =>
        simp only [badR, h1, Bool.not_false, Bool.true_and, Bool.or_eq_false_iff, Bool.and_eq_false_iff, Bool.not_eq_false', bne_eq_false_iff_eq] at hb
        rcases hb.2 with h2 | h2
        · simp [partB, h2]
        · simp [partB, h2]
    · intro hk
      subst hk
      cases h1 : lowerB (byteAt s 0) with
      | true => rfl
      | false => simp [badR, h1] at hb
  · obtain ⟨_, p2, p3, p4⟩ := part_high (c := ((Utf8.decode s k).1 : Int)) (by omega)
    simp [badR, p2, p3, p4] at hb
theorem lower_not {c : Int} (h : lowerB c = true) : digitB c = false ∧ c ≠ 45 := by
  simp only [lowerB, Bool.and_eq_true, decide_eq_true_eq] at h
  have : ¬ c ≤ 57 := by omega
  simp [digitB, this]
  omega

variable [Glb]

theorem tlower_ok (c : Int) : APure Tryd.prog 50 [.raw (.int .i32 c)] (.bool (lowerB c)) := by
  have FF : True := trivial
  refine apure_of Tryd.func50 rfl (by kernel_rfl) (by simp [Tryd.ntmps50]) ?_
  rw [Tryd.ntmps50]
  refine awp_rseq (by decide) fun KK hKK => ?_
  refine m_assign ?_
  refine hKK _ _ ?_
  clear hKK KK
  refine awp_rseq (by decide) fun KK hKK => ?_
  refine m_move ?_
  refine m_bin ?_
  refine m_move ?_
  refine g_move ?_
  refine g_bin ?_
  refine m_pick ?_
  refine m_assign ?_
  refine hKK _ _ ?_
  clear hKK KK
  refine awp_ret ⟨[_], ⟨⟨(by simp only [go_sem, reduceIte, Nat.reduceEqDiff, FF]), (by simp only [go_sem, reduceIte, Nat.reduceEqDiff, FF] <;> rfl)⟩, trivial⟩, ?_⟩
  simp only [go_sem, reduceIte, Nat.reduceEqDiff, FF, tupled]
  exact CV.Sub.refl _
theorem tdigit_ok (c : Int) : APure Tryd.prog 55 [.raw (.int .i32 c)] (.bool (digitB c)) := by
  have FF : True := trivial
  refine apure_of Tryd.func55 rfl (by kernel_rfl) (by simp [Tryd.ntmps55]) ?_
  rw [Tryd.ntmps55]
  refine awp_rseq (by decide) fun KK hKK => ?_
  refine m_assign ?_
  refine hKK _ _ ?_
  clear hKK KK
  refine awp_rseq (by decide) fun KK hKK => ?_
  refine m_move ?_
  refine m_bin ?_
  refine m_move ?_
  refine g_move ?_
  refine g_bin ?_
  refine m_pick ?_
  refine m_assign ?_
  refine hKK _ _ ?_
  clear hKK KK
  refine awp_ret ⟨[_], ⟨⟨(by simp only [go_sem, reduceIte, Nat.reduceEqDiff, FF]), (by simp only [go_sem, reduceIte, Nat.reduceEqDiff, FF] <;> rfl)⟩, trivial⟩, ?_⟩
  simp only [go_sem, reduceIte, Nat.reduceEqDiff, FF, tupled]
  exact CV.Sub.refl _

theorem follows_ok (s : ByteArray) : APure Tryd.prog 49 [.str s, .raw (.func (.func 50) #[] #[])] (.bool (namedB s false)) := by
  have FF : True := trivial
  refine apure_of Tryd.func49 rfl (by kernel_rfl) (by simp [Tryd.ntmps49]) ?_
  rw [Tryd.ntmps49]
  refine awp_rseq (by decide) fun KK hKK => ?_
  refine m_assign ?_
  refine hKK _ _ ?_
  clear hKK KK
  refine awp_seq ?_
  refine awp_rseq (by decide) fun KK hKK => ?_
  refine m_move ?_
  refine m_len ?_
  refine m_bin ?_
  refine m_move ?_
  refine g_move ?_
  refine g_len ?_
  refine g_bin ?_
  refine m_pick ?_
  refine hKK _ _ ?_
  clear hKK KK
  refine m_cond (fun hc => ?_) (fun hc => ?_)
  · refine awp_rseq (by decide) fun KK hKK => ?_
    refine m_assign ?_
    refine hKK _ _ ?_
    clear hKK KK
    refine awp_ret ⟨[_], ⟨⟨(by simp only [go_sem, reduceIte, Nat.reduceEqDiff, FF]), (by simp only [go_sem, reduceIte, Nat.reduceEqDiff, FF] <;> rfl)⟩, trivial⟩, ?_⟩
    simp only [go_sem, reduceIte, Nat.reduceEqDiff, FF, tupled]
    have e0 : namedB s false = false := by
      unfold namedB
      simp only [Bool.or_eq_true, beq_iff_eq, decide_eq_true_eq] at hc
      rw [if_pos]
      simp only [Bool.or_eq_true, decide_eq_true_eq]
      rcases hc with hc | hc
      · exact .inl (.inl (.inl (by omega)))
      · exact .inl (.inl (.inr (by omega)))
    rw [e0]
    exact CV.Sub.refl _
  simp only [Bool.or_eq_false_iff, beq_eq_false_iff_ne, ne_eq, decide_eq_false_iff_not] at hc
  obtain ⟨hs0, hs1⟩ := hc
  refine awp_skip ?_
  first | rw [thenQ_normal] | rw [blockQ_normal, thenQ_normal]
  refine awp_seq ?_
  refine awp_seqL ?_
  refine awpl_op (by rfl) (by rfl) ?_
  refine m_move ?_
  refine run_nil ?_
  refine awpl_range (by simp only [go_sem, reduceIte, Nat.reduceEqDiff] <;> rfl) Tryd.undStr rfl (by decide) fun B => ?_
  refine awpl_end ?_
  rw [thenQ_normal]
  refine awp_block ?_
  refine m_for (ι := Nat) (fun k => [(0, .str s), (1, .c (.raw (.func (.func 50) #[] #[]))), (16, .c (.raw (.pointer (some ⟨B, 0, none⟩))))]) (fun k => [(16, .blk B (.stringIter s k))]) (fun k => s.size - k) (fun k => k ≤ s.size ∧ allB (fun c => partB c false) s k = true ∧ (0 < k → lowerB (byteAt s 0) = true)) (0) ?_ ?_
  · exact ⟨Nat.zero_le _, rfl, fun h => absurd h (by decide)⟩
  rintro k ⟨hk, hall, hfst⟩
  refine awp_seqL ?_
  by_cases hkl : k < s.size
  · refine awpl_next (o := 16) (by simp only [go_sem, reduceIte, Nat.reduceEqDiff] <;> rfl) rfl hkl (by decide) ?_
    refine awpl_op (by rfl) (by rfl) ?_
    refine m_extract ?_
    refine run_nil ?_
    refine awpl_end ?_
    rw [thenQ_normal]
    refine awp_seq ?_
    refine m_cond (fun hc => ?_) (fun hc => ?_)
    · refine awp_skip ?_
      first | rw [thenQ_normal] | rw [blockQ_normal, thenQ_normal]
      refine awp_block ?_
      refine awp_rseq (by decide) fun KK hKK => ?_
      refine m_extract ?_
      refine m_extract ?_
      refine m_assign ?_
      refine m_assign ?_
      refine hKK _ _ ?_
      clear hKK KK
      refine awp_rseq (by decide) fun KK hKK => ?_
      refine m_move ?_
      refine m_move ?_
      refine m_callV (fun hG => tlower_ok _) ?_
      refine m_not ?_
      refine m_move ?_
      refine g_move ?_
      refine g_bin ?_
      refine g_move ?_
      refine g_move ?_
      refine g_call (fun hG => tdigit_ok _) ?_
      refine g_not ?_
      refine g_move ?_
      refine g_move ?_
      refine g_bin ?_
      refine g_pick ?_
      refine g_pick ?_
      refine m_pick ?_
      refine hKK _ _ ?_
      clear hKK KK
      clear hc
      refine m_cond (fun hc => ?_) (fun hc => ?_)
      · refine awp_rseq (by decide) fun KK hKK => ?_
        refine m_assign ?_
        refine hKK _ _ ?_
        clear hKK KK
        refine awp_ret ⟨[_], ⟨⟨(by simp only [go_sem, reduceIte, Nat.reduceEqDiff, FF]), (by simp only [go_sem, reduceIte, Nat.reduceEqDiff, FF] <;> rfl)⟩, trivial⟩, ?_⟩
        simp only [go_sem, reduceIte, Nat.reduceEqDiff, FF, tupled]
        have e0 := bad_named hkl (by simpa [badR] using hc)
        rw [e0]
        exact CV.Sub.refl _
      refine awp_skip ?_
      rw [blockQ_normal]
      obtain ⟨g1, g2, g3⟩ := good_step hkl (by simpa [badR] using hc)
      try rw [thenQ_normal]
      refine m_nextH (k + 1) ?_ ?_ ?_
      · refine ⟨hkl, by rw [allB, hall, g2]; rfl, fun _ => ?_⟩
        by_cases hk0 : k = 0
        · exact g3 hk0
        · exact hfst (by omega)
      · omega
      · refine List.forall_mem_cons.2 ⟨objLe_of ?_, List.forall_mem_nil _⟩
        simp only [go_sem, reduceIte, Nat.reduceEqDiff, g1]
    · cases hc
  · refine awpl_nextE (o := 16) (by simp only [go_sem, reduceIte, Nat.reduceEqDiff] <;> rfl) rfl hkl (by decide) ?_
    refine awpl_op (by rfl) (by rfl) ?_
    refine m_extract ?_
    refine run_nil ?_
    refine awpl_end ?_
    rw [thenQ_normal]
    refine awp_seq ?_
    refine m_cond (fun hc => ?_) (fun hc => ?_)
    · cases hc
    · refine awp_exit ?_
      simp only [thenQ_exit, blockQ_exit, reduceIte, Nat.reduceEqDiff]
      try rw [thenQ_normal]
      refine awp_rseq (by decide) fun KK hKK => ?_
      refine m_assign ?_
      refine hKK _ _ ?_
      clear hKK KK
      refine awp_ret ⟨[_], ⟨⟨(by simp only [go_sem, reduceIte, Nat.reduceEqDiff, FF]), (by simp only [go_sem, reduceIte, Nat.reduceEqDiff, FF] <;> rfl)⟩, trivial⟩, ?_⟩
      simp only [go_sem, reduceIte, Nat.reduceEqDiff, FF, tupled]
      have hk' : k = s.size := by omega
      subst hk'
      have e0 : namedB s false = true := by
        unfold namedB
        obtain ⟨l1, l2⟩ := lower_not (hfst (by omega))
        rw [if_neg]
        · exact hall
        · simp only [Bool.or_eq_true, decide_eq_true_eq, beq_iff_eq, l1, not_or]
          refine ⟨⟨⟨by omega, by omega⟩, by simp⟩, l2⟩
      rw [e0]
      exact CV.Sub.refl _

theorem tname_ok (s : ByteArray) : APure Tryd.prog 43 [.str s] (.bool (namedB s false)) := by
  have FF : True := trivial
  refine apure_of Tryd.func43 rfl (by kernel_rfl) (by simp [Tryd.ntmps43]) ?_
  rw [Tryd.ntmps43]
  refine awp_rseq (by decide) fun KK hKK => ?_
  refine m_assign ?_
  refine hKK _ _ ?_
  clear hKK KK
  refine awp_rseq (by decide) fun KK hKK => ?_
  refine m_move ?_
  refine m_call (fun hG => follows_ok s) ?_
  refine m_assign ?_
  refine hKK _ _ ?_
  clear hKK KK
  refine awp_ret ⟨[_], ⟨⟨(by simp only [go_sem, reduceIte, Nat.reduceEqDiff, FF]), (by simp only [go_sem, reduceIte, Nat.reduceEqDiff, FF] <;> rfl)⟩, trivial⟩, ?_⟩
  simp only [go_sem, reduceIte, Nat.reduceEqDiff, FF, tupled]
  exact CV.Sub.refl _
end Go.Am

/- The abstract machine, part 29: laws proved outside the machine, over plain values. Generic over the program; no condition. -/
namespace Go.Am
open Go.RowKit

theorem raws_eq {w : World} {Z : Nat → Prop} {xs : List Value} {vs : List Value} (hl : vs.length = (xs.map CV.raw).length) (hx : ∀ i, i < (xs.map CV.raw).length → RC w Z (vs.getD i undef) ((xs.map CV.raw).getD i .any)) : vs = xs := by
  rw [List.length_map] at hl hx
  refine List.ext_getElem hl fun i h1 h2 => ?_
  have := hx i h2
  rw [getD_lt h1, getD_lt (by simpa using h2), List.getElem_map] at this
  exact this.raw_inv

theorem apure_raw [Glb] {P : Program} {f : FuncId} (hen : Enters P f) (xs : List Value) {v : Value} (H : ∀ w : World, (∀ b, Glb.A b → w.heap[b]? = Glb.M b) → Calls P f xs.toArray w fun e w' => e = .returned v ∧ Below w.heap.size w w') : APure P f (xs.map .raw) (.raw v) := by
  refine ⟨hen, fun Z w vs hz hg hl hx => ?_⟩
  rw [raws_eq hl hx]
  refine (H w fun b hb => (hg b hb).2).mono ?_
  rintro e w' ⟨rfl, hb⟩
  exact ⟨_, rfl, .raw _, hb⟩

section
variable {P : Program} {nt : Nat} {fo : List Nat} {s : Slots} {h : AH} {Q : APost} {ops : Array Oper} {l : List Oper}

/-- A call whose answer is one of a family. -/
theorem awpl_fam [Glb] {α : Type} {d : Tmp} {f : FuncId} {args : Array Operand} {ats : Array TypeId} {ty : TypeId} {pos : String} {af : Array Edge} (hen : Enters P f) (xs : List Value) (V : α → Value) (C : α → CV) (hVC : ∀ (x : α) (w : World) (Z : Nat → Prop), RC w Z (V x) (C x))
    (H : ∀ w : World, (∀ b, Glb.A b → w.heap[b]? = Glb.M b) → Calls P f xs.toArray w fun e w' => ∃ x, e = .returned (V x) ∧ Below w.heap.size w w')
    (hn : ∀ x, AWpL P nt fo ops l Q (upd s d (.c (C x))) h) (hx : args.toList.map (ev s) = xs.map fun v => .c (.raw v)) (hd : d < nt) : AWpL P nt fo ops (⟨some d, .call ⟨.value (.func f), args, ats⟩, ty, pos, af, none⟩ :: l) Q s h := by
  intro E a w I ⟨gs, R⟩
  obtain ⟨fn, f1, f2, f3⟩ := hen
  have f2' : ¬ fn.name = "runtime.NumGoroutine" := by simpa using f2
  have f3' : ¬ fn.body = none := fun e => by rw [e] at f3; simp at f3
  have hvs : args.map a.eval = xs.toArray := by
    apply Array.ext'
    simp only [Array.toList_map]
    have hl : args.toList.length = xs.length := by simpa using congrArg List.length hx
    refine List.ext_getElem (by simpa using hl) fun i h1 h2 => ?_
    have hia : i < args.toList.length := by simpa using h1
    have h3 : (args.toList.map (ev s))[i]'(by simpa using hia) = (xs.map fun v => AV.c (.raw v))[i]'(by simpa using h2) := by simp only [hx]
    rw [List.getElem_map, List.getElem_map] at h3
    rw [List.getElem_map]
    have := ev_ok R args.toList[i]
    rw [h3] at this
    simpa using this.raw_inv
  unfold wpList
  rw [if_pos (by simp [Region.wanted])]
  refine .inl ?_
  unfold Oper.wp
  have hr : (execOp a.eval ⟨some d, .call ⟨.value (.func f), args, ats⟩, ty, pos, af, none⟩).run P w = .ok (.enter f xs.toArray) w := by
    rw [← hvs]
    simp [execOp, resolve, Deferred.ofValue, Act.eval, invoke, callFunc, f1, f2', f3']
  rw [hr]
  refine (H w fun b hb => (R.glb b hb).2).mono ?_
  rintro e w' ⟨x, rfl, hb⟩
  exact hn x E _ w' I ⟨_, (R.grow hb).put hd (.c _ _ (hVC x w' _))⟩

/-- An interface held against nil. -/
theorem awpl_neqNil [Glb] {d : Tmp} {t t2 ty : TypeId} {y : Operand} {pos : String} {af : Array Edge} {v : Value} {b : Bool} (hy : ev s y = .c (.raw v)) (hv : (v = .nilIface ∧ b = false) ∨ ((∃ u x, v = .iface u x) ∧ b = true)) (ht : P.underlying t = some (.interface (P.methodsAt t))) (hd : d < nt)
    (hn : AWpL P nt fo ops l Q (upd s d (.c (.raw (.bool b)))) h) : AWpL P nt fo ops (⟨some d, .binOp .neq t y (.const .nilIface) t2, ty, pos, af, none⟩ :: l) Q s h := by
  refine awpl_val (s' := upd s d (.c (.raw (.bool b)))) (h' := h) rfl (fun E a w gs R => ?_) hn
  have hv' := ev_ok R y
  rw [hy] at hv'
  have e := hv'.raw_inv
  have ec : a.eval (.const .nilIface) = .nilIface := rfl
  refine ⟨.bool b, w, ?_, gs, R.put hd (.c _ _ (.raw _))⟩
  rcases hv with ⟨rfl, rfl⟩ | ⟨⟨u, x, rfl⟩, rfl⟩
  · simp [execOp, e, ec, eqGuard, run_neq_nil_nil w t ht]
  · simp [execOp, e, ec, eqGuard, run_neq_held_nil w t u x ht]
end
end Go.Am

