/- Texts of the proof: Q8 Q9 QA QB QC QD QE QF. No condition. -/
import Derived.Test.YtgbeghjnllfdjaaGreatDoorS1
import Derived.Test.YtgbeghjnllfdjaaGreatDoorS2
import Derived.Test.YtgbeghjnllfdjaaGreatDoorM3
import Derived.Lib.SplitLaws
import Derived.Lib.IndexLaws
set_option linter.unusedVariables false
set_option linter.unusedSimpArgs false
namespace Go.Am
open Go.Proofs
theorem splitK_L : ∀ s : List UInt8, Lib.splitK [32] 0 (Lib.count s [32]) s = splitL s
 | [] => by rw [Lib.count_one]; rfl
 | b :: l => by
   have ih := splitK_L l
   rw [splitL]
   by_cases hb : b = 32
   · subst hb
     rw [if_pos rfl, Lib.count_cons_eq, Nat.add_comm, Lib.splitK]
     have hi : Lib.index (32 :: l) [32] = 0 := by rw [Lib.index, if_pos (by simp [List.isPrefixOf])]
     rw [hi, if_neg (by decide)]
     rw [← ih]
     rfl
   · rw [if_neg hb, Lib.count_cons_ne _ _ _ hb]
     have hi : Lib.index (b :: l) [32] = if Lib.index l [32] == -1 then -1 else Lib.index l [32] + 1 := by
       rw [Lib.index, if_neg]
       simp only [List.isPrefixOf, Bool.and_true, beq_iff_eq]
       exact fun e => hb e.symm
     cases hk : Lib.count l [32] with
     | zero =>
       rw [hk] at ih
       rw [← ih]
       rfl
     | succ k =>
       rw [hk] at ih
       rw [Lib.splitK] at ih ⊢
       have hn : ¬ (Lib.index l [32] == -1) = true := fun e => by
         rw [Lib.count_miss (by simpa using e)] at hk
         cases hk
       rw [if_neg hn] at hi ih
       have hge := Lib.index_ge l [32]
       have hn' : Lib.index l [32] ≠ -1 := by simpa using hn
       have h1 : (Lib.index l [32] + 1).toNat = (Lib.index l [32]).toNat + 1 := by omega
       rw [hi, if_neg (by simp only [beq_iff_eq]; omega), ← ih, h1]
       simp only [Nat.add_zero, List.length_cons, List.length_nil, List.take_succ_cons, Nat.zero_add, List.drop_succ_cons]
def splitW (s : ByteArray) : List ByteArray := Lib.splitB ⟨#[32]⟩ 0 (Lib.countB s ⟨#[32]⟩) s
theorem splitW_data (s : ByteArray) : (splitW s).map (·.data.toList) = splitL s.data.toList := by
 unfold splitW
 rw [Lib.splitB_data]
 exact splitK_L _
theorem splitW_len (s : ByteArray) : (splitW s).length = Lib.countB s ⟨#[32]⟩ + 1 := Lib.splitB_all _ (by decide) 0 _ s rfl
abbrev wdL (l : List ByteArray) : CV := .im 1 l.length fun i => (l.map strF).getD i []
theorem wdL_get {l : List ByteArray} {i : Nat} (h : i < l.length) : (l.map strF).getD i [] = [.str (l.getD i ⟨#[]⟩)] := by
 rw [getD_lt (by simpa using h), getD_lt h, List.getElem_map]
class TabM [Glb] : Prop where
 ok : ∀ w : World, (∀ b, Glb.A b → w.heap[b]? = Glb.M b) → ∃ m, w.cell? ⟨0, 0, none⟩ = some (.int .i64 m)
variable [Glb]
theorem indexB_ok (s : ByteArray) (c : UInt8) : APure Tryz.prog 43 [.str s, .raw (.int .u8 c.toNat)] (.int (Lib.indexByte s.data.toList c)) := by
 refine ⟨⟨_, Tryz.func43, by kernel_rfl, rfl⟩, fun Z w vs hz hg hl hx => ?_⟩
 match vs, hl with
 | [v, u], _ =>
   have hx0 := hx 0 (by simp)
   have hx1 := hx 1 (by simp)
   simp only [List.getD_cons_zero, List.getD_cons_succ] at hx0 hx1
   have hv : v = .string s := by cases hx0; rfl
   have hu : u = .int .u8 c.toNat := by cases hx1; rfl
   subst hv
   subst hu
   refine (Tryz.strings_IndexByte s c.toNat w).mono ?_
   rintro e w' ⟨rfl, rfl⟩
   refine ⟨_, rfl, ?_, ⟨RowKit.Below.refl _ _, fun _ => Nat.le_refl _⟩⟩
   have : ((c.toNat : Int).toNat.toUInt8) = c := by simp
   rw [this]
   exact .raw _
theorem split_ok [T : TabM] (s : ByteArray) (hs : s.size < 4294967281) : APure Tryz.prog 70 [.str s, .str ⟨#[32]⟩] (wdL (splitW s)) := by
 refine ⟨⟨_, Tryz.func70, by kernel_rfl, rfl⟩, fun Z w vs hz hg hl hx => ?_⟩
 match vs, hl with
 | [v, u], _ =>
   have hx0 := hx 0 (by simp)
   have hx1 := hx 1 (by simp)
   simp only [List.getD_cons_zero, List.getD_cons_succ] at hx0 hx1
   have hv : v = .string s := by cases hx0; rfl
   have hu : u = .string ⟨#[32]⟩ := by cases hx1; rfl
   subst hv
   subst hu
   obtain ⟨m, hm⟩ := T.ok w fun b hb => (hg b hb).2
   refine (Tryz.strings_Split s ⟨#[32]⟩ m w hs hm (by decide)).mono ?_
   rintro e w' ⟨rfl, rfl⟩
   have hlen := splitW_len s
   have h0 : Lib.splitB ⟨#[32]⟩ 0 (Lib.countB s ⟨#[32]⟩) s = splitW s := rfl
   rw [h0]
   refine ⟨_, rfl, ?_, ⟨(RowKit.Below.refl _ _).alloc (Nat.le_refl _) _, fun _ => Nat.le_refl _⟩⟩
   rw [← hlen]
   have hheap : (w.alloc (.cells ((splitW s).map Value.string).toArray 9)).heap[w.heap.size]? = some (.cells ((splitW s).map Value.string).toArray 9 (0, 0)) := by
     show (w.heap.push _)[w.heap.size]? = _
     rw [Array.getElem?_push, if_pos rfl]
   refine .im _ _ _ _ _ (fun j => (((splitW s).map Value.string).toArray).getD j undef) (fun h => ?_) ?_ (Nat.le_refl _) (fun j hj => ?_) (fun j hj => ?_) (fun i hi => ?_) fun i j hi hj => ?_
   · exact absurd (hz _ h) (Nat.lt_irrefl _)
   · simp
   · rw [addr_lit, Nat.zero_add]
     exact cell_of_heap hheap (by simpa using hj)
   · have hj' : j < (splitW s).length := by simpa using hj
     simp [hj']
     rfl
   · rw [wdL_get hi]; rfl
   · obtain rfl : j = 0 := by omega
     rw [wdL_get hi, Nat.mul_one, Nat.add_zero, getD_lt hi]
     have hi' : i < (splitW s).length := hi
     have : (((splitW s).map Value.string).toArray).getD i undef = .string (splitW s)[i] := by simp [hi']
     rw [this]
     exact .raw _
end Go.Am
namespace Go.Am
open Go.Proofs
attribute [local go_sem ↓] ofL_cons ofH_cons upd_apply
set_option maxHeartbeats 2000000
set_option linter.unusedSimpArgs false
def ofB (l : List UInt8) : ByteArray := ⟨l.toArray⟩
theorem ofB_data (b : ByteArray) : ofB b.data.toList = b := by cases b; rfl
def wordsF (s : ByteArray) : List ByteArray × Int := match wordsL s.data.toList with
 | some l => (l.map ofB, 0)
 | none => ([], 8)
def lineI (c : Int) : Bool := !(decide (c < 32) || decide (126 < c))
theorem line_byte (c : UInt8) : lineI (c.toNat : Int) = lineC c := by
 unfold lineI lineC
 rw [Bool.eq_iff_iff]
 simp only [Bool.not_eq_true', Bool.or_eq_false_iff, decide_eq_false_iff_not, Bool.and_eq_true, decide_eq_true_eq]
 omega
theorem line_bad {s : ByteArray} {i : Nat} (h : i < s.size) (hb : lineI (byteAt s i) = false) : s.data.toList.all lineC = false := by
 obtain ⟨c, h1, h2, _⟩ := byteAt_get s h
 rw [h2, line_byte] at hb
 rw [List.all_eq_false]
 exact ⟨c, List.mem_of_getElem? h1, by simp [hb]⟩
theorem line_good {s : ByteArray} (h : allB lineI s s.size = true) : s.data.toList.all lineC = true := by
 rw [List.all_eq_true]
 intro c hc
 obtain ⟨i, hi, rfl⟩ := List.getElem_of_mem hc
 have hi' : i < s.size := hi
 have := (allB_iff lineI s s.size).1 h i hi'
 obtain ⟨d, h1, h2, _⟩ := byteAt_get s hi'
 rw [List.getElem?_eq_getElem hi, Option.some.injEq] at h1
 rw [h1, ← line_byte, ← h2]
 exact this
theorem words_bad {s : ByteArray} (h : s.data.toList.all lineC = false ∨ (s.data.toList ≠ [] ∧ (splitL s.data.toList).any (fun w => w.isEmpty) = true)) : wordsF s = ([], 8) := by
 have hw : wordsL s.data.toList = none := by
   unfold wordsL
   rcases h with h | ⟨h1, h2⟩
   · rw [if_neg (fun e => by rw [e] at h; simp at h), if_pos h]
   · rw [if_neg h1, if_pos h2]
     split <;> rfl
 unfold wordsF
 rw [hw]
theorem words_good {s : ByteArray} (h1 : s.data.toList ≠ []) (h2 : s.data.toList.all lineC = true) (h3 : (splitL s.data.toList).any (fun w => w.isEmpty) = false) {l : List ByteArray} (h : l.map (·.data.toList) = splitL s.data.toList) : wordsF s = (l, 0) := by
 have hw : wordsL s.data.toList = some (splitL s.data.toList) := by
   unfold wordsL
   rw [if_neg h1, if_neg (by rw [h2]; decide), if_neg (by rw [h3]; decide)]
 unfold wordsF
 rw [hw]
 simp only
 rw [← h, List.map_map]
 congr 1
 exact (List.map_congr_left fun b _ => ofB_data b).trans (List.map_id _)
theorem words_nil {s : ByteArray} (h : s.data.toList = []) : wordsF s = ([], 0) := by
 unfold wordsF wordsL
 rw [if_pos h]
 rfl
theorem data_nil {s : ByteArray} (h : s.size = 0) : s.data.toList = [] := List.length_eq_zero_iff.1 h
def neB (w : ByteArray) : Bool := !(w.toList == (⟨#[]⟩ : ByteArray).toList)
theorem neB_iff (w : ByteArray) : neB w = !w.data.toList.isEmpty := by
 unfold neB
 rw [str_beq]
 cases h : w.data.toList with
 | nil =>
   have : w = ⟨#[]⟩ := by rw [← ofB_data w, h]; rfl
   simp [this]
 | cons c l =>
   have : w ≠ ⟨#[]⟩ := fun e => by rw [e] at h; cases h
   simp [this]
theorem any_split {s : ByteArray} {l : List ByteArray} (h : l.map (·.data.toList) = splitL s.data.toList) : (splitL s.data.toList).any (fun w => w.isEmpty) = !(l.all neB) := by
 rw [← h, List.any_map, List.not_all_eq_any_not]
 congr 1
 funext w
 simp [neB_iff]
theorem sub_tup2' {a b c d : CV} (h : CV.Sub a c) (k : CV.Sub b d) : CV.Sub (.tup [a, b]) (.tup [c, d]) := CV.Sub.tup rfl fun i hi => match i, hi with | 0, _ => h | 1, _ => k
theorem all_take' {l : List ByteArray} {i : Nat} (h : i < l.length) (p : ByteArray → Bool) : (l.take (i + 1)).all p = ((l.take i).all p && p (l.getD i ⟨#[]⟩)) := by
 rw [List.take_succ_eq_append_getElem h, List.all_append, getD_lt h]
 simp
theorem all_not' {l : List ByteArray} {i : Nat} (h : i < l.length) {p : ByteArray → Bool} (hp : p (l.getD i ⟨#[]⟩) = false) : l.all p = false := by
 rw [List.all_eq_false]
 refine ⟨l[i], List.getElem_mem h, ?_⟩
 rw [getD_lt h] at hp
 simp [hp]
variable [Glb]
theorem twords_ok [TabM] (s : ByteArray) (hs : s.size ≤ 1000000000) : APure Tryz.prog 44 [.str s] (.tup [wdL (wordsF s).1, .int (wordsF s).2]) := by
 have FF : True := trivial
 refine apure_of Tryz.func44 rfl (by kernel_rfl) (by simp [Tryz.ntmps44]) ?_
 rw [Tryz.ntmps44]
 refine awp_rseq (by decide) fun KK hKK => ?_
 refine m_assign ?_
 refine m_assign ?_
 refine hKK _ _ ?_
 clear hKK KK
 refine awp_seq ?_
 refine awp_rseq (by decide) fun KK hKK => ?_
 refine m_move ?_
 refine m_bin ?_
 refine hKK _ _ ?_
 clear hKK KK
 refine m_cond (fun hc => ?_) (fun hc => ?_)
 · refine awp_rseq (by decide) fun KK hKK => ?_
   refine m_assign ?_
   refine m_assign ?_
   refine hKK _ _ ?_
   clear hKK KK
   refine awp_ret ⟨[_, _], ⟨⟨(by simp only [go_sem, reduceIte, Nat.reduceEqDiff, FF]), (by simp only [go_sem, reduceIte, Nat.reduceEqDiff, FF] <;> rfl)⟩, ⟨(by simp only [go_sem, reduceIte, Nat.reduceEqDiff, FF]), (by simp only [go_sem, reduceIte, Nat.reduceEqDiff, FF] <;> rfl)⟩, trivial⟩, ?_⟩
   simp only [go_sem, reduceIte, Nat.reduceEqDiff, FF, tupled]
   rw [str_beq, decide_eq_true_eq] at hc
   rw [words_nil (by rw [hc])]
   exact sub_tup2' (CV.Sub.im0 rfl rfl) (CV.Sub.refl _)
 have hne : s.size ≠ 0 := by
   rw [str_beq, decide_eq_false_iff_not] at hc
   intro e
   apply hc
   rw [← ofB_data s, data_nil e]
   rfl
 clear hc
 refine awp_skip ?_
 first | rw [thenQ_normal] | rw [blockQ_normal, thenQ_normal]
 refine awp_seq ?_
 refine awp_rseq (by decide) fun KK hKK => ?_
 refine m_assign ?_
 refine hKK _ _ ?_
 clear hKK KK
 refine awp_block ?_
 refine m_for (ι := Nat) (fun i => [(0, .str s), (4, .int i)]) (fun i => []) (fun i => s.size - i) (fun i => i ≤ s.size ∧ allB lineI s i = true) (0) ?_ ?_
 · exact ⟨Nat.zero_le _, rfl⟩
 rintro i ⟨hi, hres⟩
 refine awp_seq ?_
 refine awp_rseq (by decide) fun KK hKK => ?_
 refine m_move ?_
 refine m_move ?_
 refine m_len ?_
 refine m_bin ?_
 refine hKK _ _ ?_
 clear hKK KK
 refine m_cond (fun hc => ?_) (fun hc => ?_)
 · simp only [decide_eq_true_eq] at hc
   have hi' : i < s.size := by omega
   have w3 : IntKind.i64.wrap ((i : Int) + 1) = ((i + 1 : Nat) : Int) := wrap_in (by omega)
   refine awp_skip ?_
   first | rw [thenQ_normal] | rw [blockQ_normal, thenQ_normal]
   refine awp_seq (awp_block ?_)
   clear hc
   refine awp_rseq (by decide) fun KK hKK => ?_
   refine m_move ?_
   refine m_move ?_
   refine m_idx ?_
   refine m_bin ?_
   refine m_move ?_
   refine g_move ?_
   refine g_move ?_
   refine g_idx ?_
   refine g_bin ?_
   refine m_pick ?_
   refine hKK _ _ ?_
   clear hKK KK
   refine m_cond (fun hc => ?_) (fun hc => ?_)
   · refine awp_rseq (by decide) fun KK hKK => ?_
     refine m_assign ?_
     refine m_assign ?_
     refine hKK _ _ ?_
     clear hKK KK
     refine awp_ret ⟨[_, _], ⟨⟨(by simp only [go_sem, reduceIte, Nat.reduceEqDiff, FF]), (by simp only [go_sem, reduceIte, Nat.reduceEqDiff, FF] <;> rfl)⟩, ⟨(by simp only [go_sem, reduceIte, Nat.reduceEqDiff, FF]), (by simp only [go_sem, reduceIte, Nat.reduceEqDiff, FF] <;> rfl)⟩, trivial⟩, ?_⟩
     simp only [go_sem, reduceIte, Nat.reduceEqDiff, FF, tupled]
     rw [words_bad (.inl (line_bad hi' (by unfold lineI; rw [hc]; rfl)))]
     exact sub_tup2' (CV.Sub.im0 rfl rfl) (CV.Sub.refl _)
   refine awp_skip ?_
   first | rw [thenQ_normal] | rw [blockQ_normal, thenQ_normal]
   have FF := And.intro w3 FF
   refine awp_rlast (by decide) fun KK hKK => ?_
   refine m_move ?_
   refine m_bin ?_
   refine m_assign ?_
   refine hKK _ _ ?_
   clear hKK KK
   try rw [thenQ_normal]
   refine m_next (i + 1) ?_ ?_
   · exact ⟨hi', by rw [allB, hres, Bool.true_and]; unfold lineI; rw [hc]; rfl⟩
   · omega
 refine awp_exit ?_
 simp only [thenQ_exit, blockQ_exit, reduceIte, Nat.reduceEqDiff]
 try rw [thenQ_normal]
 have hi' : i = s.size := by simp only [decide_eq_false_iff_not] at hc; omega
 subst hi'
 have hall := line_good hres
 have hL := splitW_data s
 have hlw : (splitW s).length ≤ s.size + 1 := by
   have := splitW_len s
   have := Lib.countB_le ⟨#[32]⟩ (by decide) s.size s (Nat.le_refl _)
   omega
 refine awp_rseq (by decide) fun KK hKK => ?_
 refine m_move ?_
 refine m_call (fun hG => split_ok s (by omega)) ?_
 refine m_assign ?_
 refine hKK _ _ ?_
 clear hKK KK
 generalize splitW s = W at *
 refine awp_seq ?_
 refine awp_rseq (by decide) fun KK hKK => ?_
 refine m_move ?_
 refine m_len ?_
 refine m_move ?_
 refine hKK _ _ ?_
 clear hKK KK
 refine awp_block ?_
 refine m_for (ι := Nat) (fun i => [(5, .c (wdL W)), (28, .c (wdL W)), (29, .int W.length), (30, .int i)]) (fun i => []) (fun i => W.length - i) (fun i => i ≤ W.length ∧ (W.take i).all neB = true) (0) ?_ ?_
 · exact ⟨Nat.zero_le _, rfl⟩
 rintro j ⟨hj, hres2⟩
 refine awp_rseq (by decide) fun KK hKK => ?_
 refine m_bin ?_
 refine hKK _ _ ?_
 clear hKK KK
 refine awp_seq ?_
 clear hc
 refine m_cond (fun hc => ?_) (fun hc => ?_)
 · simp only [decide_eq_true_eq] at hc
   have hj' : j < W.length := by omega
   have w3 : IntKind.i64.wrap ((j : Int) + 1) = ((j + 1 : Nat) : Int) := wrap_in (by omega)
   have eK := wdL_get hj'
   refine awp_skip ?_
   first | rw [thenQ_normal] | rw [blockQ_normal, thenQ_normal]
   refine awp_seq (awp_block ?_)
   clear hc
   have FF := And.intro eK FF
   refine awp_rseq (by decide) fun KK hKK => ?_
   first | refine m_index ?_ | refine m_idxA ?_
   refine m_load ?_
   refine m_assign ?_
   refine hKK _ _ ?_
   clear hKK KK
   refine awp_rseq (by decide) fun KK hKK => ?_
   refine m_move ?_
   refine m_bin ?_
   refine hKK _ _ ?_
   clear hKK KK
   refine m_cond (fun hc => ?_) (fun hc => ?_)
   · refine awp_rseq (by decide) fun KK hKK => ?_
     refine m_assign ?_
     refine m_assign ?_
     refine hKK _ _ ?_
     clear hKK KK
     refine awp_ret ⟨[_, _], ⟨⟨(by simp only [go_sem, reduceIte, Nat.reduceEqDiff, FF]), (by simp only [go_sem, reduceIte, Nat.reduceEqDiff, FF] <;> rfl)⟩, ⟨(by simp only [go_sem, reduceIte, Nat.reduceEqDiff, FF]), (by simp only [go_sem, reduceIte, Nat.reduceEqDiff, FF] <;> rfl)⟩, trivial⟩, ?_⟩
     simp only [go_sem, reduceIte, Nat.reduceEqDiff, FF, tupled]
     rw [words_bad (.inr ⟨fun e => hne (by have : s.size = s.data.toList.length := rfl; rw [this, e]; rfl), by rw [any_split hL, all_not' hj' (by unfold neB; rw [hc]; rfl)]; rfl⟩)]
     exact sub_tup2' (CV.Sub.im0 rfl rfl) (CV.Sub.refl _)
   refine awp_skip ?_
   first | rw [thenQ_normal] | rw [blockQ_normal, thenQ_normal]
   have FF := And.intro w3 FF
   refine awp_rlast (by decide) fun KK hKK => ?_
   refine m_bin ?_
   refine m_move ?_
   refine hKK _ _ ?_
   clear hKK KK
   try rw [thenQ_normal]
   refine m_next (j + 1) ?_ ?_
   · refine ⟨hj', ?_⟩
     rw [all_take' hj', hres2, Bool.true_and]
     unfold neB
     rw [hc]
     rfl
   · omega
 refine awp_exit ?_
 simp only [thenQ_exit, blockQ_exit, reduceIte, Nat.reduceEqDiff]
 try rw [thenQ_normal]
 have hj' : j = W.length := by simp only [decide_eq_false_iff_not] at hc; omega
 subst hj'
 rw [List.take_length] at hres2
 rw [words_good (fun e => hne (by have : s.size = s.data.toList.length := rfl; rw [this, e]; rfl)) hall (by rw [any_split hL, hres2]; rfl) hL]
 refine awp_rseq (by decide) fun KK hKK => ?_
 refine m_move ?_
 refine m_assign ?_
 refine m_assign ?_
 refine hKK _ _ ?_
 clear hKK KK
 refine awp_ret ⟨[_, _], ⟨⟨(by simp only [go_sem, reduceIte, Nat.reduceEqDiff, FF]), (by simp only [go_sem, reduceIte, Nat.reduceEqDiff, FF] <;> rfl)⟩, ⟨(by simp only [go_sem, reduceIte, Nat.reduceEqDiff, FF]), (by simp only [go_sem, reduceIte, Nat.reduceEqDiff, FF] <;> rfl)⟩, trivial⟩, ?_⟩
 simp only [go_sem, reduceIte, Nat.reduceEqDiff, FF, tupled]
 exact CV.Sub.refl _
end Go.Am
namespace Go.Am
open Go.Proofs
attribute [local go_sem ↓] ofL_cons ofH_cons upd_apply
set_option maxHeartbeats 2000000
set_option linter.unusedSimpArgs false
structure WInv (s : ByteArray) (i : Nat) (out : List ByteArray) (word : ByteArray) : Prop where
 le : i ≤ s.size
 sp : splitL (s.data.toList.take i) = out.map (·.data.toList) ++ [word.data.toList]
 ne : out.all neB = true
 ln : allB lineI s i = true
 wd : word.size = 0 → i = 0 ∨ i < s.size
 sz : out.length ≤ i
 ws : word.size ≤ i
variable [Glb]
end Go.Am
namespace Go.Am
open Go.Proofs
theorem cutL_at {s : List UInt8} {i : Nat} (h : s[i]? = some 10) (hn : ∀ k, k < i → s[k]? ≠ some 10) : cutL s = some (s.take i, s.drop (i + 1)) := by
 obtain ⟨hi, he⟩ := List.getElem?_eq_some_iff.1 h
 have e : s = s.take i ++ 10 :: s.drop (i + 1) := by
   rw [← he, ← List.drop_eq_getElem_cons hi, List.take_append_drop]
 conv => lhs; rw [e]
 refine cutL_app _ _ fun c hc e1 => ?_
 subst e1
 obtain ⟨k, hk, e2⟩ := List.getElem_of_mem hc
 rw [List.length_take] at hk
 refine hn k (by omega) ?_
 rw [List.getElem_take] at e2
 rw [List.getElem?_eq_getElem (by omega), e2]
theorem cutL_no : ∀ {s : List UInt8}, (∀ k : Nat, s[k]? ≠ some 10) → cutL s = none
 | [], _ => rfl
 | c :: s, h => by
   rw [cutL, if_neg (fun e => h 0 (by simp [e])), cutL_no fun k => by simpa using h (k + 1)]
   rfl
def decA (acc : List It) (s : List UInt8) : List It × Int := if s = [] then (acc, 0) else match h : cutL s with
 | none => ([], 9)
 | some (l, r) => match itemF numL l with
   | none => ([], 8)
   | some x => decA (acc ++ [x]) r
 termination_by s.length
 decreasing_by exact cut_lt h
def rn0 : Rn := ⟨⟨#[]⟩, []⟩
def headF (l : List UInt8) : Option ByteArray := match wordsL l with
 | some [w, n] => if w = runL then some (ofB n) else none
 | _ => none
def endF (r : Rn × Int) : Rn × Int := if r.2 ≠ 0 then (rn0, r.2) else if checkF r.1 ≠ 0 then (rn0, checkF r.1) else (r.1, 0)
def decodeF (s : ByteArray) : Rn × Int :=
 if 65536 < s.size then (rn0, 7) else match cutL s.data.toList with
 | none => (rn0, 9)
 | some (l, t) => match headF l with
   | none => (rn0, 8)
   | some n => endF (⟨n, (decA [] t).1⟩, (decA [] t).2)
theorem decA_nil (acc : List It) : decA acc [] = (acc, 0) := by rw [decA]; rfl
theorem decA_none {acc : List It} {s : List UInt8} (hs : s ≠ []) (h : cutL s = none) : decA acc s = ([], 9) := by
 rw [decA, if_neg hs]
 split
 · rfl
 · rename_i h1
   rw [h] at h1
   cases h1
theorem decA_bad {acc : List It} {s l r : List UInt8} (h : cutL s = some (l, r)) (hi : itemF numL l = none) : decA acc s = ([], 8) := by
 rw [decA, if_neg (fun e => by rw [e] at h; cases h)]
 split
 · rename_i h1
   rw [h] at h1
   cases h1
 · rename_i l' r' h1
   rw [h] at h1
   cases h1
   rw [hi]
theorem decA_next {acc : List It} {s l r : List UInt8} {x : It} (h : cutL s = some (l, r)) (hi : itemF numL l = some x) : decA acc s = decA (acc ++ [x]) r := by
 conv => lhs; rw [decA, if_neg (fun e => by rw [e] at h; cases h)]
 split
 · rename_i h1
   rw [h] at h1
   cases h1
 · rename_i l' r' h1
   rw [h] at h1
   cases h1
   rw [hi]
theorem decA_dec : ∀ (s : List UInt8) (acc : List It), (decA acc s).2 = 0 ↔ ∃ m, decF numL s = some m ∧ decA acc s = (acc ++ m, 0) := by
 intro s
 induction hn : s.length using Nat.strongRecOn generalizing s with
 | _ n ih =>
   intro acc
   by_cases hs : s = []
   · subst hs
     rw [decA_nil, decF, if_pos rfl]
     simp
   · rw [decF, if_neg hs]
     split
     · rename_i h1
       rw [decA_none hs h1]
       simp
     · rename_i l r h1
       split
       · rename_i h2
         rw [decA_bad h1 h2]
         simp
       · rename_i x h2
         rw [decA_next h1 h2, ih r.length (hn ▸ cut_lt h1) r rfl]
         constructor
         · rintro ⟨m, h3, h4⟩
           exact ⟨x :: m, by rw [h3]; rfl, by rw [h4]; simp⟩
         · rintro ⟨m, h3, h4⟩
           cases hd : decF numL r with
           | none => rw [hd] at h3; cases h3
           | some k =>
             rw [hd] at h3
             cases h3
             exact ⟨k, rfl, by rw [h4]; simp⟩
theorem decR_head (s : List UInt8) : decR numL s = match cutL s with
   | none => none
   | some (l, t) => match headF l with
     | none => none
     | some n => (decF numL t).map fun items => ⟨n, items⟩ := by
 unfold decR headF
 cases cutL s with
 | none => rfl
 | some p =>
   obtain ⟨l, t⟩ := p
   simp only
   cases wordsL l with
   | none => rfl
   | some w =>
     match w with
     | [] => rfl
     | [a] => rfl
     | [a, b] =>
       simp only
       split
       · simp only [*, if_true]
         rfl
       · simp only [*, if_false]
     | a :: b :: c :: d => rfl
theorem endF_ok {p : Rn × Int} {r : Rn} (h : endF p = (r, 0)) : p = (r, 0) ∧ checkF r = 0 := by
 unfold endF at h
 split at h
 · rename_i h1
   simp only [Prod.mk.injEq] at h
   exact absurd h.2 h1
 · rename_i h1
   split at h
   · rename_i h2
     simp only [Prod.mk.injEq] at h
     exact absurd h.2 h2
   · rename_i h2
     simp only [Prod.mk.injEq, and_true] at h
     subst h
     exact ⟨Prod.ext rfl (by simpa using h1), by simpa using h2⟩
theorem decode_ok {s : ByteArray} {r : Rn} : decodeF s = (r, 0) ↔ s.size ≤ 65536 ∧ decR numL s.data.toList = some r ∧ checkF r = 0 := by
 unfold decodeF
 rw [decR_head]
 by_cases h0 : 65536 < s.size
 · rw [if_pos h0]
   simp
   omega
 rw [if_neg h0]
 cases cutL s.data.toList with
 | none => simp
 | some p =>
   obtain ⟨l, t⟩ := p
   simp only
   cases headF l with
   | none => simp
   | some n =>
     simp only
     constructor
     · intro h
       obtain ⟨h1, h2⟩ := endF_ok h
       simp only [Prod.mk.injEq] at h1
       obtain ⟨rfl, h3⟩ := h1
       obtain ⟨m, h4, h5⟩ := (decA_dec t []).1 h3
       rw [h4, h5]
       rw [h5] at h2
       exact ⟨by omega, rfl, h2⟩
     · rintro ⟨_, h1, h2⟩
       cases hd : decF numL t with
       | none => rw [hd] at h1; cases h1
       | some m =>
         rw [hd] at h1
         cases h1
         have h3 : (decA [] t).2 = 0 → decA [] t = (m, 0) := fun h => by
           obtain ⟨m', h4, h5⟩ := (decA_dec t []).1 h
           rw [hd] at h4
           cases h4
           exact h5
         have h4 : decA [] t = (m, 0) := by
           refine h3 ?_
           have : ∀ (s : List UInt8) (acc : List It) m, decF numL s = some m → (decA acc s).2 = 0 := by
             intro s
             induction hn : s.length using Nat.strongRecOn generalizing s with
             | _ n ih =>
               intro acc m hm
               by_cases hs : s = []
               · subst hs
                 rw [decA_nil]
               · rw [decF, if_neg hs] at hm
                 split at hm
                 · cases hm
                 · rename_i l r h1
                   split at hm
                   · cases hm
                   · rename_i x h2
                     rw [decA_next h1 h2]
                     cases hd : decF numL r with
                     | none => rw [hd] at hm; cases hm
                     | some k => exact ih r.length (hn ▸ cut_lt h1) r rfl _ k hd
           exact this t [] m hd
         rw [h4]
         unfold endF
         rw [if_neg (by simp), if_neg (by simpa using h2)]
theorem name_word {s : ByteArray} (h : namedB s false = true) : WordOk s.data.toList := by
 unfold namedB at h
 split at h
 · cases h
 rename_i h1
 simp only [Bool.or_eq_true, decide_eq_true_eq, not_or] at h1
 have h2 := (allB_iff _ s s.size).1 h
 refine ⟨fun e => ?_, fun c hc => ?_⟩
 · have : s.size = s.data.toList.length := rfl
   rw [e] at this
   simp only [List.length_nil] at this
   omega
 · obtain ⟨i, hi, rfl⟩ := List.getElem_of_mem hc
   have hi' : i < s.size := hi
   obtain ⟨d, g1, g2, _⟩ := byteAt_get s hi'
   rw [List.getElem?_eq_getElem hi, Option.some.injEq] at g1
   have := h2 i hi'
   rw [g2] at this
   rw [g1]
   unfold partB digitB lowerB at this
   simp only [Bool.or_eq_true, Bool.and_eq_true, decide_eq_true_eq, beq_iff_eq, Bool.false_and, Bool.not_false, Bool.true_and, Bool.false_eq_true, or_false] at this
   refine ⟨?_, fun e => ?_⟩
   · unfold lineC
     simp only [Bool.and_eq_true, decide_eq_true_eq]
     omega
   · subst e
     have : (32 : UInt8).toNat = 32 := rfl
     omega
theorem enc_lines (l : List It) : (linesB l).data.toList = encF decL l := by
 induction l with
 | nil => rfl
 | cons x l ih =>
   unfold encF at ih ⊢
   rw [linesB, List.flatMap_cons, ByteArray.data_append, Array.toList_append, ih]
   congr 1
   unfold lineB lineF
   simp [joinL, idL, decB, decL]
theorem enc_data {r : Rn} (h : checkF r = 0) : encodeF r = (⟨(encR decL r).toArray⟩, 0) := by
 unfold encodeF
 rw [if_neg (by simpa using h)]
 congr 1
 apply ByteArray.ext
 apply Array.ext'
 show _ = encR decL r
 unfold encR
 rw [ByteArray.data_append, Array.toList_append, enc_lines]
 unfold headB
 simp [joinL, runL]
theorem rn_ok {r : Rn} (h : checkF r = 0) : RnOk r := by
 obtain ⟨h1, _, h3⟩ := check_facts h
 refine ⟨name_word h1, fun x hx => ?_⟩
 obtain ⟨g1, g2⟩ := h3 x hx
 unfold itIn at g2
 exact ⟨name_word g1, ⟨by omega, by omega⟩, ⟨by omega, by omega⟩, ⟨by omega, by omega⟩⟩
theorem back_dec {r : Rn} (h : (encodeF r).2 = 0) : decodeF (encodeF r).1 = (r, 0) := by
 have hc : checkF r = 0 := by
   unfold encodeF at h
   split at h
   · rename_i h1
     exact absurd h h1
   · rename_i h1
     simpa using h1
 obtain ⟨h1, h2, h3⟩ := check_facts hc
 rw [decode_ok]
 refine ⟨?_, ?_, hc⟩
 · have hs := named_size h1
   have := linesB_size h3
   unfold encodeF
   rw [if_neg (by simpa using hc)]
   unfold headB
   have e1 : (⟨#[114, 117, 110, 32]⟩ : ByteArray).size = 4 := rfl
   have e2 : (⟨#[10]⟩ : ByteArray).size = 1 := rfl
   simp only [ByteArray.size_append, e1, e2]
   omega
 · rw [enc_data hc]
   exact decR_enc numOk (rn_ok hc)
end Go.Am
namespace Go.Am
open Go.Proofs
attribute [local go_sem ↓] ofL_cons ofH_cons upd_apply
set_option maxHeartbeats 2000000
set_option linter.unusedSimpArgs false
theorem ext_take (s : ByteArray) (i : Nat) : s.extract 0 i = ofB (s.data.toList.take i) := by
 rw [← ofB_data (s.extract 0 i), Lib.extract_data]
 simp
theorem ext_drop (s : ByteArray) (i : Nat) : s.extract i s.size = ofB (s.data.toList.drop i) := by
 rw [← ofB_data (s.extract i s.size), Lib.extract_data]
 congr 1
 exact List.take_of_length_le (by rw [List.length_drop]; exact Nat.le_refl _)
def shapeW (W : List ByteArray) : Bool := decide (W.length = 5) && (decide (W.getD 4 ⟨#[]⟩ = ⟨#[48]⟩) || decide (W.getD 4 ⟨#[]⟩ = ⟨#[49]⟩))
def itW (W : List ByteArray) : It := ⟨W.getD 0 ⟨#[]⟩, (numB (W.getD 1 ⟨#[]⟩)).1, (numB (W.getD 2 ⟨#[]⟩)).1, (numB (W.getD 3 ⟨#[]⟩)).1, decide (W.getD 4 ⟨#[]⟩ = ⟨#[49]⟩)⟩
def numsW (W : List ByteArray) : Bool := (numB (W.getD 1 ⟨#[]⟩)).2 == 0 && (numB (W.getD 2 ⟨#[]⟩)).2 == 0 && (numB (W.getD 3 ⟨#[]⟩)).2 == 0
def it0 : It := ⟨⟨#[]⟩, 0, 0, 0, false⟩
def itemB (s : ByteArray) : It × Int := if (wordsF s).2 = 0 ∧ shapeW (wordsF s).1 = true ∧ numsW (wordsF s).1 = true then (itW (wordsF s).1, 0) else (it0, 8)
theorem ofB_inj {a b : List UInt8} : ofB a = ofB b ↔ a = b := ⟨fun h => by have := congrArg (fun x : ByteArray => x.data.toList) h; exact this, fun h => by rw [h]⟩
theorem itemF_B (s : ByteArray) : itemF numL s.data.toList = if (wordsF s).2 = 0 ∧ shapeW (wordsF s).1 = true ∧ numsW (wordsF s).1 = true then some (itW (wordsF s).1) else none := by
 unfold itemF wordsF
 cases wordsL s.data.toList with
 | none => simp
 | some l =>
   simp only
   match l with
   | [] => simp [shapeW]
   | [a] => simp [shapeW]
   | [a, b] => simp [shapeW]
   | [a, b, c] => simp [shapeW]
   | [a, b, c, d] => simp [shapeW]
   | a :: b :: c :: d :: e :: f :: g => simp [shapeW]
   | [a, b, c, d, e] =>
     have e0 : ∀ x : UInt8, ((⟨#[x]⟩ : ByteArray) = ofB [x]) := fun _ => rfl
     simp only [shapeW, itW, numsW, List.map_cons, List.map_nil, List.length_cons, List.length_nil, List.getD_cons_succ, List.getD_cons_zero, e0, ofB_inj, numL]
     have e1 : ∀ x : List UInt8, (⟨x.toArray⟩ : ByteArray) = ofB x := fun _ => rfl
     simp only [e1]
     by_cases h : e = [48] ∨ e = [49]
     · rw [if_pos h]
       by_cases h1 : (numB (ofB b)).2 = 0
       · by_cases h2 : (numB (ofB c)).2 = 0
         · by_cases h3 : (numB (ofB d)).2 = 0
           · rcases h with rfl | rfl <;> simp [h1, h2, h3]
           · rcases h with rfl | rfl <;> simp [h1, h2, h3]
         · rcases h with rfl | rfl <;> simp [h1, h2]
       · rcases h with rfl | rfl <;> simp [h1]
     · rw [if_neg h]
       rw [not_or] at h
       simp [h.1, h.2]
theorem itemF_some {s : ByteArray} (h : (itemB s).2 = 0) : itemF numL s.data.toList = some (itemB s).1 := by
 rw [itemF_B]
 unfold itemB at h ⊢
 split at h
 · rename_i h1
   rw [if_pos h1, if_pos h1]
 · cases h
theorem itemF_none {s : ByteArray} (h : (itemB s).2 ≠ 0) : itemF numL s.data.toList = none ∧ itemB s = (it0, 8) := by
 rw [itemF_B]
 unfold itemB at h ⊢
 split at h
 · exact absurd rfl h
 · rename_i h1
   rw [if_neg h1, if_neg h1]
   exact ⟨rfl, rfl⟩
theorem join_mem : ∀ (l : List (List UInt8)), ∀ w ∈ l, w.length ≤ (joinL l).length
 | [], w, h => by cases h
 | [v], w, h => by
   obtain rfl := List.mem_singleton.1 h
   exact Nat.le_refl _
 | v :: u :: l, w, h => by
   rw [joinL, List.length_append, List.length_cons]
   rcases List.mem_cons.1 h with rfl | h
   · omega
   · have := join_mem (u :: l) w h
     omega
theorem words_size (s : ByteArray) : ∀ w ∈ (wordsF s).1, w.size ≤ s.size := by
 intro w hw
 unfold wordsF at hw
 cases hl : wordsL s.data.toList with
 | none => rw [hl] at hw; cases hw
 | some l =>
   rw [hl] at hw
   obtain ⟨v, hv, rfl⟩ := List.mem_map.1 hw
   by_cases hs : s.data.toList = []
   · rw [hs] at hl
     unfold wordsL at hl
     rw [if_pos rfl] at hl
     injection hl with hl
     subst hl
     cases hv
   · obtain ⟨h1, _⟩ := words_some hl hs
     have := join_mem l v hv
     rw [h1] at this
     exact this
theorem getD_size {W : List ByteArray} {n : Nat} (h : ∀ w ∈ W, w.size ≤ n) (i : Nat) : (W.getD i ⟨#[]⟩).size ≤ n := by
 by_cases hi : i < W.length
 · rw [getD_lt hi]
   exact h _ (List.getElem_mem hi)
 · rw [List.getD_eq_getElem?_getD, List.getElem?_eq_none (by omega)]
   exact Nat.zero_le _
variable [Glb]
end Go.Am
namespace Go.Am
open Go.Proofs
attribute [local go_sem ↓] ofL_cons ofH_cons upd_apply
set_option maxHeartbeats 2000000
set_option linter.unusedSimpArgs false
def selN : Nat → Nat → Int → Int
 | _, 0, _ => 0
 | 0, _ + 1, n => n
 | k + 1, i + 1, n => selN k i n
theorem wrap_lit {n : Int} (h : -9223372036854775808 ≤ n ∧ n ≤ 9223372036854775807) : IntKind.i64.wrap n = n := wrap_in h
variable [Glb]
theorem item_ok [NoDr] [Tabs] [TabM] (s : ByteArray) (hs : s.size ≤ 1000000) : APure Tryz.prog 45 [.str s] (.tup [.agg (itC (itemB s).1), .int (itemB s).2]) := by
 have FF : True := trivial
 refine apure_of Tryz.func45 rfl (by kernel_rfl) (by simp [Tryz.ntmps45]) ?_
 rw [Tryz.ntmps45]
 have hW := words_size s
 unfold itemB
 refine awp_rseq (by decide) fun KK hKK => ?_
 refine m_alloc ?_
 refine m_assign ?_
 refine hKK _ _ ?_
 clear hKK KK
 refine awp_rseq (by decide) fun KK hKK => ?_
 refine m_move ?_
 refine m_call (fun hG => twords_ok s (by omega)) ?_
 refine m_move ?_
 refine m_extract ?_
 refine m_extract ?_
 refine m_assign ?_
 refine m_assign ?_
 refine hKK _ _ ?_
 clear hKK KK
 generalize wordsF s = p at *
 obtain ⟨W, e⟩ := p
 dsimp only at hW ⊢
 have g := getD_size hW
 refine m_cut [(0, .str s), (2, .ptr 2 0), (4, .c (wdL W)), (5, .int e)] [(2, .box 47 ((itC it0).map .c))] ?_
 refine awp_seq ?_
 by_cases he : e = 0
 · subst he
   by_cases h5 : W.length = 5
   · have i0 := wdL_get (l := W) (i := 0) (by omega)
     have i1 := wdL_get (l := W) (i := 1) (by omega)
     have i2 := wdL_get (l := W) (i := 2) (by omega)
     have i3 := wdL_get (l := W) (i := 3) (by omega)
     have i4 := wdL_get (l := W) (i := 4) (by omega)
     have FF := And.intro i4 FF
     refine awp_rseq (by decide) fun KK hKK => ?_
     refine m_move ?_
     refine m_bin ?_
     refine m_move ?_
     refine g_move ?_
     refine g_len ?_
     refine g_bin ?_
     refine m_pick ?_
     refine m_move ?_
     refine g_move ?_
     first | refine g_index ?_ | refine g_idxA ?_
     refine g_load ?_
     refine g_bin ?_
     refine g_move ?_
     refine g_move ?_
     first | refine g_index ?_ | refine g_idxA ?_
     refine g_load ?_
     refine g_bin ?_
     refine g_pick ?_
     refine m_pick ?_
     refine hKK _ _ ?_
     clear hKK KK
     refine m_cond (fun hc => ?_) (fun hc => ?_)
     · have hs : shapeW W = false := by
         cases hS : shapeW W with
         | false => rfl
         | true =>
           unfold shapeW at hS
           simp only [str_beq] at hc
           generalize W.getD 4 ⟨#[]⟩ = x at *
           simp only [Bool.and_eq_true, Bool.or_eq_true, decide_eq_true_eq] at hS
           rcases hS.2 with q | q <;> simp [h5, q] at hc
       refine awp_rseq (by decide) fun KK hKK => ?_
       first | refine m_build ?_ | refine m_buildA ?_
       first | refine m_stPtr ?_ | refine m_stRp ?_
       refine m_assign ?_
       refine hKK _ _ ?_
       clear hKK KK
       refine awp_ret ⟨[_, _], ⟨k_load (by simp only [go_sem, reduceIte, Nat.reduceEqDiff, FF] <;> rfl) (by simp only [go_sem] <;> rfl) (by rfl) (by intro hG; simp only [go_sem]) (by exact lm_ptr (by simp only [go_sem, reduceIte, Nat.reduceEqDiff, FF] <;> rfl) (by simp only [go_sem, reduceIte, Nat.reduceEqDiff, FF, Nat.reduceAdd, Nat.reduceSub, Nat.reduceMul, Nat.reduceLeDiff] <;> rfl) (fun _ => Nat.le_of_ble_eq_true rfl)), ⟨(by simp only [go_sem, reduceIte, Nat.reduceEqDiff, FF]), (by simp only [go_sem, reduceIte, Nat.reduceEqDiff, FF] <;> rfl)⟩, trivial⟩, ?_⟩
       simp only [go_sem, reduceIte, Nat.reduceEqDiff, FF, tupled]
       rw [if_neg (by rw [hs]; simp)]
       exact CV.Sub.refl _
     have hs : shapeW W = true := by
       unfold shapeW
       simp only [str_beq] at hc
       generalize W.getD 4 ⟨#[]⟩ = x at *
       simp only [h5, decide_true, Bool.true_and]
       by_cases q : x = ⟨#[48]⟩
       · simp [q]
       · by_cases q2 : x = ⟨#[49]⟩
         · simp [q2]
         · simp [q, q2] at hc
     clear hc
     refine awp_skip ?_
     first | rw [thenQ_normal] | rw [blockQ_normal, thenQ_normal]
     have FF := And.intro i0 (And.intro i4 FF)
     refine awp_rseq_draw Tryz.mixed (by decide) (by kernel_rfl) fun KK hKK => ?_
     refine m_move ?_
     first | refine m_index ?_ | refine m_idxA ?_
     refine m_load ?_
     refine m_move ?_
     first | refine m_index ?_ | refine m_idxA ?_
     refine m_load ?_
     refine m_bin ?_
     first | refine m_build ?_ | refine m_buildA ?_
     refine m_alloc ?_
     first | refine m_stPtr ?_ | refine m_stRp ?_
     refine hKK _ _ ?_
     clear hKK KK
     refine awp_seq ?_
     refine awp_seqL ?_
     refine awpl_op (by rfl) (by rfl) ?_
     refine m_field ?_
     refine run_nil ?_
     refine awpl_op (by rfl) (by rfl) ?_
     refine m_field ?_
     refine run_nil ?_
     refine awpl_op (by rfl) (by rfl) ?_
     refine m_field ?_
     refine run_nil ?_
     refine awpl_bs3 ?_ (by simp only [go_sem, reduceIte, Nat.reduceEqDiff, FF] <;> rfl) (by simp only [go_sem, reduceIte, Nat.reduceEqDiff, FF] <;> rfl) (by simp only [go_sem, reduceIte, Nat.reduceEqDiff, FF] <;> rfl) (by rfl) (by rfl) (by rfl) (by simp only [go_sem] <;> rfl) (by rfl) (by simp only [go_sem] <;> rfl) (by rfl) (by rfl) (by simp only [go_sem, reduceIte, Nat.reduceEqDiff, FF] <;> rfl) (by decide)
     refine awpl_op (by rfl) (by rfl) ?_
     refine m_len ?_
     refine run_nil ?_
     refine awpl_op (by rfl) (by rfl) ?_
     refine m_move ?_
     refine run_nil ?_
     refine awpl_end ?_
     rw [thenQ_normal]
     refine awp_block ?_
     refine m_for (ι := Nat) (fun i => [(2, .ptr 2 0), (4, .c (wdL W)), (6, .ptr 6 0), (47, .bs 47 3), (48, .int 3), (49, .int i)]) (fun i => [(2, .box 47 ((itC it0).map .c)), (6, .box 47 [.str (W.getD 0 ⟨#[]⟩), .int (selN 0 i (numB (W.getD 1 ⟨#[]⟩)).1), .int (selN 1 i (numB (W.getD 2 ⟨#[]⟩)).1), .int (selN 2 i (numB (W.getD 3 ⟨#[]⟩)).1), .bool ((W.getD 4 ⟨#[]⟩).toList == (⟨#[49]⟩ : ByteArray).toList)]), (47, .box 156 [.ptr 6 1, .ptr 6 2, .ptr 6 3])]) (fun i => 3 - i) (fun i => i ≤ 3 ∧ ∀ k, 0 < k → k ≤ i → (numB (W.getD k ⟨#[]⟩)).2 = 0) (0) ?_ ?_
     · exact ⟨by omega, fun k h1 h2 => by omega⟩
     rintro i ⟨hi, hk⟩
     rcases (show i = 0 ∨ i = 1 ∨ i = 2 ∨ i = 3 by omega) with rfl | rfl | rfl | rfl
     · have w1 : IntKind.i64.wrap (0 + 1) = 1 := wrap_lit (by omega)
       refine m_cut [(2, .ptr 2 0), (4, .c (wdL W)), (6, .ptr 6 0), (47, .bs 47 3), (48, .int 3), (49, .int 0)] [(2, .box 47 ((itC it0).map .c)), (6, .box 47 [.str (W.getD 0 ⟨#[]⟩), .int 0, .int 0, .int 0, .bool ((W.getD 4 ⟨#[]⟩).toList == (⟨#[49]⟩ : ByteArray).toList)]), (47, .box 156 [.ptr 6 1, .ptr 6 2, .ptr 6 3])] ?_
       refine awp_rseq (by decide) fun KK hKK => ?_
       refine m_bin ?_
       refine hKK _ _ ?_
       clear hKK KK
       refine awp_seq ?_
       refine m_cond (fun hc => ?_) (fun hc => ?_)
       · refine awp_skip ?_
         first | rw [thenQ_normal] | rw [blockQ_normal, thenQ_normal]
         refine awp_seq (awp_block ?_)
         clear hc
         refine awp_rseq (by decide) fun KK hKK => ?_
         refine m_move ?_
         first | refine m_index ?_ | refine m_idxA ?_
         refine m_load ?_
         refine m_assign ?_
         refine m_assign ?_
         refine hKK _ _ ?_
         clear hKK KK
         have FF := And.intro i1 (And.intro w1 FF)
         refine awp_rseq (by decide) fun KK hKK => ?_
         refine m_move ?_
         refine m_move ?_
         refine m_bin ?_
         first | refine m_index ?_ | refine m_idxA ?_
         refine m_load ?_
         refine m_call (fun hG => number_ok (W.getD 1 ⟨#[]⟩) (Nat.le_trans (g 1) (by omega))) ?_
         refine m_move ?_
         refine m_extract ?_
         refine m_extract ?_
         refine m_assign ?_
         refine m_assign ?_
         refine hKK _ _ ?_
         clear hKK KK
         refine awp_seq ?_
         refine awp_rseq (by decide) fun KK hKK => ?_
         refine m_move ?_
         refine m_bin ?_
         refine hKK _ _ ?_
         clear hKK KK
         refine m_cond (fun hc => ?_) (fun hc => ?_)
         · refine awp_rseq (by decide) fun KK hKK => ?_
           first | refine m_build ?_ | refine m_buildA ?_
           first | refine m_stPtr ?_ | refine m_stRp ?_
           refine m_assign ?_
           refine hKK _ _ ?_
           clear hKK KK
           refine awp_ret ⟨[_, _], ⟨k_load (by simp only [go_sem, reduceIte, Nat.reduceEqDiff, FF] <;> rfl) (by simp only [go_sem] <;> rfl) (by rfl) (by intro hG; simp only [go_sem]) (by exact lm_ptr (by simp only [go_sem, reduceIte, Nat.reduceEqDiff, FF] <;> rfl) (by simp only [go_sem, reduceIte, Nat.reduceEqDiff, FF, Nat.reduceAdd, Nat.reduceSub, Nat.reduceMul, Nat.reduceLeDiff] <;> rfl) (fun _ => Nat.le_of_ble_eq_true rfl)), ⟨(by simp only [go_sem, reduceIte, Nat.reduceEqDiff, FF]), (by simp only [go_sem, reduceIte, Nat.reduceEqDiff, FF] <;> rfl)⟩, trivial⟩, ?_⟩
           simp only [go_sem, reduceIte, Nat.reduceEqDiff, FF, tupled]
           have hq : numsW W = false := by
             rw [Bool.eq_false_iff]
             intro q
             unfold numsW at q
             simp only [Bool.and_eq_true, beq_iff_eq] at q
             rw [q.1.1] at hc
             cases hc
           rw [if_neg (by simp [hq])]
           exact CV.Sub.refl _
         refine awp_skip ?_
         first | rw [thenQ_normal] | rw [blockQ_normal, thenQ_normal]
         refine awp_rlast (by decide) fun KK hKK => ?_
         refine m_move ?_
         refine m_move ?_
         refine m_nil ?_
         first | refine m_stPtr ?_ | refine m_stRp ?_
         refine hKK _ _ ?_
         clear hKK KK
         simp only [blockQ_normal, thenQ_normal]
         have FF := And.intro w1 FF
         refine awp_rlast (by decide) fun KK hKK => ?_
         refine m_bin ?_
         refine m_move ?_
         refine hKK _ _ ?_
         clear hKK KK
         try rw [thenQ_normal]
         refine m_next (1) ?_ ?_
         · refine ⟨by omega, fun k h1 h2 => ?_⟩
           by_cases hk' : k ≤ 0
           · exact hk k h1 hk'
           · obtain rfl : k = 1 := by omega
             simpa using hc
         · decide
       · cases hc
     · have w1 : IntKind.i64.wrap (1 + 1) = 2 := wrap_lit (by omega)
       refine m_cut [(2, .ptr 2 0), (4, .c (wdL W)), (6, .ptr 6 0), (47, .bs 47 3), (48, .int 3), (49, .int 1)] [(2, .box 47 ((itC it0).map .c)), (6, .box 47 [.str (W.getD 0 ⟨#[]⟩), .int (numB (W.getD 1 ⟨#[]⟩)).1, .int 0, .int 0, .bool ((W.getD 4 ⟨#[]⟩).toList == (⟨#[49]⟩ : ByteArray).toList)]), (47, .box 156 [.ptr 6 1, .ptr 6 2, .ptr 6 3])] ?_
       refine awp_rseq (by decide) fun KK hKK => ?_
       refine m_bin ?_
       refine hKK _ _ ?_
       clear hKK KK
       refine awp_seq ?_
       refine m_cond (fun hc => ?_) (fun hc => ?_)
       · refine awp_skip ?_
         first | rw [thenQ_normal] | rw [blockQ_normal, thenQ_normal]
         refine awp_seq (awp_block ?_)
         clear hc
         refine awp_rseq (by decide) fun KK hKK => ?_
         refine m_move ?_
         first | refine m_index ?_ | refine m_idxA ?_
         refine m_load ?_
         refine m_assign ?_
         refine m_assign ?_
         refine hKK _ _ ?_
         clear hKK KK
         have FF := And.intro i2 (And.intro w1 FF)
         refine awp_rseq (by decide) fun KK hKK => ?_
         refine m_move ?_
         refine m_move ?_
         refine m_bin ?_
         first | refine m_index ?_ | refine m_idxA ?_
         refine m_load ?_
         refine m_call (fun hG => number_ok (W.getD 2 ⟨#[]⟩) (Nat.le_trans (g 2) (by omega))) ?_
         refine m_move ?_
         refine m_extract ?_
         refine m_extract ?_
         refine m_assign ?_
         refine m_assign ?_
         refine hKK _ _ ?_
         clear hKK KK
         refine awp_seq ?_
         refine awp_rseq (by decide) fun KK hKK => ?_
         refine m_move ?_
         refine m_bin ?_
         refine hKK _ _ ?_
         clear hKK KK
         refine m_cond (fun hc => ?_) (fun hc => ?_)
         · refine awp_rseq (by decide) fun KK hKK => ?_
           first | refine m_build ?_ | refine m_buildA ?_
           first | refine m_stPtr ?_ | refine m_stRp ?_
           refine m_assign ?_
           refine hKK _ _ ?_
           clear hKK KK
           refine awp_ret ⟨[_, _], ⟨k_load (by simp only [go_sem, reduceIte, Nat.reduceEqDiff, FF] <;> rfl) (by simp only [go_sem] <;> rfl) (by rfl) (by intro hG; simp only [go_sem]) (by exact lm_ptr (by simp only [go_sem, reduceIte, Nat.reduceEqDiff, FF] <;> rfl) (by simp only [go_sem, reduceIte, Nat.reduceEqDiff, FF, Nat.reduceAdd, Nat.reduceSub, Nat.reduceMul, Nat.reduceLeDiff] <;> rfl) (fun _ => Nat.le_of_ble_eq_true rfl)), ⟨(by simp only [go_sem, reduceIte, Nat.reduceEqDiff, FF]), (by simp only [go_sem, reduceIte, Nat.reduceEqDiff, FF] <;> rfl)⟩, trivial⟩, ?_⟩
           simp only [go_sem, reduceIte, Nat.reduceEqDiff, FF, tupled]
           have hq : numsW W = false := by
             rw [Bool.eq_false_iff]
             intro q
             unfold numsW at q
             simp only [Bool.and_eq_true, beq_iff_eq] at q
             rw [q.1.2] at hc
             cases hc
           rw [if_neg (by simp [hq])]
           exact CV.Sub.refl _
         refine awp_skip ?_
         first | rw [thenQ_normal] | rw [blockQ_normal, thenQ_normal]
         refine awp_rlast (by decide) fun KK hKK => ?_
         refine m_move ?_
         refine m_move ?_
         refine m_nil ?_
         first | refine m_stPtr ?_ | refine m_stRp ?_
         refine hKK _ _ ?_
         clear hKK KK
         simp only [blockQ_normal, thenQ_normal]
         have FF := And.intro w1 FF
         refine awp_rlast (by decide) fun KK hKK => ?_
         refine m_bin ?_
         refine m_move ?_
         refine hKK _ _ ?_
         clear hKK KK
         try rw [thenQ_normal]
         refine m_next (2) ?_ ?_
         · refine ⟨by omega, fun k h1 h2 => ?_⟩
           by_cases hk' : k ≤ 1
           · exact hk k h1 hk'
           · obtain rfl : k = 2 := by omega
             simpa using hc
         · decide
       · cases hc
     · have w1 : IntKind.i64.wrap (2 + 1) = 3 := wrap_lit (by omega)
       refine m_cut [(2, .ptr 2 0), (4, .c (wdL W)), (6, .ptr 6 0), (47, .bs 47 3), (48, .int 3), (49, .int 2)] [(2, .box 47 ((itC it0).map .c)), (6, .box 47 [.str (W.getD 0 ⟨#[]⟩), .int (numB (W.getD 1 ⟨#[]⟩)).1, .int (numB (W.getD 2 ⟨#[]⟩)).1, .int 0, .bool ((W.getD 4 ⟨#[]⟩).toList == (⟨#[49]⟩ : ByteArray).toList)]), (47, .box 156 [.ptr 6 1, .ptr 6 2, .ptr 6 3])] ?_
       refine awp_rseq (by decide) fun KK hKK => ?_
       refine m_bin ?_
       refine hKK _ _ ?_
       clear hKK KK
       refine awp_seq ?_
       refine m_cond (fun hc => ?_) (fun hc => ?_)
       · refine awp_skip ?_
         first | rw [thenQ_normal] | rw [blockQ_normal, thenQ_normal]
         refine awp_seq (awp_block ?_)
         clear hc
         refine awp_rseq (by decide) fun KK hKK => ?_
         refine m_move ?_
         first | refine m_index ?_ | refine m_idxA ?_
         refine m_load ?_
         refine m_assign ?_
         refine m_assign ?_
         refine hKK _ _ ?_
         clear hKK KK
         have FF := And.intro i3 (And.intro w1 FF)
         refine awp_rseq (by decide) fun KK hKK => ?_
         refine m_move ?_
         refine m_move ?_
         refine m_bin ?_
         first | refine m_index ?_ | refine m_idxA ?_
         refine m_load ?_
         refine m_call (fun hG => number_ok (W.getD 3 ⟨#[]⟩) (Nat.le_trans (g 3) (by omega))) ?_
         refine m_move ?_
         refine m_extract ?_
         refine m_extract ?_
         refine m_assign ?_
         refine m_assign ?_
         refine hKK _ _ ?_
         clear hKK KK
         refine awp_seq ?_
         refine awp_rseq (by decide) fun KK hKK => ?_
         refine m_move ?_
         refine m_bin ?_
         refine hKK _ _ ?_
         clear hKK KK
         refine m_cond (fun hc => ?_) (fun hc => ?_)
         · refine awp_rseq (by decide) fun KK hKK => ?_
           first | refine m_build ?_ | refine m_buildA ?_
           first | refine m_stPtr ?_ | refine m_stRp ?_
           refine m_assign ?_
           refine hKK _ _ ?_
           clear hKK KK
           refine awp_ret ⟨[_, _], ⟨k_load (by simp only [go_sem, reduceIte, Nat.reduceEqDiff, FF] <;> rfl) (by simp only [go_sem] <;> rfl) (by rfl) (by intro hG; simp only [go_sem]) (by exact lm_ptr (by simp only [go_sem, reduceIte, Nat.reduceEqDiff, FF] <;> rfl) (by simp only [go_sem, reduceIte, Nat.reduceEqDiff, FF, Nat.reduceAdd, Nat.reduceSub, Nat.reduceMul, Nat.reduceLeDiff] <;> rfl) (fun _ => Nat.le_of_ble_eq_true rfl)), ⟨(by simp only [go_sem, reduceIte, Nat.reduceEqDiff, FF]), (by simp only [go_sem, reduceIte, Nat.reduceEqDiff, FF] <;> rfl)⟩, trivial⟩, ?_⟩
           simp only [go_sem, reduceIte, Nat.reduceEqDiff, FF, tupled]
           have hq : numsW W = false := by
             rw [Bool.eq_false_iff]
             intro q
             unfold numsW at q
             simp only [Bool.and_eq_true, beq_iff_eq] at q
             rw [q.2] at hc
             cases hc
           rw [if_neg (by simp [hq])]
           exact CV.Sub.refl _
         refine awp_skip ?_
         first | rw [thenQ_normal] | rw [blockQ_normal, thenQ_normal]
         refine awp_rlast (by decide) fun KK hKK => ?_
         refine m_move ?_
         refine m_move ?_
         refine m_nil ?_
         first | refine m_stPtr ?_ | refine m_stRp ?_
         refine hKK _ _ ?_
         clear hKK KK
         simp only [blockQ_normal, thenQ_normal]
         have FF := And.intro w1 FF
         refine awp_rlast (by decide) fun KK hKK => ?_
         refine m_bin ?_
         refine m_move ?_
         refine hKK _ _ ?_
         clear hKK KK
         try rw [thenQ_normal]
         refine m_next (3) ?_ ?_
         · refine ⟨by omega, fun k h1 h2 => ?_⟩
           by_cases hk' : k ≤ 2
           · exact hk k h1 hk'
           · obtain rfl : k = 3 := by omega
             simpa using hc
         · decide
       · cases hc
     · refine awp_rseq (by decide) fun KK hKK => ?_
       refine m_bin ?_
       refine hKK _ _ ?_
       clear hKK KK
       refine awp_seq ?_
       refine m_cond (fun hc => ?_) (fun hc => ?_)
       · cases hc
       refine awp_exit ?_
       simp only [thenQ_exit, blockQ_exit, reduceIte, Nat.reduceEqDiff]
       try rw [thenQ_normal]
       have n1 := hk 1 (by omega) (by omega)
       have n2 := hk 2 (by omega) (by omega)
       have n3 := hk 3 (by omega) (by omega)
       refine awp_rseq (by decide) fun KK hKK => ?_
       refine m_load ?_
       first | refine m_stPtr ?_ | refine m_stRp ?_
       refine m_assign ?_
       refine hKK _ _ ?_
       clear hKK KK
       refine awp_ret ⟨[_, _], ⟨k_load (by simp only [go_sem, reduceIte, Nat.reduceEqDiff, FF] <;> rfl) (by simp only [go_sem] <;> rfl) (by rfl) (by intro hG; simp only [go_sem]) (by exact lm_ptr (by simp only [go_sem, reduceIte, Nat.reduceEqDiff, FF] <;> rfl) (by simp only [go_sem, reduceIte, Nat.reduceEqDiff, FF, Nat.reduceAdd, Nat.reduceSub, Nat.reduceMul, Nat.reduceLeDiff] <;> rfl) (fun _ => Nat.le_of_ble_eq_true rfl)), ⟨(by simp only [go_sem, reduceIte, Nat.reduceEqDiff, FF]), (by simp only [go_sem, reduceIte, Nat.reduceEqDiff, FF] <;> rfl)⟩, trivial⟩, ?_⟩
       simp only [go_sem, reduceIte, Nat.reduceEqDiff, FF, tupled]
       have hq : numsW W = true := by unfold numsW; rw [n1, n2, n3]; rfl
       rw [if_pos (by simp [hs, hq])]
       unfold itW
       rw [str_beq]
       exact CV.Sub.refl _
   · have hb : ((W.length : Int) != 5) = true := by simp only [bne_iff_ne, ne_eq]; omega
     have h0 : ((0 : Int) != 0) = false := rfl
     refine awp_rseq (by decide) fun KK hKK => ?_
     refine st0 rfl (k_move (by simp only [go_sem, reduceIte, Nat.reduceEqDiff, FF, hb, h0] <;> rfl)) ?_
     refine st0 rfl (k_bin (by simp only [go_sem, reduceIte, Nat.reduceEqDiff, FF, hb, h0] <;> rfl) (by simp only [go_sem, reduceIte, Nat.reduceEqDiff, FF, hb, h0] <;> rfl) (by rfl) (by rfl) (by simp only [go_sem, reduceIte, Nat.reduceEqDiff, FF, hb, h0] <;> rfl) (by intro hG; simp only [go_sem])) ?_
     refine st0 rfl (k_move (by simp only [go_sem, reduceIte, Nat.reduceEqDiff, FF, hb, h0] <;> rfl)) ?_
     refine sg0 rfl rfl (by simp only [go_sem, reduceIte, Nat.reduceEqDiff, FF, hb, h0] <;> rfl) (by rfl) (by simp only [go_sem, reduceIte, Nat.reduceEqDiff, FF, hb, h0] <;> rfl) (k_move (by simp only [go_sem, reduceIte, Nat.reduceEqDiff, FF, hb, h0] <;> rfl)) ?_
     refine sg1 rfl rfl (by simp only [go_sem, reduceIte, Nat.reduceEqDiff, FF, hb, h0] <;> rfl) (by rfl) (by simp only [go_sem, reduceIte, Nat.reduceEqDiff, FF, hb, h0] <;> rfl) (k_len (by simp only [go_sem, reduceIte, Nat.reduceEqDiff, FF, hb, h0] <;> rfl) (by intro hG; simp only [go_sem, hG]) (by first | exact nm_im (by simp only [go_sem] <;> rfl) | exact nm_own (by simp only [go_sem] <;> rfl) (by simp only [go_sem, reduceIte, Nat.reduceEqDiff, FF, hb, h0] <;> rfl) (by intro hG; (repeat' apply And.intro) <;> first | rfl | omega | (simp only [Bool.not_eq_true', Bool.or_eq_false_iff, Bool.and_eq_true, decide_eq_true_eq, decide_eq_false_iff_not, beq_iff_eq] at hG; omega) | (dsimp only; omega) | (simp; done)) | exact nm_emp (by simp only [go_sem] <;> rfl) | exact nm_osub (by simp only [go_sem] <;> rfl) (by simp only [go_sem, reduceIte, Nat.reduceEqDiff, FF, hb, h0] <;> rfl) (by intro hG; (repeat' apply And.intro) <;> first | rfl | omega | (simp only [Bool.not_eq_true', Bool.or_eq_false_iff, Bool.and_eq_true, decide_eq_true_eq, decide_eq_false_iff_not, beq_iff_eq] at hG; omega) | (dsimp only; omega) | (simp; done)) | exact nm_str (by simp only [go_sem] <;> rfl))) ?_
     refine sg0 rfl rfl (by simp only [go_sem, reduceIte, Nat.reduceEqDiff, FF, hb, h0] <;> rfl) (by rfl) (by simp only [go_sem, reduceIte, Nat.reduceEqDiff, FF, hb, h0] <;> rfl) (k_bin (by simp only [go_sem, reduceIte, Nat.reduceEqDiff, FF, hb, h0] <;> rfl) (by simp only [go_sem, reduceIte, Nat.reduceEqDiff, FF, hb, h0] <;> rfl) (by rfl) (by rfl) (by simp only [go_sem, reduceIte, Nat.reduceEqDiff, FF, hb, h0] <;> rfl) (by intro hG; simp only [go_sem, hG])) ?_
     refine st0 rfl (k_pick (by simp only [go_sem, reduceIte, Nat.reduceEqDiff, FF, hb, h0] <;> rfl) (by simp only [go_sem, reduceIte, Nat.reduceEqDiff, FF, hb, h0] <;> rfl) (by simp only [go_sem, reduceIte, Nat.reduceEqDiff, FF, hb, h0] <;> rfl) (by rfl) (by rfl) (by rfl) (by intro hG; first | (simp only [go_sem, reduceIte, Nat.reduceEqDiff, FF, hb, h0, hb]; done) | (simp [go_sem]; done) | (simp [go_sem] at hG ⊢ <;> simp [hG] <;> (intros; simp_all))) (by first | (simp only [go_sem, reduceIte, Nat.reduceEqDiff, FF, hb, h0] <;> rfl) | rfl)) ?_
     refine st0 rfl (k_move (by simp only [go_sem, reduceIte, Nat.reduceEqDiff, FF, hb, h0] <;> rfl)) ?_
     refine sgF rfl (by simp only [go_sem, reduceIte, Nat.reduceEqDiff, FF, hb, h0] <;> rfl) (by rfl) (by simp only [go_sem, reduceIte, Nat.reduceEqDiff, FF, hb, h0, hb] <;> rfl) ?_
     refine sgF rfl (by simp only [go_sem, reduceIte, Nat.reduceEqDiff, FF, hb, h0] <;> rfl) (by rfl) (by simp only [go_sem, reduceIte, Nat.reduceEqDiff, FF, hb, h0, hb] <;> rfl) ?_
     refine sgF rfl (by simp only [go_sem, reduceIte, Nat.reduceEqDiff, FF, hb, h0] <;> rfl) (by rfl) (by simp only [go_sem, reduceIte, Nat.reduceEqDiff, FF, hb, h0, hb] <;> rfl) ?_
     refine sgF rfl (by simp only [go_sem, reduceIte, Nat.reduceEqDiff, FF, hb, h0] <;> rfl) (by rfl) (by simp only [go_sem, reduceIte, Nat.reduceEqDiff, FF, hb, h0, hb] <;> rfl) ?_
     refine sgF rfl (by simp only [go_sem, reduceIte, Nat.reduceEqDiff, FF, hb, h0] <;> rfl) (by rfl) (by simp only [go_sem, reduceIte, Nat.reduceEqDiff, FF, hb, h0, hb] <;> rfl) ?_
     refine sgF rfl (by simp only [go_sem, reduceIte, Nat.reduceEqDiff, FF, hb, h0] <;> rfl) (by rfl) (by simp only [go_sem, reduceIte, Nat.reduceEqDiff, FF, hb, h0, hb] <;> rfl) ?_
     refine sgF rfl (by simp only [go_sem, reduceIte, Nat.reduceEqDiff, FF, hb, h0] <;> rfl) (by rfl) (by simp only [go_sem, reduceIte, Nat.reduceEqDiff, FF, hb, h0, hb] <;> rfl) ?_
     refine sgF rfl (by simp only [go_sem, reduceIte, Nat.reduceEqDiff, FF, hb, h0] <;> rfl) (by rfl) (by simp only [go_sem, reduceIte, Nat.reduceEqDiff, FF, hb, h0, hb] <;> rfl) ?_
     refine sgF rfl (by simp only [go_sem, reduceIte, Nat.reduceEqDiff, FF, hb, h0] <;> rfl) (by rfl) (by simp only [go_sem, reduceIte, Nat.reduceEqDiff, FF, hb, h0, hb] <;> rfl) ?_
     refine sgF rfl (by simp only [go_sem, reduceIte, Nat.reduceEqDiff, FF, hb, h0] <;> rfl) (by rfl) (by simp only [go_sem, reduceIte, Nat.reduceEqDiff, FF, hb, h0, hb] <;> rfl) ?_
     refine st0 rfl (k_pick (by simp only [go_sem, reduceIte, Nat.reduceEqDiff, FF, hb, h0] <;> rfl) (by simp only [go_sem, reduceIte, Nat.reduceEqDiff, FF, hb, h0] <;> rfl) (by simp only [go_sem, reduceIte, Nat.reduceEqDiff, FF, hb, h0] <;> rfl) (by rfl) (by rfl) (by rfl) (by intro hG; first | (simp only [go_sem, reduceIte, Nat.reduceEqDiff, FF, hb, h0, hb]; done) | (simp [go_sem]; done) | (simp [go_sem] at hG ⊢ <;> simp [hG] <;> (intros; simp_all))) (by first | (simp only [go_sem, reduceIte, Nat.reduceEqDiff, FF, hb, h0] <;> rfl) | rfl)) ?_
     refine hKK _ _ ?_
     clear hKK KK
     refine awp_cond (by simp only [go_sem, reduceIte, Nat.reduceEqDiff, FF, hb, h0] <;> rfl) (fun hc => ?_) (fun hc => ?_)
     · refine awp_rseq (by decide) fun KK hKK => ?_
       first | refine m_build ?_ | refine m_buildA ?_
       first | refine m_stPtr ?_ | refine m_stRp ?_
       refine m_assign ?_
       refine hKK _ _ ?_
       clear hKK KK
       refine awp_ret ⟨[_, _], ⟨k_load (by simp only [go_sem, reduceIte, Nat.reduceEqDiff, FF] <;> rfl) (by simp only [go_sem] <;> rfl) (by rfl) (by intro hG; simp only [go_sem]) (by exact lm_ptr (by simp only [go_sem, reduceIte, Nat.reduceEqDiff, FF] <;> rfl) (by simp only [go_sem, reduceIte, Nat.reduceEqDiff, FF, Nat.reduceAdd, Nat.reduceSub, Nat.reduceMul, Nat.reduceLeDiff] <;> rfl) (fun _ => Nat.le_of_ble_eq_true rfl)), ⟨(by simp only [go_sem, reduceIte, Nat.reduceEqDiff, FF]), (by simp only [go_sem, reduceIte, Nat.reduceEqDiff, FF] <;> rfl)⟩, trivial⟩, ?_⟩
       simp only [go_sem, reduceIte, Nat.reduceEqDiff, FF, tupled]
       rw [if_neg (by unfold shapeW; rw [decide_eq_false h5]; simp)]
       exact CV.Sub.refl _
     · cases hc
 · have hb : (e != 0) = true := by simp only [bne_iff_ne, ne_eq]; exact he
   refine awp_rseq (by decide) fun KK hKK => ?_
   refine st0 rfl (k_move (by simp only [go_sem, reduceIte, Nat.reduceEqDiff, FF, hb] <;> rfl)) ?_
   refine st0 rfl (k_bin (by simp only [go_sem, reduceIte, Nat.reduceEqDiff, FF, hb] <;> rfl) (by simp only [go_sem, reduceIte, Nat.reduceEqDiff, FF, hb] <;> rfl) (by rfl) (by rfl) (by simp only [go_sem, reduceIte, Nat.reduceEqDiff, FF, hb] <;> rfl) (by intro hG; simp only [go_sem])) ?_
   refine st0 rfl (k_move (by simp only [go_sem, reduceIte, Nat.reduceEqDiff, FF, hb] <;> rfl)) ?_
   refine sgF rfl (by simp only [go_sem, reduceIte, Nat.reduceEqDiff, FF, hb] <;> rfl) (by rfl) (by simp only [go_sem, reduceIte, Nat.reduceEqDiff, FF, hb, hb] <;> rfl) ?_
   refine sgF rfl (by simp only [go_sem, reduceIte, Nat.reduceEqDiff, FF, hb] <;> rfl) (by rfl) (by simp only [go_sem, reduceIte, Nat.reduceEqDiff, FF, hb, hb] <;> rfl) ?_
   refine sgF rfl (by simp only [go_sem, reduceIte, Nat.reduceEqDiff, FF, hb] <;> rfl) (by rfl) (by simp only [go_sem, reduceIte, Nat.reduceEqDiff, FF, hb, hb] <;> rfl) ?_
   refine st0 rfl (k_pick (by simp only [go_sem, reduceIte, Nat.reduceEqDiff, FF, hb] <;> rfl) (by simp only [go_sem, reduceIte, Nat.reduceEqDiff, FF, hb] <;> rfl) (by simp only [go_sem, reduceIte, Nat.reduceEqDiff, FF, hb] <;> rfl) (by rfl) (by rfl) (by rfl) (by intro hG; first | (simp only [go_sem, reduceIte, Nat.reduceEqDiff, FF, hb, hb]; done) | (simp [go_sem]; done) | (simp [go_sem] at hG ⊢ <;> simp [hG] <;> (intros; simp_all))) (by first | (simp only [go_sem, reduceIte, Nat.reduceEqDiff, FF, hb] <;> rfl) | rfl)) ?_
   refine st0 rfl (k_move (by simp only [go_sem, reduceIte, Nat.reduceEqDiff, FF, hb] <;> rfl)) ?_
   refine sgF rfl (by simp only [go_sem, reduceIte, Nat.reduceEqDiff, FF, hb] <;> rfl) (by rfl) (by simp only [go_sem, reduceIte, Nat.reduceEqDiff, FF, hb, hb] <;> rfl) ?_
   refine sgF rfl (by simp only [go_sem, reduceIte, Nat.reduceEqDiff, FF, hb] <;> rfl) (by rfl) (by simp only [go_sem, reduceIte, Nat.reduceEqDiff, FF, hb, hb] <;> rfl) ?_
   refine sgF rfl (by simp only [go_sem, reduceIte, Nat.reduceEqDiff, FF, hb] <;> rfl) (by rfl) (by simp only [go_sem, reduceIte, Nat.reduceEqDiff, FF, hb, hb] <;> rfl) ?_
   refine sgF rfl (by simp only [go_sem, reduceIte, Nat.reduceEqDiff, FF, hb] <;> rfl) (by rfl) (by simp only [go_sem, reduceIte, Nat.reduceEqDiff, FF, hb, hb] <;> rfl) ?_
   refine sgF rfl (by simp only [go_sem, reduceIte, Nat.reduceEqDiff, FF, hb] <;> rfl) (by rfl) (by simp only [go_sem, reduceIte, Nat.reduceEqDiff, FF, hb, hb] <;> rfl) ?_
   refine sgF rfl (by simp only [go_sem, reduceIte, Nat.reduceEqDiff, FF, hb] <;> rfl) (by rfl) (by simp only [go_sem, reduceIte, Nat.reduceEqDiff, FF, hb, hb] <;> rfl) ?_
   refine sgF rfl (by simp only [go_sem, reduceIte, Nat.reduceEqDiff, FF, hb] <;> rfl) (by rfl) (by simp only [go_sem, reduceIte, Nat.reduceEqDiff, FF, hb, hb] <;> rfl) ?_
   refine sgF rfl (by simp only [go_sem, reduceIte, Nat.reduceEqDiff, FF, hb] <;> rfl) (by rfl) (by simp only [go_sem, reduceIte, Nat.reduceEqDiff, FF, hb, hb] <;> rfl) ?_
   refine sgF rfl (by simp only [go_sem, reduceIte, Nat.reduceEqDiff, FF, hb] <;> rfl) (by rfl) (by simp only [go_sem, reduceIte, Nat.reduceEqDiff, FF, hb, hb] <;> rfl) ?_
   refine sgF rfl (by simp only [go_sem, reduceIte, Nat.reduceEqDiff, FF, hb] <;> rfl) (by rfl) (by simp only [go_sem, reduceIte, Nat.reduceEqDiff, FF, hb, hb] <;> rfl) ?_
   refine st0 rfl (k_pick (by simp only [go_sem, reduceIte, Nat.reduceEqDiff, FF, hb] <;> rfl) (by simp only [go_sem, reduceIte, Nat.reduceEqDiff, FF, hb] <;> rfl) (by simp only [go_sem, reduceIte, Nat.reduceEqDiff, FF, hb] <;> rfl) (by rfl) (by rfl) (by rfl) (by intro hG; first | (simp only [go_sem, reduceIte, Nat.reduceEqDiff, FF, hb, hb]; done) | (simp [go_sem]; done) | (simp [go_sem] at hG ⊢ <;> simp [hG] <;> (intros; simp_all))) (by first | (simp only [go_sem, reduceIte, Nat.reduceEqDiff, FF, hb] <;> rfl) | rfl)) ?_
   refine hKK _ _ ?_
   clear hKK KK
   refine awp_cond (by simp only [go_sem, reduceIte, Nat.reduceEqDiff, FF, hb] <;> rfl) (fun hc => ?_) (fun hc => ?_)
   · refine awp_rseq (by decide) fun KK hKK => ?_
     first | refine m_build ?_ | refine m_buildA ?_
     first | refine m_stPtr ?_ | refine m_stRp ?_
     refine m_assign ?_
     refine hKK _ _ ?_
     clear hKK KK
     refine awp_ret ⟨[_, _], ⟨k_load (by simp only [go_sem, reduceIte, Nat.reduceEqDiff, FF] <;> rfl) (by simp only [go_sem] <;> rfl) (by rfl) (by intro hG; simp only [go_sem]) (by exact lm_ptr (by simp only [go_sem, reduceIte, Nat.reduceEqDiff, FF] <;> rfl) (by simp only [go_sem, reduceIte, Nat.reduceEqDiff, FF, Nat.reduceAdd, Nat.reduceSub, Nat.reduceMul, Nat.reduceLeDiff] <;> rfl) (fun _ => Nat.le_of_ble_eq_true rfl)), ⟨(by simp only [go_sem, reduceIte, Nat.reduceEqDiff, FF]), (by simp only [go_sem, reduceIte, Nat.reduceEqDiff, FF] <;> rfl)⟩, trivial⟩, ?_⟩
     simp only [go_sem, reduceIte, Nat.reduceEqDiff, FF, tupled]
     rw [if_neg (by simp [he])]
     exact CV.Sub.refl _
   · cases hc
end Go.Am
namespace Go.Am
open Go.Proofs
attribute [local go_sem ↓] ofL_cons ofH_cons upd_apply
set_option maxHeartbeats 2000000
set_option linter.unusedSimpArgs false
theorem cut_size {t l u : ByteArray} (h : cutL t.data.toList = some (l.data.toList, u.data.toList)) : t.size = l.size + 1 + u.size := by
 have := congrArg List.length (cutL_some _ _ _ h).1
 rw [List.length_append, List.length_cons] at this
 have e : ∀ x : ByteArray, x.data.toList.length = x.size := fun _ => rfl
 rw [e, e, e] at this
 omega
def headW (W : List ByteArray) : Bool := decide (W.length = 2) && decide (W.getD 0 ⟨#[]⟩ = ⟨#[114, 117, 110]⟩)
theorem headF_W (l : ByteArray) : headF l.data.toList = if (wordsF l).2 = 0 ∧ headW (wordsF l).1 = true then some ((wordsF l).1.getD 1 ⟨#[]⟩) else none := by
 unfold headF wordsF
 cases wordsL l.data.toList with
 | none => simp
 | some w =>
   simp only
   match w with
   | [] => simp [headW]
   | [a] => simp [headW]
   | a :: b :: c :: d => simp [headW]
   | [a, b] =>
     have e0 : (⟨#[114, 117, 110]⟩ : ByteArray) = ofB runL := rfl
     simp only [headW, List.map_cons, List.map_nil, List.length_cons, List.length_nil, List.getD_cons_succ, List.getD_cons_zero, e0, ofB_inj]
     by_cases h : a = runL
     · simp [h]
     · simp [h]
structure DInv (s : ByteArray) (first : Bool) (r : Rn) (t : ByteArray) : Prop where
 sz : s.size ≤ 65536
 le : r.items.length + t.size ≤ 65536
 f : first = true → t = s ∧ r = rn0
 g : first = false → ∃ l u, cutL s.data.toList = some (l, u) ∧ headF l = some r.name ∧ decA r.items t.data.toList = decA [] u
theorem d_start {s : ByteArray} (h : s.size ≤ 65536) : DInv s true rn0 s := ⟨h, by show 0 + s.size ≤ _; omega, fun _ => ⟨rfl, rfl⟩, fun h => by cases h⟩
theorem decode_at {s : ByteArray} (h : s.size ≤ 65536) {l u : List UInt8} {n : ByteArray} (hc : cutL s.data.toList = some (l, u)) (hh : headF l = some n) : decodeF s = endF (⟨n, (decA [] u).1⟩, (decA [] u).2) := by
 unfold decodeF
 rw [if_neg (by omega), hc]
 simp only [hh]
theorem endF_err {n : ByteArray} {l : List It} {e : Int} (h : e ≠ 0) : endF (⟨n, l⟩, e) = (rn0, e) := by
 unfold endF
 rw [if_pos h]
theorem d_none {s t : ByteArray} {first : Bool} {r : Rn} (H : DInv s first r t) (h : cutL t.data.toList = none) (hn : first = true ∨ t.size ≠ 0) : decodeF s = (rn0, 9) := by
 cases first with
 | true =>
   obtain ⟨rfl, rfl⟩ := H.f rfl
   unfold decodeF
   rw [if_neg (by have := H.sz; omega), h]
 | false =>
   obtain ⟨l, u, h1, h2, h3⟩ := H.g rfl
   rw [decode_at H.sz h1 h2, ← h3, decA_none (fun e => by rcases hn with q | q; cases q; exact q (by show t.data.toList.length = 0; rw [e]; rfl)) h]
   exact endF_err (by decide)
theorem d_bad0 {s t : ByteArray} {r : Rn} (H : DInv s true r t) {l u : List UInt8} (h : cutL t.data.toList = some (l, u)) (hh : headF l = none) : decodeF s = (rn0, 8) := by
 obtain ⟨rfl, rfl⟩ := H.f rfl
 unfold decodeF
 rw [if_neg (by have := H.sz; omega), h]
 simp only [hh]
theorem d_bad1 {s t : ByteArray} {r : Rn} (H : DInv s false r t) {l u : List UInt8} (h : cutL t.data.toList = some (l, u)) (hh : itemF numL l = none) : decodeF s = (rn0, 8) := by
 obtain ⟨l', u', h1, h2, h3⟩ := H.g rfl
 rw [decode_at H.sz h1 h2, ← h3, decA_bad h hh]
 exact endF_err (by decide)
theorem d_next0 {s t l u : ByteArray} {r : Rn} {n : ByteArray} (H : DInv s true r t) (h : cutL t.data.toList = some (l.data.toList, u.data.toList)) (hh : headF l.data.toList = some n) : DInv s false ⟨n, []⟩ u := by
 obtain ⟨rfl, rfl⟩ := H.f rfl
 have := cut_size h
 have hz := H.sz
 exact ⟨H.sz, by show 0 + u.size ≤ _; omega, (fun q => by cases q), fun _ => ⟨_, _, h, hh, rfl⟩⟩
theorem d_next1 {s t l u : ByteArray} {r : Rn} {x : It} (H : DInv s false r t) (h : cutL t.data.toList = some (l.data.toList, u.data.toList)) (hh : itemF numL l.data.toList = some x) : DInv s false ⟨r.name, r.items ++ [x]⟩ u := by
 obtain ⟨l', u', h1, h2, h3⟩ := H.g rfl
 have := cut_size h
 have hz := H.le
 refine ⟨H.sz, ?_, (fun q => by cases q), fun _ => ⟨l', u', h1, h2, ?_⟩⟩
 · show (r.items ++ [x]).length + u.size ≤ _
   rw [List.length_append, List.length_singleton]
   omega
 · rw [← h3, decA_next h hh]
theorem d_end {s t : ByteArray} {r : Rn} (H : DInv s false r t) (h : t.size = 0) : decodeF s = endF (r, 0) := by
 obtain ⟨l, u, h1, h2, h3⟩ := H.g rfl
 rw [data_nil h, decA_nil] at h3
 rw [decode_at H.sz h1 h2, ← h3]
theorem rn0_sub : CV.Sub (.agg [.str ⟨#[]⟩, .im 0 0 fun _ => []]) (.agg (rnC rn0)) := CV.Sub.agg rfl fun i hi => match i, hi with | 0, _ => CV.Sub.refl _ | 1, _ => CV.Sub.im0 rfl rfl
abbrev itR (l : List It) : Nat → List CV := fun i => (l.map itC).getD i []
theorem itR_app (l m : List It) : ∀ i, i < l.length + m.length → (if i < l.length then itR l i else itR m (i - l.length)) = itR (l ++ m) i := by
 intro i hi
 unfold itR
 rw [List.map_append, List.getD_eq_getElem?_getD, List.getD_eq_getElem?_getD, List.getD_eq_getElem?_getD]
 split
 · rw [List.getElem?_append_left (by simpa using ‹_›)]
 · rw [List.getElem?_append_right (by simp; omega), List.length_map]
theorem empty_size {t : ByteArray} (h : (t.toList == (⟨#[]⟩ : ByteArray).toList) = true) : t.size = 0 := by
 rw [str_beq, decide_eq_true_eq] at h
 rw [h]
 rfl
theorem empty_not {t : ByteArray} (h : (t.toList == (⟨#[]⟩ : ByteArray).toList) = false) : t.size ≠ 0 := by
 rw [str_beq, decide_eq_false_iff_not] at h
 intro e
 apply h
 rw [← ofB_data t, data_nil e]
 rfl
variable [Glb]
end Go.Am
namespace Go.Am
open Go.Proofs
attribute [local go_sem ↓] ofL_cons ofH_cons upd_apply
set_option maxHeartbeats 2000000
set_option linter.unusedSimpArgs false
theorem ib_none {t : ByteArray} (h : Lib.indexByte t.data.toList 10 < 0) : cutL t.data.toList = none := by
 have : Lib.indexByte t.data.toList 10 = -1 := by
   have := Lib.indexByte_ge t.data.toList 10
   omega
 exact cutL_no fun k => Lib.indexByte_none this k
theorem ib_some {t : ByteArray} (h : ¬ Lib.indexByte t.data.toList 10 < 0) : ∃ i : Nat, Lib.indexByte t.data.toList 10 = (i : Int) ∧ i < t.size ∧ cutL t.data.toList = some ((t.extract 0 i).data.toList, (t.extract (i + 1) t.size).data.toList) := by
 obtain ⟨i, hi⟩ : ∃ i : Nat, Lib.indexByte t.data.toList 10 = (i : Int) := ⟨(Lib.indexByte t.data.toList 10).toNat, by omega⟩
 obtain ⟨h1, h2⟩ := Lib.indexByte_some hi
 have hlt : i < t.size := (List.getElem?_eq_some_iff.1 h1).1
 refine ⟨i, hi, hlt, ?_⟩
 rw [cutL_at h1 h2, ext_take, ext_drop]
 rfl
variable [Glb]
theorem decode_go [NoDr] [Tabs] [TabM] (s : ByteArray) : APure Tryz.prog 21 [.str s] (.tup [.agg (rnC (decodeF s).1), .int (decodeF s).2]) := by
 have FF : True := trivial
 refine apure_of Tryz.func21 rfl (by kernel_rfl) (by simp [Tryz.ntmps21]) ?_
 rw [Tryz.ntmps21]
 refine awp_rseq (by decide) fun KK hKK => ?_
 refine m_alloc ?_
 refine m_assign ?_
 refine hKK _ _ ?_
 clear hKK KK
 refine awp_seq ?_
 refine awp_rseq (by decide) fun KK hKK => ?_
 refine m_move ?_
 refine m_len ?_
 refine m_bin ?_
 refine hKK _ _ ?_
 clear hKK KK
 refine m_cond (fun hc => ?_) (fun hc => ?_)
 · simp only [decide_eq_true_eq] at hc
   have e0 : decodeF s = (rn0, 7) := by unfold decodeF; rw [if_pos (by omega)]
   rw [e0]
   refine awp_rseq (by decide) fun KK hKK => ?_
   first | refine m_build ?_ | refine m_buildA ?_
   first | refine m_stPtr ?_ | refine m_stRp ?_
   refine m_assign ?_
   refine hKK _ _ ?_
   clear hKK KK
   refine awp_ret ⟨[_, _], ⟨k_load (by simp only [go_sem, reduceIte, Nat.reduceEqDiff, FF] <;> rfl) (by simp only [go_sem] <;> rfl) (by rfl) (by intro hG; simp only [go_sem]) (by exact lm_ptr (by simp only [go_sem, reduceIte, Nat.reduceEqDiff, FF] <;> rfl) (by simp only [go_sem, reduceIte, Nat.reduceEqDiff, FF, Nat.reduceAdd, Nat.reduceSub, Nat.reduceMul, Nat.reduceLeDiff] <;> rfl) (fun _ => Nat.le_of_ble_eq_true rfl)), ⟨(by simp only [go_sem, reduceIte, Nat.reduceEqDiff, FF]), (by simp only [go_sem, reduceIte, Nat.reduceEqDiff, FF] <;> rfl)⟩, trivial⟩, ?_⟩
   simp only [go_sem, reduceIte, Nat.reduceEqDiff, FF, tupled]
   exact sub_tup2 rn0_sub (CV.Sub.refl _)
 have hsz : s.size ≤ 65536 := by simp only [decide_eq_false_iff_not] at hc; omega
 clear hc
 refine awp_skip ?_
 first | rw [thenQ_normal] | rw [blockQ_normal, thenQ_normal]
 refine awp_rseq (by decide) fun KK hKK => ?_
 refine m_alloc ?_
 refine hKK _ _ ?_
 clear hKK KK
 refine awp_seq ?_
 refine awp_rseq (by decide) fun KK hKK => ?_
 refine m_assign ?_
 refine hKK _ _ ?_
 clear hKK KK
 refine awp_block ?_
 refine AWp.weak (weak_adoptB 4 1 100 _ _ 47 5 (itR []) (by simp only [go_sem, reduceIte, Nat.reduceEqDiff, FF] <;> rfl) (by rfl) (by simp only [go_sem, reduceIte, Nat.reduceEqDiff, FF])) ?_
 refine m_for (ι := Bool × Rn × ByteArray) (fun p => [(0, .str p.2.2), (2, .ptr 2 0), (4, .ptr 4 0), (5, .bool p.1)]) (fun p => [(2, .box 24 [.str ⟨#[]⟩, .emp]), (4, .box 24 [.str p.2.1.name, .own 100 p.2.1.items.length]), (100, .row 47 5 p.2.1.items.length (itR p.2.1.items))]) (fun p => p.2.2.size + (if p.1 then 1 else 0)) (fun p => DInv s p.1 p.2.1 p.2.2) ((true, rn0, s)) ?_ ?_
 · exact d_start hsz
 rintro ⟨first, r, t⟩ H
 dsimp only at H
 have hle := H.le
 refine m_join (ι := Unit) (fun i => [(0, .str t), (2, .ptr 2 0), (4, .ptr 4 0), (5, .bool first)]) (fun i => [(2, .box 24 [.str ⟨#[]⟩, .emp]), (4, .box 24 [.str r.name, .own 100 r.items.length]), (100, .row 47 5 r.items.length (itR r.items))]) (fun i => first = true ∨ t.size ≠ 0) ?_ ?_
 · cases first with
   | true =>
     have hT : (true : Bool) = true := rfl
     refine awp_rseq (by decide) fun KK hKK => ?_
     refine st0 rfl (k_move (by simp only [go_sem, reduceIte, Nat.reduceEqDiff, FF] <;> rfl)) ?_
     refine st0 rfl (k_move (by simp only [go_sem, reduceIte, Nat.reduceEqDiff, FF] <;> rfl)) ?_
     refine sgF rfl (by simp only [go_sem, reduceIte, Nat.reduceEqDiff, FF] <;> rfl) (by rfl) (by simp only [go_sem, reduceIte, Nat.reduceEqDiff, FF, hT] <;> rfl) ?_
     refine sgF rfl (by simp only [go_sem, reduceIte, Nat.reduceEqDiff, FF] <;> rfl) (by rfl) (by simp only [go_sem, reduceIte, Nat.reduceEqDiff, FF, hT] <;> rfl) ?_
     refine st0 rfl (k_pick (by simp only [go_sem, reduceIte, Nat.reduceEqDiff, FF] <;> rfl) (by simp only [go_sem, reduceIte, Nat.reduceEqDiff, FF] <;> rfl) (by simp only [go_sem, reduceIte, Nat.reduceEqDiff, FF] <;> rfl) (by rfl) (by rfl) (by rfl) (by intro hG; first | (simp only [go_sem, reduceIte, Nat.reduceEqDiff, FF, hT]; done) | (simp [go_sem]; done) | (simp [go_sem] at hG ⊢ <;> simp [hG] <;> (intros; simp_all))) (by first | (simp only [go_sem, reduceIte, Nat.reduceEqDiff, FF] <;> rfl) | rfl)) ?_
     refine hKK _ _ ?_
     clear hKK KK
     refine m_cond (fun hc => ?_) (fun hc => ?_)
     · refine awp_skip ?_
       try rw [thenQ_normal]
       refine ⟨(), ?_, (by simp only [List.forall_mem_cons, List.forall_mem_nil, go_sem, reduceIte, Nat.reduceEqDiff, FF]; all_goals ((repeat' apply And.intro) <;> first | trivial | rfl | exact objLe_refl _ | (intro _ _; exact Subs.refl _))), (by simp only [List.forall_mem_cons, List.forall_mem_nil, go_sem, reduceIte, Nat.reduceEqDiff, FF]; all_goals ((repeat' apply And.intro) <;> first | trivial | rfl | exact objLe_refl _ | (intro _ _; exact Subs.refl _)))⟩
       exact .inl rfl
     · cases hc
   | false =>
     refine awp_rseq (by decide) fun KK hKK => ?_
     refine m_move ?_
     refine m_move ?_
     refine g_move ?_
     refine g_bin ?_
     refine m_pick ?_
     refine hKK _ _ ?_
     clear hKK KK
     refine m_cond (fun hc => ?_) (fun hc => ?_)
     · refine awp_skip ?_
       try rw [thenQ_normal]
       refine ⟨(), ?_, (by simp only [List.forall_mem_cons, List.forall_mem_nil, go_sem, reduceIte, Nat.reduceEqDiff, FF]; all_goals ((repeat' apply And.intro) <;> first | trivial | rfl | exact objLe_refl _ | (intro _ _; exact Subs.refl _))), (by simp only [List.forall_mem_cons, List.forall_mem_nil, go_sem, reduceIte, Nat.reduceEqDiff, FF]; all_goals ((repeat' apply And.intro) <;> first | trivial | rfl | exact objLe_refl _ | (intro _ _; exact Subs.refl _)))⟩
       exact .inr (empty_not (by simpa using hc))
     · refine awp_exit ?_
       simp only [thenQ_exit, blockQ_exit, reduceIte, Nat.reduceEqDiff]
       try rw [thenQ_normal]
       have ht : t.size = 0 := empty_size (by simpa using hc)
       rw [d_end H ht]
       clear hc
       obtain ⟨name, items⟩ := r
       dsimp only at hle ⊢
       refine m_frz 100 [(2, .ptr 2 0), (4, .ptr 4 0)] [(2, .box 24 [.str ⟨#[]⟩, .emp]), (4, .box 24 [.str name, .c (itL items)])] ?_
       refine awp_seq ?_
       refine awp_rseq (by decide) fun KK hKK => ?_
       refine m_load ?_
       refine m_call (fun hG => check_ok ⟨name, items⟩ (by dsimp only; omega)) ?_
       refine m_assign ?_
       refine hKK _ _ ?_
       clear hKK KK
       refine awp_rseq (by decide) fun KK hKK => ?_
       refine m_move ?_
       refine m_bin ?_
       refine hKK _ _ ?_
       clear hKK KK
       unfold endF
       rw [if_neg (by simp)]
       refine m_cond (fun hc => ?_) (fun hc => ?_)
       · rw [if_pos (by simpa using hc)]
         refine awp_rseq (by decide) fun KK hKK => ?_
         first | refine m_build ?_ | refine m_buildA ?_
         refine m_move ?_
         first | refine m_stPtr ?_ | refine m_stRp ?_
         refine m_assign ?_
         refine hKK _ _ ?_
         clear hKK KK
         refine awp_ret ⟨[_, _], ⟨k_load (by simp only [go_sem, reduceIte, Nat.reduceEqDiff, FF] <;> rfl) (by simp only [go_sem] <;> rfl) (by rfl) (by intro hG; simp only [go_sem]) (by exact lm_ptr (by simp only [go_sem, reduceIte, Nat.reduceEqDiff, FF] <;> rfl) (by simp only [go_sem, reduceIte, Nat.reduceEqDiff, FF, Nat.reduceAdd, Nat.reduceSub, Nat.reduceMul, Nat.reduceLeDiff] <;> rfl) (fun _ => Nat.le_of_ble_eq_true rfl)), ⟨(by simp only [go_sem, reduceIte, Nat.reduceEqDiff, FF]), (by simp only [go_sem, reduceIte, Nat.reduceEqDiff, FF] <;> rfl)⟩, trivial⟩, ?_⟩
         simp only [go_sem, reduceIte, Nat.reduceEqDiff, FF, tupled]
         exact sub_tup2 rn0_sub (CV.Sub.refl _)
       rw [if_neg (by simpa using hc)]
       refine awp_skip ?_
       first | rw [thenQ_normal] | rw [blockQ_normal, thenQ_normal]
       refine awp_rseq (by decide) fun KK hKK => ?_
       refine m_load ?_
       first | refine m_stPtr ?_ | refine m_stRp ?_
       refine m_assign ?_
       refine hKK _ _ ?_
       clear hKK KK
       refine awp_ret ⟨[_, _], ⟨k_load (by simp only [go_sem, reduceIte, Nat.reduceEqDiff, FF] <;> rfl) (by simp only [go_sem] <;> rfl) (by rfl) (by intro hG; simp only [go_sem]) (by exact lm_ptr (by simp only [go_sem, reduceIte, Nat.reduceEqDiff, FF] <;> rfl) (by simp only [go_sem, reduceIte, Nat.reduceEqDiff, FF, Nat.reduceAdd, Nat.reduceSub, Nat.reduceMul, Nat.reduceLeDiff] <;> rfl) (fun _ => Nat.le_of_ble_eq_true rfl)), ⟨(by simp only [go_sem, reduceIte, Nat.reduceEqDiff, FF]), (by simp only [go_sem, reduceIte, Nat.reduceEqDiff, FF] <;> rfl)⟩, trivial⟩, ?_⟩
       simp only [go_sem, reduceIte, Nat.reduceEqDiff, FF, tupled]
       exact CV.Sub.refl _
 rintro - hn
 refine awp_seq (awp_block ?_)
 refine awp_rseq (by decide) fun KK hKK => ?_
 refine m_move ?_
 refine m_call (fun hG => indexB_ok t 10) ?_
 refine m_assign ?_
 refine hKK _ _ ?_
 clear hKK KK
 refine awp_seq ?_
 refine awp_rseq (by decide) fun KK hKK => ?_
 refine m_move ?_
 refine m_bin ?_
 refine hKK _ _ ?_
 clear hKK KK
 refine m_cond (fun hc => ?_) (fun hc => ?_)
 · rw [d_none H (ib_none (by simpa using hc)) hn]
   refine awp_rseq (by decide) fun KK hKK => ?_
   first | refine m_build ?_ | refine m_buildA ?_
   first | refine m_stPtr ?_ | refine m_stRp ?_
   refine m_assign ?_
   refine hKK _ _ ?_
   clear hKK KK
   refine awp_ret ⟨[_, _], ⟨k_load (by simp only [go_sem, reduceIte, Nat.reduceEqDiff, FF] <;> rfl) (by simp only [go_sem] <;> rfl) (by rfl) (by intro hG; simp only [go_sem]) (by exact lm_ptr (by simp only [go_sem, reduceIte, Nat.reduceEqDiff, FF] <;> rfl) (by simp only [go_sem, reduceIte, Nat.reduceEqDiff, FF, Nat.reduceAdd, Nat.reduceSub, Nat.reduceMul, Nat.reduceLeDiff] <;> rfl) (fun _ => Nat.le_of_ble_eq_true rfl)), ⟨(by simp only [go_sem, reduceIte, Nat.reduceEqDiff, FF]), (by simp only [go_sem, reduceIte, Nat.reduceEqDiff, FF] <;> rfl)⟩, trivial⟩, ?_⟩
   simp only [go_sem, reduceIte, Nat.reduceEqDiff, FF, tupled]
   exact sub_tup2 rn0_sub (CV.Sub.refl _)
 obtain ⟨i, hi, hlt, hcut⟩ := ib_some (t := t) (by simpa using hc)
 rw [hi]
 have w3 : IntKind.i64.wrap ((i : Int) + 1) = ((i + 1 : Nat) : Int) := wrap_in (by omega)
 clear hc
 refine awp_skip ?_
 first | rw [thenQ_normal] | rw [blockQ_normal, thenQ_normal]
 refine awp_rseq (by decide) fun KK hKK => ?_
 refine m_move ?_
 refine m_move ?_
 first | refine m_slOwn ?_ | refine m_slIm ?_ | refine m_slStr ?_ | refine m_slOsub ?_ | refine m_slEmp ?_
 refine m_assign ?_
 refine hKK _ _ ?_
 clear hKK KK
 have FF := And.intro w3 FF
 refine awp_rseq (by decide) fun KK hKK => ?_
 refine m_move ?_
 refine m_move ?_
 refine m_bin ?_
 first | refine m_slOwn ?_ | refine m_slIm ?_ | refine m_slStr ?_ | refine m_slOsub ?_ | refine m_slEmp ?_
 refine m_assign ?_
 refine hKK _ _ ?_
 clear hKK KK
 have hsz2 := cut_size hcut
 generalize t.extract 0 i = l at *
 generalize t.extract (i + 1) t.size = u at *
 refine m_cut [(0, .str u), (2, .ptr 2 0), (4, .ptr 4 0), (5, .bool first), (7, .str l)] [(2, .box 24 [.str ⟨#[]⟩, .emp]), (4, .box 24 [.str r.name, .own 100 r.items.length]), (100, .row 47 5 r.items.length (itR r.items))] ?_
 refine awp_seq ?_
 refine awp_rseq (by decide) fun KK hKK => ?_
 refine m_move ?_
 refine hKK _ _ ?_
 clear hKK KK
 refine m_cond (fun hc => ?_) (fun hc => ?_)
 · obtain rfl : first = true := hc
   refine awp_rseq (by decide) fun KK hKK => ?_
   refine m_move ?_
   refine m_call (fun hG => twords_ok l (by omega)) ?_
   refine m_move ?_
   refine m_extract ?_
   refine m_extract ?_
   refine m_assign ?_
   refine m_assign ?_
   refine hKK _ _ ?_
   clear hKK KK
   have hW := words_size l
   have hhead := headF_W l
   generalize wordsF l = q at *
   obtain ⟨W, e⟩ := q
   dsimp only at hW hhead
   refine m_cut [(0, .str u), (2, .ptr 2 0), (4, .ptr 4 0), (5, .bool true), (8, .c (wdL W)), (9, .int e)] [(2, .box 24 [.str ⟨#[]⟩, .emp]), (4, .box 24 [.str r.name, .own 100 r.items.length]), (100, .row 47 5 r.items.length (itR r.items))] ?_
   refine awp_seq ?_
   by_cases he : e = 0
   · subst he
     simp only [true_and] at hhead
     by_cases h2 : W.length = 2
     · have i0 := wdL_get (l := W) (i := 0) (by omega)
       have i1 := wdL_get (l := W) (i := 1) (by omega)
       have FF := And.intro i0 FF
       refine awp_rseq (by decide) fun KK hKK => ?_
       refine m_move ?_
       refine m_bin ?_
       refine m_move ?_
       refine g_move ?_
       refine g_len ?_
       refine g_bin ?_
       refine m_pick ?_
       refine m_move ?_
       refine g_move ?_
       first | refine g_index ?_ | refine g_idxA ?_
       refine g_load ?_
       refine g_bin ?_
       refine m_pick ?_
       refine hKK _ _ ?_
       clear hKK KK
       refine m_cond (fun hc => ?_) (fun hc => ?_)
       · have hs : headW W = false := by
           simp only [str_beq] at hc
           unfold headW
           generalize W.getD 0 ⟨#[]⟩ = x at *
           simpa [h2] using hc
         rw [if_neg (by rw [hs]; decide)] at hhead
         rw [d_bad0 H hcut hhead]
         refine awp_rseq (by decide) fun KK hKK => ?_
         first | refine m_build ?_ | refine m_buildA ?_
         first | refine m_stPtr ?_ | refine m_stRp ?_
         refine m_assign ?_
         refine hKK _ _ ?_
         clear hKK KK
         refine awp_ret ⟨[_, _], ⟨k_load (by simp only [go_sem, reduceIte, Nat.reduceEqDiff, FF] <;> rfl) (by simp only [go_sem] <;> rfl) (by rfl) (by intro hG; simp only [go_sem]) (by exact lm_ptr (by simp only [go_sem, reduceIte, Nat.reduceEqDiff, FF] <;> rfl) (by simp only [go_sem, reduceIte, Nat.reduceEqDiff, FF, Nat.reduceAdd, Nat.reduceSub, Nat.reduceMul, Nat.reduceLeDiff] <;> rfl) (fun _ => Nat.le_of_ble_eq_true rfl)), ⟨(by simp only [go_sem, reduceIte, Nat.reduceEqDiff, FF]), (by simp only [go_sem, reduceIte, Nat.reduceEqDiff, FF] <;> rfl)⟩, trivial⟩, ?_⟩
         simp only [go_sem, reduceIte, Nat.reduceEqDiff, FF, tupled]
         exact sub_tup2 rn0_sub (CV.Sub.refl _)
       have hs : headW W = true := by
         simp only [str_beq] at hc
         unfold headW
         generalize W.getD 0 ⟨#[]⟩ = x at *
         simpa [h2] using hc
       rw [if_pos hs] at hhead
       have hr : r = rn0 := (H.f rfl).2
       have hN := d_next0 H hcut hhead
       clear hc
       subst hr
       refine awp_skip ?_
       first | rw [thenQ_normal] | rw [blockQ_normal, thenQ_normal]
       have FF := And.intro i1 FF
       refine awp_rseq (by decide) fun KK hKK => ?_
       refine m_move ?_
       first | refine m_index ?_ | refine m_idxA ?_
       refine m_load ?_
       refine m_field ?_
       first | refine m_stPtr ?_ | refine m_stRp ?_
       refine hKK _ _ ?_
       clear hKK KK
       refine awp_exit ?_
       simp only [thenQ_exit, blockQ_exit, reduceIte, Nat.reduceEqDiff]
       try rw [thenQ_normal]
       refine awp_rlast (by decide) fun KK hKK => ?_
       refine m_assign ?_
       refine hKK _ _ ?_
       clear hKK KK
       try rw [thenQ_normal]
       refine m_next ((false, ⟨W.getD 1 ⟨#[]⟩, []⟩, u)) ?_ ?_
       · exact hN
       · simp only [if_true, Bool.false_eq_true, if_false]
         omega
     · have hb : ((W.length : Int) != 2) = true := by simp only [bne_iff_ne, ne_eq]; omega
       have h0 : ((0 : Int) != 0) = false := rfl
       refine awp_rseq (by decide) fun KK hKK => ?_
       refine st0 rfl (k_move (by simp only [go_sem, reduceIte, Nat.reduceEqDiff, FF, hb, h0] <;> rfl)) ?_
       refine st0 rfl (k_bin (by simp only [go_sem, reduceIte, Nat.reduceEqDiff, FF, hb, h0] <;> rfl) (by simp only [go_sem, reduceIte, Nat.reduceEqDiff, FF, hb, h0] <;> rfl) (by rfl) (by rfl) (by simp only [go_sem, reduceIte, Nat.reduceEqDiff, FF, hb, h0] <;> rfl) (by intro hG; simp only [go_sem])) ?_
       refine st0 rfl (k_move (by simp only [go_sem, reduceIte, Nat.reduceEqDiff, FF, hb, h0] <;> rfl)) ?_
       refine sg0 rfl rfl (by simp only [go_sem, reduceIte, Nat.reduceEqDiff, FF, hb, h0] <;> rfl) (by rfl) (by simp only [go_sem, reduceIte, Nat.reduceEqDiff, FF, hb, h0] <;> rfl) (k_move (by simp only [go_sem, reduceIte, Nat.reduceEqDiff, FF, hb, h0] <;> rfl)) ?_
       refine sg1 rfl rfl (by simp only [go_sem, reduceIte, Nat.reduceEqDiff, FF, hb, h0] <;> rfl) (by rfl) (by simp only [go_sem, reduceIte, Nat.reduceEqDiff, FF, hb, h0] <;> rfl) (k_len (by simp only [go_sem, reduceIte, Nat.reduceEqDiff, FF, hb, h0] <;> rfl) (by intro hG; simp only [go_sem, hG]) (by first | exact nm_im (by simp only [go_sem] <;> rfl) | exact nm_own (by simp only [go_sem] <;> rfl) (by simp only [go_sem, reduceIte, Nat.reduceEqDiff, FF, hb, h0] <;> rfl) (by intro hG; (repeat' apply And.intro) <;> first | rfl | omega | (simp only [Bool.not_eq_true', Bool.or_eq_false_iff, Bool.and_eq_true, decide_eq_true_eq, decide_eq_false_iff_not, beq_iff_eq] at hG; omega) | (dsimp only; omega) | (simp; done)) | exact nm_emp (by simp only [go_sem] <;> rfl) | exact nm_osub (by simp only [go_sem] <;> rfl) (by simp only [go_sem, reduceIte, Nat.reduceEqDiff, FF, hb, h0] <;> rfl) (by intro hG; (repeat' apply And.intro) <;> first | rfl | omega | (simp only [Bool.not_eq_true', Bool.or_eq_false_iff, Bool.and_eq_true, decide_eq_true_eq, decide_eq_false_iff_not, beq_iff_eq] at hG; omega) | (dsimp only; omega) | (simp; done)) | exact nm_str (by simp only [go_sem] <;> rfl))) ?_
       refine sg0 rfl rfl (by simp only [go_sem, reduceIte, Nat.reduceEqDiff, FF, hb, h0] <;> rfl) (by rfl) (by simp only [go_sem, reduceIte, Nat.reduceEqDiff, FF, hb, h0] <;> rfl) (k_bin (by simp only [go_sem, reduceIte, Nat.reduceEqDiff, FF, hb, h0] <;> rfl) (by simp only [go_sem, reduceIte, Nat.reduceEqDiff, FF, hb, h0] <;> rfl) (by rfl) (by rfl) (by simp only [go_sem, reduceIte, Nat.reduceEqDiff, FF, hb, h0] <;> rfl) (by intro hG; simp only [go_sem, hG])) ?_
       refine st0 rfl (k_pick (by simp only [go_sem, reduceIte, Nat.reduceEqDiff, FF, hb, h0] <;> rfl) (by simp only [go_sem, reduceIte, Nat.reduceEqDiff, FF, hb, h0] <;> rfl) (by simp only [go_sem, reduceIte, Nat.reduceEqDiff, FF, hb, h0] <;> rfl) (by rfl) (by rfl) (by rfl) (by intro hG; first | (simp only [go_sem, reduceIte, Nat.reduceEqDiff, FF, hb, h0, hb]; done) | (simp [go_sem]; done) | (simp [go_sem] at hG ⊢ <;> simp [hG] <;> (intros; simp_all))) (by first | (simp only [go_sem, reduceIte, Nat.reduceEqDiff, FF, hb, h0] <;> rfl) | rfl)) ?_
       refine st0 rfl (k_move (by simp only [go_sem, reduceIte, Nat.reduceEqDiff, FF, hb, h0] <;> rfl)) ?_
       refine sgF rfl (by simp only [go_sem, reduceIte, Nat.reduceEqDiff, FF, hb, h0] <;> rfl) (by rfl) (by simp only [go_sem, reduceIte, Nat.reduceEqDiff, FF, hb, h0, hb] <;> rfl) ?_
       refine sgF rfl (by simp only [go_sem, reduceIte, Nat.reduceEqDiff, FF, hb, h0] <;> rfl) (by rfl) (by simp only [go_sem, reduceIte, Nat.reduceEqDiff, FF, hb, h0, hb] <;> rfl) ?_
       refine sgF rfl (by simp only [go_sem, reduceIte, Nat.reduceEqDiff, FF, hb, h0] <;> rfl) (by rfl) (by simp only [go_sem, reduceIte, Nat.reduceEqDiff, FF, hb, h0, hb] <;> rfl) ?_
       refine sgF rfl (by simp only [go_sem, reduceIte, Nat.reduceEqDiff, FF, hb, h0] <;> rfl) (by rfl) (by simp only [go_sem, reduceIte, Nat.reduceEqDiff, FF, hb, h0, hb] <;> rfl) ?_
       refine st0 rfl (k_pick (by simp only [go_sem, reduceIte, Nat.reduceEqDiff, FF, hb, h0] <;> rfl) (by simp only [go_sem, reduceIte, Nat.reduceEqDiff, FF, hb, h0] <;> rfl) (by simp only [go_sem, reduceIte, Nat.reduceEqDiff, FF, hb, h0] <;> rfl) (by rfl) (by rfl) (by rfl) (by intro hG; first | (simp only [go_sem, reduceIte, Nat.reduceEqDiff, FF, hb, h0, hb]; done) | (simp [go_sem]; done) | (simp [go_sem] at hG ⊢ <;> simp [hG] <;> (intros; simp_all))) (by first | (simp only [go_sem, reduceIte, Nat.reduceEqDiff, FF, hb, h0] <;> rfl) | rfl)) ?_
       refine hKK _ _ ?_
       clear hKK KK
       refine awp_cond (by simp only [go_sem, reduceIte, Nat.reduceEqDiff, FF, hb, h0] <;> rfl) (fun hc => ?_) (fun hc => ?_)
       · have hs : headW W = false := by unfold headW; rw [decide_eq_false h2]; rfl
         rw [if_neg (by rw [hs]; decide)] at hhead
         rw [d_bad0 H hcut hhead]
         refine awp_rseq (by decide) fun KK hKK => ?_
         first | refine m_build ?_ | refine m_buildA ?_
         first | refine m_stPtr ?_ | refine m_stRp ?_
         refine m_assign ?_
         refine hKK _ _ ?_
         clear hKK KK
         refine awp_ret ⟨[_, _], ⟨k_load (by simp only [go_sem, reduceIte, Nat.reduceEqDiff, FF] <;> rfl) (by simp only [go_sem] <;> rfl) (by rfl) (by intro hG; simp only [go_sem]) (by exact lm_ptr (by simp only [go_sem, reduceIte, Nat.reduceEqDiff, FF] <;> rfl) (by simp only [go_sem, reduceIte, Nat.reduceEqDiff, FF, Nat.reduceAdd, Nat.reduceSub, Nat.reduceMul, Nat.reduceLeDiff] <;> rfl) (fun _ => Nat.le_of_ble_eq_true rfl)), ⟨(by simp only [go_sem, reduceIte, Nat.reduceEqDiff, FF]), (by simp only [go_sem, reduceIte, Nat.reduceEqDiff, FF] <;> rfl)⟩, trivial⟩, ?_⟩
         simp only [go_sem, reduceIte, Nat.reduceEqDiff, FF, tupled]
         exact sub_tup2 rn0_sub (CV.Sub.refl _)
       · cases hc
   · have hb : (e != 0) = true := by simp only [bne_iff_ne, ne_eq]; exact he
     rw [if_neg (fun q => he q.1)] at hhead
     refine awp_rseq (by decide) fun KK hKK => ?_
     refine st0 rfl (k_move (by simp only [go_sem, reduceIte, Nat.reduceEqDiff, FF, hb] <;> rfl)) ?_
     refine st0 rfl (k_bin (by simp only [go_sem, reduceIte, Nat.reduceEqDiff, FF, hb] <;> rfl) (by simp only [go_sem, reduceIte, Nat.reduceEqDiff, FF, hb] <;> rfl) (by rfl) (by rfl) (by simp only [go_sem, reduceIte, Nat.reduceEqDiff, FF, hb] <;> rfl) (by intro hG; simp only [go_sem])) ?_
     refine st0 rfl (k_move (by simp only [go_sem, reduceIte, Nat.reduceEqDiff, FF, hb] <;> rfl)) ?_
     refine sgF rfl (by simp only [go_sem, reduceIte, Nat.reduceEqDiff, FF, hb] <;> rfl) (by rfl) (by simp only [go_sem, reduceIte, Nat.reduceEqDiff, FF, hb, hb] <;> rfl) ?_
     refine sgF rfl (by simp only [go_sem, reduceIte, Nat.reduceEqDiff, FF, hb] <;> rfl) (by rfl) (by simp only [go_sem, reduceIte, Nat.reduceEqDiff, FF, hb, hb] <;> rfl) ?_
     refine sgF rfl (by simp only [go_sem, reduceIte, Nat.reduceEqDiff, FF, hb] <;> rfl) (by rfl) (by simp only [go_sem, reduceIte, Nat.reduceEqDiff, FF, hb, hb] <;> rfl) ?_
     refine st0 rfl (k_pick (by simp only [go_sem, reduceIte, Nat.reduceEqDiff, FF, hb] <;> rfl) (by simp only [go_sem, reduceIte, Nat.reduceEqDiff, FF, hb] <;> rfl) (by simp only [go_sem, reduceIte, Nat.reduceEqDiff, FF, hb] <;> rfl) (by rfl) (by rfl) (by rfl) (by intro hG; first | (simp only [go_sem, reduceIte, Nat.reduceEqDiff, FF, hb, hb]; done) | (simp [go_sem]; done) | (simp [go_sem] at hG ⊢ <;> simp [hG] <;> (intros; simp_all))) (by first | (simp only [go_sem, reduceIte, Nat.reduceEqDiff, FF, hb] <;> rfl) | rfl)) ?_
     refine st0 rfl (k_move (by simp only [go_sem, reduceIte, Nat.reduceEqDiff, FF, hb] <;> rfl)) ?_
     refine sgF rfl (by simp only [go_sem, reduceIte, Nat.reduceEqDiff, FF, hb] <;> rfl) (by rfl) (by simp only [go_sem, reduceIte, Nat.reduceEqDiff, FF, hb, hb] <;> rfl) ?_
     refine sgF rfl (by simp only [go_sem, reduceIte, Nat.reduceEqDiff, FF, hb] <;> rfl) (by rfl) (by simp only [go_sem, reduceIte, Nat.reduceEqDiff, FF, hb, hb] <;> rfl) ?_
     refine sgF rfl (by simp only [go_sem, reduceIte, Nat.reduceEqDiff, FF, hb] <;> rfl) (by rfl) (by simp only [go_sem, reduceIte, Nat.reduceEqDiff, FF, hb, hb] <;> rfl) ?_
     refine sgF rfl (by simp only [go_sem, reduceIte, Nat.reduceEqDiff, FF, hb] <;> rfl) (by rfl) (by simp only [go_sem, reduceIte, Nat.reduceEqDiff, FF, hb, hb] <;> rfl) ?_
     refine st0 rfl (k_pick (by simp only [go_sem, reduceIte, Nat.reduceEqDiff, FF, hb] <;> rfl) (by simp only [go_sem, reduceIte, Nat.reduceEqDiff, FF, hb] <;> rfl) (by simp only [go_sem, reduceIte, Nat.reduceEqDiff, FF, hb] <;> rfl) (by rfl) (by rfl) (by rfl) (by intro hG; first | (simp only [go_sem, reduceIte, Nat.reduceEqDiff, FF, hb, hb]; done) | (simp [go_sem]; done) | (simp [go_sem] at hG ⊢ <;> simp [hG] <;> (intros; simp_all))) (by first | (simp only [go_sem, reduceIte, Nat.reduceEqDiff, FF, hb] <;> rfl) | rfl)) ?_
     refine hKK _ _ ?_
     clear hKK KK
     refine awp_cond (by simp only [go_sem, reduceIte, Nat.reduceEqDiff, FF, hb] <;> rfl) (fun hc => ?_) (fun hc => ?_)
     · rw [d_bad0 H hcut hhead]
       refine awp_rseq (by decide) fun KK hKK => ?_
       first | refine m_build ?_ | refine m_buildA ?_
       first | refine m_stPtr ?_ | refine m_stRp ?_
       refine m_assign ?_
       refine hKK _ _ ?_
       clear hKK KK
       refine awp_ret ⟨[_, _], ⟨k_load (by simp only [go_sem, reduceIte, Nat.reduceEqDiff, FF] <;> rfl) (by simp only [go_sem] <;> rfl) (by rfl) (by intro hG; simp only [go_sem]) (by exact lm_ptr (by simp only [go_sem, reduceIte, Nat.reduceEqDiff, FF] <;> rfl) (by simp only [go_sem, reduceIte, Nat.reduceEqDiff, FF, Nat.reduceAdd, Nat.reduceSub, Nat.reduceMul, Nat.reduceLeDiff] <;> rfl) (fun _ => Nat.le_of_ble_eq_true rfl)), ⟨(by simp only [go_sem, reduceIte, Nat.reduceEqDiff, FF]), (by simp only [go_sem, reduceIte, Nat.reduceEqDiff, FF] <;> rfl)⟩, trivial⟩, ?_⟩
       simp only [go_sem, reduceIte, Nat.reduceEqDiff, FF, tupled]
       exact sub_tup2 rn0_sub (CV.Sub.refl _)
     · cases hc
 obtain rfl : first = false := hc
 refine awp_skip ?_
 first | rw [thenQ_normal] | rw [blockQ_normal, thenQ_normal]
 have hs1 := @itemF_some l
 have hs2 := @itemF_none l
 refine awp_rseq (by decide) fun KK hKK => ?_
 refine m_move ?_
 refine m_call (fun hG => item_ok l (by omega)) ?_
 refine m_move ?_
 refine m_extract ?_
 refine m_extract ?_
 refine m_alloc ?_
 first | refine m_stPtr ?_ | refine m_stRp ?_
 refine m_assign ?_
 refine hKK _ _ ?_
 clear hKK KK
 generalize itemB l = q at *
 obtain ⟨x, e⟩ := q
 dsimp only at hs1 hs2
 refine m_cut [(0, .str u), (2, .ptr 2 0), (4, .ptr 4 0), (5, .bool false), (10, .ptr 10 0), (11, .int e)] [(2, .box 24 [.str ⟨#[]⟩, .emp]), (4, .box 24 [.str r.name, .own 100 r.items.length]), (10, .box 47 ((itC x).map .c)), (100, .row 47 5 r.items.length (itR r.items))] ?_
 refine awp_seq ?_
 refine awp_rseq (by decide) fun KK hKK => ?_
 refine m_move ?_
 refine m_bin ?_
 refine hKK _ _ ?_
 clear hKK KK
 refine m_cond (fun hc => ?_) (fun hc => ?_)
 · obtain ⟨g1, g2⟩ := hs2 (by simpa using hc)
   obtain rfl : e = 8 := (Prod.mk.inj g2).2
   rw [d_bad1 H hcut g1]
   refine awp_rseq (by decide) fun KK hKK => ?_
   first | refine m_build ?_ | refine m_buildA ?_
   refine m_move ?_
   first | refine m_stPtr ?_ | refine m_stRp ?_
   refine m_assign ?_
   refine hKK _ _ ?_
   clear hKK KK
   refine awp_ret ⟨[_, _], ⟨k_load (by simp only [go_sem, reduceIte, Nat.reduceEqDiff, FF] <;> rfl) (by simp only [go_sem] <;> rfl) (by rfl) (by intro hG; simp only [go_sem]) (by exact lm_ptr (by simp only [go_sem, reduceIte, Nat.reduceEqDiff, FF] <;> rfl) (by simp only [go_sem, reduceIte, Nat.reduceEqDiff, FF, Nat.reduceAdd, Nat.reduceSub, Nat.reduceMul, Nat.reduceLeDiff] <;> rfl) (fun _ => Nat.le_of_ble_eq_true rfl)), ⟨(by simp only [go_sem, reduceIte, Nat.reduceEqDiff, FF]), (by simp only [go_sem, reduceIte, Nat.reduceEqDiff, FF] <;> rfl)⟩, trivial⟩, ?_⟩
   simp only [go_sem, reduceIte, Nat.reduceEqDiff, FF, tupled]
   exact sub_tup2 rn0_sub (CV.Sub.refl _)
 have hN := d_next1 H hcut (hs1 (by simpa using hc))
 clear hc hs1 hs2
 refine awp_skip ?_
 first | rw [thenQ_normal] | rw [blockQ_normal, thenQ_normal]
 refine awp_rlast (by decide) fun KK hKK => ?_
 refine m_field ?_
 refine m_load ?_
 refine m_load ?_
 refine m_sliceN ?_
 first | refine m_appOwn ?_ | refine m_appEmp ?_
 refine m_field ?_
 first | refine m_stPtr ?_ | refine m_stRp ?_
 refine hKK _ _ ?_
 clear hKK KK
 simp only [blockQ_normal, thenQ_normal]
 refine awp_rlast (by decide) fun KK hKK => ?_
 refine m_assign ?_
 refine hKK _ _ ?_
 clear hKK KK
 try rw [thenQ_normal]
 refine ⟨(false, ⟨r.name, r.items ++ [x]⟩, u), ?_, ?_, (by simp only [List.forall_mem_cons, List.forall_mem_nil, go_sem, reduceIte, Nat.reduceEqDiff, FF, List.length_append, List.length_cons, List.length_nil]; all_goals ((repeat' apply And.intro) <;> first | trivial | rfl | exact objLe_refl _ | (intro _ _; exact Subs.refl _))), ?_⟩
 · exact hN
 · simp only [Bool.false_eq_true, if_false]
   omega
 · dsimp only
   simp only [List.forall_mem_cons, List.forall_mem_nil, go_sem, reduceIte, Nat.reduceEqDiff, and_true]
   refine ⟨objLe_refl _, ?_, ?_⟩
   · rw [List.length_append]
     exact objLe_refl _
   · rw [List.length_append]
     exact objLe_rown rfl (itR_app r.items [x])
end Go.Am
