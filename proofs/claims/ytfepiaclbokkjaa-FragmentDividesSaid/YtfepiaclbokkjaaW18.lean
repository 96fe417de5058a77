/- The walk of a law: cover and gaps divide the words. No condition. -/
import Derived.Test.YtfepiaclbokkjaaW17
namespace Go.Am
open Go.Proofs
attribute [local go_sem ↓] ofL_cons ofH_cons upd_apply
attribute [local go_sem] cellsE cellsC
set_option maxHeartbeats 2000000
set_option linter.unusedSimpArgs false
set_option linter.unusedVariables false

theorem bit_bd (b : Bool) : 0 ≤ bit b ∧ bit b ≤ 1 := by cases b <;> decide
theorem covCnt_bd (c : Ch) (q : Nat) : ∀ l, 0 ≤ covCnt c l q ∧ covCnt c l q ≤ (l.length : Int)
  | [] => by simp [covCnt]
  | k :: r => by
    have := covCnt_bd c q r
    have := bit_bd (inE (edgeAt c k) q)
    simp only [covCnt, List.length_cons]
    omega
theorem gapCnt_bd (q : Nat) : ∀ l, 0 ≤ gapCnt l q ∧ gapCnt l q ≤ (l.length : Int)
  | [] => by simp [gapCnt]
  | k :: r => by
    have := gapCnt_bd q r
    have := bit_bd (inS k q)
    simp only [gapCnt, List.length_cons]
    omega

def markN (N : Nat → Int) (F t q : Nat) : Int := N q + bit (decide (F ≤ q) && decide (q < t))
theorem markN_start (N : Nat → Int) (F q : Nat) : markN N F F q = N q := by
  unfold markN
  by_cases h : F ≤ q
  · have : ¬ q < F := by omega
    simp [this, bit]
  · simp [h, bit]
theorem markN_step (N : Nat → Int) {F t : Nat} (hF : F ≤ t) (q : Nat) : upd (fun q => [CV.int (markN N F t q)]) t [CV.int (markN N F t t + 1)] q = [CV.int (markN N F (t + 1) q)] := by
  rw [upd_apply]
  unfold markN
  by_cases e : q = t
  · subst e; simp [hF, bit]
  · have : q < t + 1 ↔ q < t := by omega
    simp [e, this]
theorem covCnt_snoc (c : Ch) (l : List Int) (k : Int) (q : Nat) {F T : Nat} (hF : (edgeAt c k).frm = (F : Int)) (hT : (edgeAt c k).to = (T : Int)) : markN (covCnt c l) F T q = covCnt c (l ++ [k]) q := by
  rw [covCnt_append]
  simp only [covCnt, markN, inE]
  rw [hF, hT]
  simp
theorem gapCnt_snoc (M : Nat → Int) (l : List (Int × Int)) (s : Int × Int) (q : Nat) {F T : Nat} (hF : s.1 = (F : Int)) (hT : s.2 = (T : Int)) : markN (fun q => M q + gapCnt l q) F T q = M q + gapCnt (l ++ [s]) q := by
  rw [gapCnt_append]
  simp only [gapCnt, markN, inS]
  rw [hF, hT]
  simp
  omega

theorem lawDivides (words : Int) (h0 : 0 ≤ words) (h1 : words ≤ 255) (l : List Ed) : APure Try.prog 6 [.raw (.int .u8 words), encEs l] (.bool true) := by
  obtain ⟨c, b, -, hok, hch⟩ := chart_of words h0 h1 l
  have FF : True := trivial
  refine apure_of Try.func6 rfl (by kernel_rfl) (by simp [Try.ntmps6]) ?_
  rw [Try.ntmps6]
  refine awp_rseq (by decide) fun KK hKK => ?_
  refine m_assign ?_
  refine hKK _ _ ?_
  clear hKK KK
  refine awp_rseq (by decide) fun KK hKK => ?_
  refine m_move ?_
  refine m_move ?_
  refine m_call (fun hG => hch) ?_
  refine m_move ?_
  refine m_extract ?_
  refine m_extract ?_
  refine m_alloc ?_
  first | refine m_stPtr ?_ | refine m_stRp ?_
  refine m_assign ?_
  refine hKK _ _ ?_
  clear hKK KK
  refine awp_seq ?_
  refine awp_rseq (by decide) fun KK hKK => ?_
  refine m_move ?_
  refine m_not ?_
  refine hKK _ _ ?_
  clear hKK KK
  refine m_cond (fun hc => ?_) (fun hc => ?_)
  · refine awp_rseq (by decide) fun KK hKK => ?_
    refine m_call (fun hG => example_ok) ?_
    refine m_assign ?_
    refine hKK _ _ ?_
    clear hKK KK
    refine awp_ret ⟨[_], ⟨⟨(by simp only [go_sem, reduceIte, Nat.reduceEqDiff, FF]), (by simp only [go_sem, reduceIte, Nat.reduceEqDiff, FF] <;> rfl)⟩, trivial⟩, ?_⟩
    simp only [go_sem, reduceIte, Nat.reduceEqDiff, FF, tupled]
    exact CV.Sub.refl _
  refine awp_skip ?_
  first | rw [thenQ_normal] | rw [blockQ_normal, thenQ_normal]
  have hk : Ok c := hok (by simpa using hc)
  have hcl := coverF_len hk
  have hL := hk.len
  have hpl := cover_plan hk
  have hw := hk.words
  have hcov := cover_ok c hk
  have hfree := fun (i : Nat) hi F T hF hT => cover_free hk (i := i) hi (F := F) (T := T) hF hT
  have hone := fun (q : Nat) hq => count_one hk (q := q) hq
  generalize coverF c = L at hcl hpl hfree hone hcov
  have hgap := gaps_ok c hk L (by omega)
  have hgl := gapsF_len hk L
  have hgs : ∀ s ∈ gapsF c L, _ := gaps_span (coveredF c L) c.words.toNat
  generalize gapsF c L = G at hone hgap hgl hgs
  obtain ⟨W, hW⟩ : ∃ W : Nat, c.words = (W : Int) := ⟨c.words.toNat, by omega⟩
  have hWt : c.words.toNat = W := by omega
  rw [hWt] at hone hgs
  have hW2 : W ≤ 32 := by omega
  clear hc
  refine awp_rseq (by decide) fun KK hKK => ?_
  refine m_load ?_
  refine m_call (fun hG => hcov) ?_
  refine m_assign ?_
  refine hKK _ _ ?_
  clear hKK KK
  refine awp_rseq (by decide) fun KK hKK => ?_
  refine m_load ?_
  refine m_move ?_
  refine m_call (fun hG => hgap) ?_
  refine m_assign ?_
  refine hKK _ _ ?_
  clear hKK KK
  have FF := And.intro hW FF
  refine awp_rseq (by decide) fun KK hKK => ?_
  refine m_field ?_
  refine m_load ?_
  refine m_make ?_
  refine m_assign ?_
  refine hKK _ _ ?_
  clear hKK KK
  refine awp_seq ?_
  refine awp_rseq (by decide) fun KK hKK => ?_
  refine m_move ?_
  refine m_len ?_
  refine m_move ?_
  refine hKK _ _ ?_
  clear hKK KK
  refine awp_block ?_
  refine m_forH (ι := Nat) (fun i => [(5, .ptr 5 0), (7, .c (encInts L)), (8, .c (encSpans G)), (9, .own 37 W), (38, .c (encInts L)), (39, .int L.length), (40, .int i)]) (fun i => [(5, .box 24 ((cellsC c).map .c)), (37, .row 3 1 W (fun q => [.int (covCnt c (L.take i) q)]))]) (fun i => L.length - i) (fun i => i ≤ L.length) (0) ?_ ?_ ?_
  · exact Nat.zero_le _
  · exact List.forall_mem_cons.2 ⟨objLe_of (by simp only [go_sem, reduceIte, Nat.reduceEqDiff, List.length_append, List.length_cons, List.length_nil, FF]), List.forall_mem_cons.2 ⟨objLe_row (fun q hq => rfl), List.forall_mem_nil _⟩⟩
  intro i hi
  refine awp_rseq (by decide) fun KK hKK => ?_
  refine m_bin ?_
  refine hKK _ _ ?_
  clear hKK KK
  refine awp_seq ?_
  refine m_cond (fun hc => ?_) (fun hc => ?_)
  · simp only [decide_eq_true_eq] at hc
    have hi' : i < L.length := by omega
    have w3 : IntKind.i64.wrap ((i : Int) + 1) = ((i + 1 : Nat) : Int) := wrap_in (by omega)
    obtain ⟨k, hk0⟩ : ∃ k, k = L.getD i 0 := ⟨_, rfl⟩
    have htk : L.take (i + 1) = L.take i ++ [k] := by rw [take_snoc hi', hk0, getD_lt hi']
    have hkr := planR_mem hpl k (by rw [hk0, getD_lt hi']; exact List.getElem_mem _)
    obtain ⟨e, he⟩ : ∃ e, e = c.edges.getD k.toNat default := ⟨_, rfl⟩
    have he' : edgeAt c k = e := he.symm
    have hs := hk.span e (by rw [he, getD_lt (by omega)]; exact List.getElem_mem _)
    obtain ⟨F, hF⟩ : ∃ F : Nat, e.frm = (F : Int) := ⟨e.frm.toNat, by omega⟩
    obtain ⟨T, hT⟩ : ∃ T : Nat, e.to = (T : Int) := ⟨e.to.toNat, by omega⟩
    have f1 : decide (k < 0) = false := decide_eq_false (by omega)
    have f2 : decide ((c.edges.length : Int) ≤ k) = false := decide_eq_false (by omega)
    have hsn := fun q => covCnt_snoc c (L.take i) k q (F := F) (T := T) (by rw [he', hF]) (by rw [he', hT])
    have hbd := fun q => covCnt_bd c q (L.take i)
    have hbl : (L.take i).length ≤ 32 := by rw [List.length_take]; omega
    rw [← htk] at hsn
    generalize covCnt c (L.take i) = N at hsn hbd ⊢
    refine awp_skip ?_
    first | rw [thenQ_normal] | rw [blockQ_normal, thenQ_normal]
    refine awp_seq (awp_block ?_)
    clear hc
    have FF := And.intro hk0.symm FF
    refine awp_rseq (by decide) fun KK hKK => ?_
    refine m_index ?_
    refine m_load ?_
    refine m_assign ?_
    refine hKK _ _ ?_
    clear hKK KK
    refine awp_seq ?_
    have FF := And.intro f1 (And.intro f2 FF)
    refine awp_rseq (by decide) fun KK hKK => ?_
    refine m_move ?_
    refine m_bin ?_
    refine m_move ?_
    refine g_move ?_
    refine g_field ?_
    refine g_load ?_
    refine g_len ?_
    refine g_bin ?_
    refine m_pick ?_
    refine hKK _ _ ?_
    clear hKK KK
    refine m_cond (fun hc => ?_) (fun hc => ?_)
    · cases hc
    refine awp_skip ?_
    first | rw [thenQ_normal] | rw [blockQ_normal, thenQ_normal]
    clear hc
    have FF := And.intro he.symm (And.intro hF FF)
    refine awp_rseq (by decide) fun KK hKK => ?_
    refine m_field ?_
    refine m_load ?_
    refine m_move ?_
    refine m_index ?_
    refine m_field ?_
    refine m_load ?_
    refine m_assign ?_
    refine hKK _ _ ?_
    clear hKK KK
    refine awp_block ?_
    refine m_forH (ι := Nat) (fun t => [(5, .ptr 5 0), (7, .c (encInts L)), (8, .c (encSpans G)), (9, .own 37 W), (11, .int k), (12, .int t), (38, .c (encInts L)), (39, .int L.length), (40, .int i)]) (fun t => [(5, .box 24 ((cellsC c).map .c)), (37, .row 3 1 W (fun q => [.int (markN N F t q)]))]) (fun t => T - t) (fun t => F ≤ t ∧ t ≤ T) (F) ?_ ?_ ?_
    · exact ⟨Nat.le_refl _, by omega⟩
    · exact List.forall_mem_cons.2 ⟨objLe_of (by simp only [go_sem, reduceIte, Nat.reduceEqDiff, List.length_append, List.length_cons, List.length_nil, FF]), List.forall_mem_cons.2 ⟨objLe_row (fun q hq => by rw [markN_start]), List.forall_mem_nil _⟩⟩
    rintro t ⟨ht1, ht2⟩
    refine awp_seq ?_
    have FF := And.intro he.symm (And.intro hT FF)
    refine awp_rseq (by decide) fun KK hKK => ?_
    refine m_move ?_
    refine m_field ?_
    refine m_load ?_
    refine m_move ?_
    refine m_index ?_
    refine m_field ?_
    refine m_load ?_
    refine m_bin ?_
    refine hKK _ _ ?_
    clear hKK KK
    refine m_cond (fun hc => ?_) (fun hc => ?_)
    · simp only [decide_eq_true_eq] at hc
      have ht' : t < T := by omega
      have w4 : IntKind.i64.wrap ((t : Int) + 1) = ((t + 1 : Nat) : Int) := wrap_in (by omega)
      have w5 : IntKind.i64.wrap (markN N F t t + 1) = markN N F t t + 1 := wrap_in (by have := hbd t; have := bit_bd (decide (F ≤ t) && decide (t < t)); unfold markN; omega)
      refine awp_skip ?_
      first | rw [thenQ_normal] | rw [blockQ_normal, thenQ_normal]
      refine awp_seq (awp_block ?_)
      clear hc
      have FF := And.intro w5 FF
      refine awp_rlast (by decide) fun KK hKK => ?_
      refine m_move ?_
      refine m_move ?_
      refine m_index ?_
      refine m_load ?_
      refine m_bin ?_
      refine m_index ?_
      first | refine m_stPtr ?_ | refine m_stRp ?_
      refine hKK _ _ ?_
      clear hKK KK
      first | rw [thenQ_normal] | rw [blockQ_normal, thenQ_normal]
      have FF := And.intro w4 FF
      refine awp_rlast (by decide) fun KK hKK => ?_
      refine m_move ?_
      refine m_bin ?_
      refine m_assign ?_
      refine hKK _ _ ?_
      clear hKK KK
      try rw [thenQ_normal]
      refine m_nextH (t + 1) ?_ ?_ ?_
      · exact ⟨by omega, ht'⟩
      · omega
      · exact List.forall_mem_cons.2 ⟨objLe_of (by simp only [go_sem, reduceIte, Nat.reduceEqDiff, List.length_append, List.length_cons, List.length_nil, FF]), List.forall_mem_cons.2 ⟨objLe_row (fun q hq => markN_step N ht1 q), List.forall_mem_nil _⟩⟩
    · have ht' : t = T := by simp only [decide_eq_false_iff_not] at hc; omega
      refine awp_exit ?_
      simp only [thenQ_exit, blockQ_exit, reduceIte, Nat.reduceEqDiff]
      try rw [thenQ_normal]
      have FF := And.intro w3 FF
      refine awp_rlast (by decide) fun KK hKK => ?_
      refine m_bin ?_
      refine m_move ?_
      refine hKK _ _ ?_
      clear hKK KK
      try rw [thenQ_normal]
      refine m_nextH (i + 1) ?_ ?_ ?_
      · exact hi'
      · omega
      · rw [ht']
        exact List.forall_mem_cons.2 ⟨objLe_of (by simp only [go_sem, reduceIte, Nat.reduceEqDiff, List.length_append, List.length_cons, List.length_nil, FF]), List.forall_mem_cons.2 ⟨objLe_row (fun q hq => by rw [hsn]), List.forall_mem_nil _⟩⟩
  have hi' : i = L.length := by simp only [decide_eq_false_iff_not] at hc; omega
  rw [hi', List.take_length]
  have hbc := fun q => covCnt_bd c q L
  generalize hM : covCnt c L = M at hone hbc
  clear hc
  refine awp_exit ?_
  simp only [thenQ_exit, blockQ_exit, reduceIte, Nat.reduceEqDiff]
  try rw [thenQ_normal]
  refine awp_seq ?_
  refine awp_rseq (by decide) fun KK hKK => ?_
  refine m_move ?_
  refine m_len ?_
  refine m_move ?_
  refine hKK _ _ ?_
  clear hKK KK
  refine awp_block ?_
  refine m_forH (ι := Nat) (fun i => [(5, .ptr 5 0), (7, .c (encInts L)), (9, .own 37 W), (76, .c (encSpans G)), (77, .int G.length), (78, .int i)]) (fun i => [(5, .box 24 ((cellsC c).map .c)), (37, .row 3 1 W (fun q => [.int (M q + gapCnt (G.take i) q)]))]) (fun i => G.length - i) (fun i => i ≤ G.length) (0) ?_ ?_ ?_
  · exact Nat.zero_le _
  · exact List.forall_mem_cons.2 ⟨objLe_of (by simp only [go_sem, reduceIte, Nat.reduceEqDiff, List.length_append, List.length_cons, List.length_nil, FF]), List.forall_mem_cons.2 ⟨objLe_row (fun q hq => by rw [← hM]; simp [gapCnt]), List.forall_mem_nil _⟩⟩
  intro i hi
  refine awp_rseq (by decide) fun KK hKK => ?_
  refine m_bin ?_
  refine hKK _ _ ?_
  clear hKK KK
  refine awp_seq ?_
  refine m_cond (fun hc => ?_) (fun hc => ?_)
  · simp only [decide_eq_true_eq] at hc
    have hi' : i < G.length := by omega
    have w3 : IntKind.i64.wrap ((i : Int) + 1) = ((i + 1 : Nat) : Int) := wrap_in (by omega)
    obtain ⟨g, hg⟩ : ∃ g, g = G.getD i (0, 0) := ⟨_, rfl⟩
    have htk : G.take (i + 1) = G.take i ++ [g] := by rw [take_snoc hi', hg, getD_lt hi']
    obtain ⟨g1, g2, g3, g4⟩ := hgs g (by rw [hg, getD_lt hi']; exact List.getElem_mem _)
    obtain ⟨F, hF⟩ : ∃ F : Nat, g.1 = (F : Int) := ⟨g.1.toNat, by omega⟩
    obtain ⟨T, hT⟩ : ∃ T : Nat, g.2 = (T : Int) := ⟨g.2.toNat, by omega⟩
    have f1 : decide ((F : Int) < 0) = false := decide_eq_false (by omega)
    have f2 : decide ((T : Int) ≤ (F : Int)) = false := decide_eq_false (by omega)
    have f3 : decide ((W : Int) < (T : Int)) = false := decide_eq_false (by omega)
    have hsn := fun q => gapCnt_snoc M (G.take i) g q hF hT
    have hbd := fun q => gapCnt_bd q (G.take i)
    have hbl : (G.take i).length ≤ 32 := by rw [List.length_take]; omega
    rw [← htk] at hsn
    generalize hN : (fun q => M q + gapCnt (G.take i) q) = N at hsn ⊢
    have hNb : ∀ q, 0 ≤ N q ∧ N q ≤ 64 := fun q => by have := hbc q; have := hbd q; rw [← hN]; dsimp only; omega
    have hN' : ∀ q, M q + gapCnt (G.take i) q = N q := fun q => by rw [← hN]
    simp only [hN']
    refine awp_skip ?_
    first | rw [thenQ_normal] | rw [blockQ_normal, thenQ_normal]
    refine awp_seq (awp_block ?_)
    clear hc
    have FF := And.intro hg.symm (And.intro hF (And.intro hT FF))
    refine awp_rseq (by decide) fun KK hKK => ?_
    refine m_index ?_
    refine m_load ?_
    refine m_alloc ?_
    first | refine m_stPtr ?_ | refine m_stRp ?_
    refine hKK _ _ ?_
    clear hKK KK
    refine awp_seq ?_
    have FF := And.intro f1 (And.intro f2 (And.intro f3 (And.intro hW FF)))
    refine awp_rseq (by decide) fun KK hKK => ?_
    refine m_field ?_
    refine m_load ?_
    refine m_bin ?_
    refine m_move ?_
    refine g_field ?_
    refine g_load ?_
    refine g_field ?_
    refine g_load ?_
    refine g_bin ?_
    refine m_pick ?_
    refine m_move ?_
    refine g_field ?_
    refine g_load ?_
    refine g_field ?_
    refine g_load ?_
    refine g_bin ?_
    refine m_pick ?_
    refine hKK _ _ ?_
    clear hKK KK
    refine m_cond (fun hc => ?_) (fun hc => ?_)
    · cases hc
    refine awp_skip ?_
    first | rw [thenQ_normal] | rw [blockQ_normal, thenQ_normal]
    clear hc
    refine awp_rseq (by decide) fun KK hKK => ?_
    refine m_field ?_
    refine m_load ?_
    refine m_assign ?_
    refine hKK _ _ ?_
    clear hKK KK
    refine awp_block ?_
    refine m_forH (ι := Nat) (fun t => [(5, .ptr 5 0), (7, .c (encInts L)), (9, .own 37 W), (14, .ptr 14 0), (15, .int t), (76, .c (encSpans G)), (77, .int G.length), (78, .int i)]) (fun t => [(5, .box 24 ((cellsC c).map .c)), (14, .box 45 [.int (F : Int), .int (T : Int)]), (37, .row 3 1 W (fun q => [.int (markN N F t q)]))]) (fun t => T - t) (fun t => F ≤ t ∧ t ≤ T) (F) ?_ ?_ ?_
    · exact ⟨Nat.le_refl _, by omega⟩
    · exact List.forall_mem_cons.2 ⟨objLe_of (by simp only [go_sem, reduceIte, Nat.reduceEqDiff, List.length_append, List.length_cons, List.length_nil, FF]), List.forall_mem_cons.2 ⟨objLe_of (by simp only [go_sem, reduceIte, Nat.reduceEqDiff, List.length_append, List.length_cons, List.length_nil, FF]), List.forall_mem_cons.2 ⟨objLe_row (fun q hq => by rw [markN_start]), List.forall_mem_nil _⟩⟩⟩
    rintro t ⟨ht1, ht2⟩
    refine awp_seq ?_
    refine awp_rseq (by decide) fun KK hKK => ?_
    refine m_move ?_
    refine m_field ?_
    refine m_load ?_
    refine m_bin ?_
    refine hKK _ _ ?_
    clear hKK KK
    refine m_cond (fun hc => ?_) (fun hc => ?_)
    · simp only [decide_eq_true_eq] at hc
      have ht' : t < T := by omega
      have w4 : IntKind.i64.wrap ((t : Int) + 1) = ((t + 1 : Nat) : Int) := wrap_in (by omega)
      have w5 : IntKind.i64.wrap (markN N F t t + 1) = markN N F t t + 1 := wrap_in (by have := hNb t; have := bit_bd (decide (F ≤ t) && decide (t < t)); unfold markN; omega)
      have hnc : coveredF c L t = false := g4 t (by omega) (by omega)
      refine awp_skip ?_
      first | rw [thenQ_normal] | rw [blockQ_normal, thenQ_normal]
      refine awp_seq (awp_block ?_)
      clear hc
      refine awp_seq ?_
      have FF := And.intro hnc FF
      refine awp_rseq (by decide) fun KK hKK => ?_
      refine m_load ?_
      refine m_move ?_
      refine m_move ?_
      refine m_call (fun hG => covered_ok c L t (by omega)) ?_
      refine hKK _ _ ?_
      clear hKK KK
      refine m_cond (fun hc => ?_) (fun hc => ?_)
      · cases hc
      refine awp_skip ?_
      first | rw [thenQ_normal] | rw [blockQ_normal, thenQ_normal]
      clear hc
      have FF := And.intro w5 FF
      refine awp_rlast (by decide) fun KK hKK => ?_
      refine m_move ?_
      refine m_move ?_
      refine m_index ?_
      refine m_load ?_
      refine m_bin ?_
      refine m_index ?_
      first | refine m_stPtr ?_ | refine m_stRp ?_
      refine hKK _ _ ?_
      clear hKK KK
      first | rw [thenQ_normal] | rw [blockQ_normal, thenQ_normal]
      have FF := And.intro w4 FF
      refine awp_rlast (by decide) fun KK hKK => ?_
      refine m_move ?_
      refine m_bin ?_
      refine m_assign ?_
      refine hKK _ _ ?_
      clear hKK KK
      try rw [thenQ_normal]
      refine m_nextH (t + 1) ?_ ?_ ?_
      · exact ⟨by omega, ht'⟩
      · omega
      · exact List.forall_mem_cons.2 ⟨objLe_of (by simp only [go_sem, reduceIte, Nat.reduceEqDiff, List.length_append, List.length_cons, List.length_nil, FF]), List.forall_mem_cons.2 ⟨objLe_of (by simp only [go_sem, reduceIte, Nat.reduceEqDiff, List.length_append, List.length_cons, List.length_nil, FF]), List.forall_mem_cons.2 ⟨objLe_row (fun q hq => markN_step N ht1 q), List.forall_mem_nil _⟩⟩⟩
    · have ht' : t = T := by simp only [decide_eq_false_iff_not] at hc; omega
      refine awp_exit ?_
      simp only [thenQ_exit, blockQ_exit, reduceIte, Nat.reduceEqDiff]
      try rw [thenQ_normal]
      have FF := And.intro w3 FF
      refine awp_rlast (by decide) fun KK hKK => ?_
      refine m_bin ?_
      refine m_move ?_
      refine hKK _ _ ?_
      clear hKK KK
      try rw [thenQ_normal]
      refine m_nextH (i + 1) ?_ ?_ ?_
      · exact hi'
      · omega
      · rw [ht']
        exact List.forall_mem_cons.2 ⟨objLe_of (by simp only [go_sem, reduceIte, Nat.reduceEqDiff, List.length_append, List.length_cons, List.length_nil, FF]), List.forall_mem_cons.2 ⟨objLe_row (fun q hq => by rw [hsn]), List.forall_mem_nil _⟩⟩
  have hi' : i = G.length := by simp only [decide_eq_false_iff_not] at hc; omega
  rw [hi', List.take_length]
  clear hc
  refine awp_exit ?_
  simp only [thenQ_exit, blockQ_exit, reduceIte, Nat.reduceEqDiff]
  try rw [thenQ_normal]
  refine awp_seq ?_
  refine awp_rseq (by decide) fun KK hKK => ?_
  refine m_move ?_
  refine m_len ?_
  refine m_move ?_
  refine hKK _ _ ?_
  clear hKK KK
  refine awp_block ?_
  refine m_for (ι := Nat) (fun i => [(5, .ptr 5 0), (7, .c (encInts L)), (9, .own 37 W), (119, .int W), (120, .int i)]) (fun i => [(5, .box 24 ((cellsC c).map .c)), (37, .row 3 1 W (fun q => [.int (M q + gapCnt G q)]))]) (fun i => W - i) (fun i => i ≤ W) (0) ?_ ?_
  · exact Nat.zero_le _
  intro i hi
  refine awp_rseq (by decide) fun KK hKK => ?_
  refine m_bin ?_
  refine hKK _ _ ?_
  clear hKK KK
  refine awp_seq ?_
  refine m_cond (fun hc => ?_) (fun hc => ?_)
  · simp only [decide_eq_true_eq] at hc
    have hi' : i < W := by omega
    have w3 : IntKind.i64.wrap ((i : Int) + 1) = ((i + 1 : Nat) : Int) := wrap_in (by omega)
    have h11 := hone i hi'
    refine awp_skip ?_
    first | rw [thenQ_normal] | rw [blockQ_normal, thenQ_normal]
    refine awp_seq (awp_block ?_)
    clear hc
    refine awp_rseq (by decide) fun KK hKK => ?_
    refine m_move ?_
    refine m_assign ?_
    refine hKK _ _ ?_
    clear hKK KK
    have FF := And.intro h11 FF
    refine awp_rseq (by decide) fun KK hKK => ?_
    refine m_move ?_
    refine m_move ?_
    refine m_index ?_
    refine m_load ?_
    refine m_bin ?_
    refine hKK _ _ ?_
    clear hKK KK
    refine m_cond (fun hc => ?_) (fun hc => ?_)
    · simp at hc
    refine awp_skip ?_
    first | rw [thenQ_normal] | rw [blockQ_normal, thenQ_normal]
    have FF := And.intro w3 FF
    refine awp_rlast (by decide) fun KK hKK => ?_
    refine m_bin ?_
    refine m_move ?_
    refine hKK _ _ ?_
    clear hKK KK
    try rw [thenQ_normal]
    refine m_next (i + 1) ?_ ?_
    · exact hi'
    · omega
  clear hc
  refine awp_exit ?_
  simp only [thenQ_exit, blockQ_exit, reduceIte, Nat.reduceEqDiff]
  try rw [thenQ_normal]
  refine awp_seq ?_
  refine awp_rseq (by decide) fun KK hKK => ?_
  refine m_field ?_
  refine m_load ?_
  refine m_len ?_
  refine m_move ?_
  refine hKK _ _ ?_
  clear hKK KK
  refine awp_block ?_
  refine m_for (ι := Nat) (fun i => [(5, .ptr 5 0), (7, .c (encInts L)), (130, .c (encEs c.edges)), (131, .int c.edges.length), (132, .int i)]) (fun i => [(5, .box 24 ((cellsC c).map .c))]) (fun i => c.edges.length - i) (fun i => i ≤ c.edges.length) (0) ?_ ?_
  · exact Nat.zero_le _
  intro i hi
  refine awp_rseq (by decide) fun KK hKK => ?_
  refine m_bin ?_
  refine hKK _ _ ?_
  clear hKK KK
  refine awp_seq ?_
  refine m_cond (fun hc => ?_) (fun hc => ?_)
  · simp only [decide_eq_true_eq] at hc
    have hi' : i < c.edges.length := by omega
    have w3 : IntKind.i64.wrap ((i : Int) + 1) = ((i + 1 : Nat) : Int) := wrap_in (by omega)
    obtain ⟨e, he⟩ : ∃ e, e = c.edges.getD i default := ⟨_, rfl⟩
    have hs := hk.span e (by rw [he, getD_lt (by omega)]; exact List.getElem_mem _)
    obtain ⟨F, hF⟩ : ∃ F : Nat, e.frm = (F : Int) := ⟨e.frm.toNat, by omega⟩
    obtain ⟨T, hT⟩ : ∃ T : Nat, e.to = (T : Int) := ⟨e.to.toNat, by omega⟩
    have hfr := hfree i hi' F T (by rw [← he]; exact hF) (by rw [← he]; exact hT)
    refine awp_skip ?_
    first | rw [thenQ_normal] | rw [blockQ_normal, thenQ_normal]
    refine awp_seq (awp_block ?_)
    clear hc
    have FF := And.intro he.symm FF
    refine awp_rseq (by decide) fun KK hKK => ?_
    refine m_index ?_
    refine m_load ?_
    refine m_alloc ?_
    first | refine m_stPtr ?_ | refine m_stRp ?_
    refine hKK _ _ ?_
    clear hKK KK
    refine awp_rseq (by decide) fun KK hKK => ?_
    refine m_assign ?_
    refine hKK _ _ ?_
    clear hKK KK
    refine awp_seq ?_
    have FF := And.intro hF FF
    refine awp_rseq (by decide) fun KK hKK => ?_
    refine m_field ?_
    refine m_load ?_
    refine m_assign ?_
    refine hKK _ _ ?_
    clear hKK KK
    refine awp_block ?_
    refine m_for (ι := Nat) (fun t => [(5, .ptr 5 0), (7, .c (encInts L)), (18, .ptr 18 0), (19, .bool (allTo (fun q => !coveredF c L q) F t)), (20, .int ((F + t : Nat) : Int)), (130, .c (encEs c.edges)), (131, .int c.edges.length), (132, .int i)]) (fun t => [(5, .box 24 ((cellsC c).map .c)), (18, .box 43 ((cellsE e).map .c))]) (fun t => T - F - t) (fun t => t ≤ T - F) (0) ?_ ?_
    · exact Nat.zero_le _
    intro t ht
    refine awp_seq ?_
    have FF := And.intro hT FF
    refine awp_rseq (by decide) fun KK hKK => ?_
    refine m_move ?_
    refine m_field ?_
    refine m_load ?_
    refine m_bin ?_
    refine hKK _ _ ?_
    clear hKK KK
    refine m_cond (fun hc => ?_) (fun hc => ?_)
    · simp only [decide_eq_true_eq] at hc
      have ht' : t < T - F := by omega
      have w4 : IntKind.i64.wrap (((F + t : Nat) : Int) + 1) = ((F + (t + 1) : Nat) : Int) := by rw [wrap_in (by omega)]; omega
      refine awp_skip ?_
      first | rw [thenQ_normal] | rw [blockQ_normal, thenQ_normal]
      refine awp_seq (awp_block ?_)
      clear hc
      refine awp_rlast (by decide) fun KK hKK => ?_
      refine m_move ?_
      refine m_move ?_
      refine g_load ?_
      refine g_move ?_
      refine g_move ?_
      refine g_call (fun hG => covered_ok c L (F + t) (by omega)) ?_
      refine g_not ?_
      refine m_pick ?_
      refine m_assign ?_
      refine hKK _ _ ?_
      clear hKK KK
      first | rw [thenQ_normal] | rw [blockQ_normal, thenQ_normal]
      have FF := And.intro w4 FF
      refine awp_rlast (by decide) fun KK hKK => ?_
      refine m_move ?_
      refine m_bin ?_
      refine m_assign ?_
      refine hKK _ _ ?_
      clear hKK KK
      try rw [thenQ_normal]
      refine ⟨t + 1, ?_, ?_, (by simp only [List.forall_mem_cons, List.forall_mem_nil, go_sem, reduceIte, Nat.reduceEqDiff, FF, allTo]; all_goals ((repeat' apply And.intro) <;> first | trivial | rfl | exact objLe_refl _ | (intro _ _; exact Subs.refl _))), (by simp only [List.forall_mem_cons, List.forall_mem_nil, go_sem, reduceIte, Nat.reduceEqDiff, FF, allTo]; all_goals ((repeat' apply And.intro) <;> first | trivial | rfl | exact objLe_refl _ | (intro _ _; exact Subs.refl _)))⟩
      · exact ht'
      · omega
    · have ht' : t = T - F := by simp only [decide_eq_false_iff_not] at hc; omega
      rw [ht', hfr]
      clear hc
      refine awp_exit ?_
      simp only [thenQ_exit, blockQ_exit, reduceIte, Nat.reduceEqDiff]
      try rw [thenQ_normal]
      refine awp_rseq (by decide) fun KK hKK => ?_
      refine m_move ?_
      refine hKK _ _ ?_
      clear hKK KK
      refine m_cond (fun hc => ?_) (fun hc => ?_)
      · cases hc
      refine awp_skip ?_
      first | rw [thenQ_normal] | rw [blockQ_normal, thenQ_normal]
      have FF := And.intro w3 FF
      refine awp_rlast (by decide) fun KK hKK => ?_
      refine m_bin ?_
      refine m_move ?_
      refine hKK _ _ ?_
      clear hKK KK
      try rw [thenQ_normal]
      refine m_next (i + 1) ?_ ?_
      · exact hi'
      · omega
  · refine awp_exit ?_
    simp only [thenQ_exit, blockQ_exit, reduceIte, Nat.reduceEqDiff]
    try rw [thenQ_normal]
    refine awp_rseq (by decide) fun KK hKK => ?_
    refine m_call (fun hG => example_ok) ?_
    refine m_assign ?_
    refine hKK _ _ ?_
    clear hKK KK
    refine awp_ret ⟨[_], ⟨⟨(by simp only [go_sem, reduceIte, Nat.reduceEqDiff, FF]), (by simp only [go_sem, reduceIte, Nat.reduceEqDiff, FF] <;> rfl)⟩, trivial⟩, ?_⟩
    simp only [go_sem, reduceIte, Nat.reduceEqDiff, FF, tupled]
    exact CV.Sub.refl _
end Go.Am
