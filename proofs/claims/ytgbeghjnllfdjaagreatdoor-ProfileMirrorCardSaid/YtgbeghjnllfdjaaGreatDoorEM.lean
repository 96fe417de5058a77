/- Texts of the proof: EL EN EJ EM EK EO EP. No condition. -/
import Derived.Test.YtgbeghjnllfdjaaGreatDoorE0
import Derived.Test.YtgbeghjnllfdjaaGreatDoorR
import Derived.Test.YtgbeghjnllfdjaaGreatDoorS1
import Derived.Test.YtgbeghjnllfdjaaGreatDoorM3
import Derived.Test.YtgbeghjnllfdjaaGreatDoorEB
import Derived.KernelRfl
set_option linter.unusedVariables false
set_option linter.unusedSimpArgs false
open Go Go.Proofs
namespace Go.Am
set_option maxRecDepth 1000000
noncomputable def seenM : List (Value × Nat × AV) := [((.string ⟨#[70,73,82,83,84]⟩), 0, .c (.raw (.bool true))), ((.string ⟨#[82,69,83,84]⟩), 1, .c (.raw (.bool true))), ((.string ⟨#[76,73,83,84]⟩), 2, .c (.raw (.bool true))), ((.string ⟨#[76,65,83,84]⟩), 3, .c (.raw (.bool true))), ((.string ⟨#[76,65,66,69,76]⟩), 4, .c (.raw (.bool true))), ((.string ⟨#[72,73,71,72]⟩), 5, .c (.raw (.bool true))), ((.string ⟨#[76,79,87]⟩), 6, .c (.raw (.bool true))), ((.string ⟨#[84,79,80]⟩), 7, .c (.raw (.bool true))), ((.string ⟨#[73,78,68,69,88]⟩), 8, .c (.raw (.bool true))), ((.string ⟨#[82,69,76,83]⟩), 9, .c (.raw (.bool true))), ((.string ⟨#[67,79,78,83]⟩), 10, .c (.raw (.bool true))), ((.string ⟨#[83,69,77]⟩), 11, .c (.raw (.bool true))), ((.string ⟨#[65,82,71,83]⟩), 12, .c (.raw (.bool true)))]
noncomputable def bodyF : Code := match Tryz.f218.body with | some c => c | none => .skip
theorem feats_pre : (eList Tryz.prog (eCall Tryz.prog kp49 (kOf kFt) 1000000 23) Tryz.f218.ntmps (tabV .emp).length 1000000 ((flatS bodyF).take 5) ⟨mkS (Tryz.f218.ntmps / 8 + 1) [.ptr 1 0], tabV .emp, []⟩).map (fun p => (p.1, sD p.2.s 0, sD p.2.s 3, hD p.2.v 0, hD p.2.v 1, hD p.2.v 15)) = some (.normal, .ptr 1 0, .mref 15, .map tabNum 13, .box 231 [.c cPre, .c cCds, .mref 0, .emp, .emp, .emp], .map seenM 13) := by kernel_rfl
end Go.Am
open Go Go.Proofs
namespace Go.Am
noncomputable def keyOf (k : Nat) : Value := (seenM.getD k (undef, 0, default)).1
noncomputable def keyB (k : Nat) : List UInt8 := match keyOf k with
 | .string b => b.data.toList
 | _ => []
def ordP : List Nat := [12, 10, 0, 5, 8, 4, 3, 2, 6, 9, 1, 11, 7]
theorem ordP_keys : ordP.map keyB = ftL.map fun b => b.data.toList := by kernel_rfl
theorem sorted_births {l : List Nat} (h : l.Nodup) (hlt : ∀ x ∈ l, x < 13) (hall : ∀ x, x < 13 → x ∈ l) : ((l.map keyB).mergeSort fun x y => decide (x ≤ y)) = ftL.map fun b => b.data.toList := by
 have hp : l.Perm ordP := (List.perm_ext_iff_of_nodup h (by decide)).2 fun a => by
   have : a ∈ ordP ↔ a < 13 := by
     unfold ordP
     simp only [List.mem_cons, List.not_mem_nil, or_false]
     omega
   rw [this]
   exact ⟨hlt a, hall a⟩
 refine List.Perm.eq_of_pairwise (le := (· ≤ ·)) (fun a b _ _ h1 h2 => List.le_antisymm h1 h2) ?_ ?_ ((List.mergeSort_perm _ _).trans ?_)
 · have := List.pairwise_mergeSort (le := fun x y : List UInt8 => decide (x ≤ y)) (fun a b c h1 h2 => by
     simp only [decide_eq_true_eq] at *
     exact List.le_trans h1 h2) (fun a b => by
     simp only [Bool.or_eq_true, decide_eq_true_eq]
     exact List.le_total a b) (l.map keyB)
   exact this.imp fun h => by simpa using h
 · decide
 · rw [← ordP_keys]
   exact hp.map _
end Go.Am
open Go Go.Proofs
namespace Go.Am
theorem names_ok [Glb] : ∀ p ∈ kN, APure Tryz.prog p.f p.cs p.r := by
 intro p hp
 obtain ⟨b, hb, rfl⟩ := List.mem_map.1 hp
 have h := tname_ok b
 have e : namedB b false = true := by
   have : (nmL.all fun b => namedB b false) = true := by kernel_rfl
   exact List.all_eq_true.1 this b hb
 rw [e] at h
 exact h
theorem feats_ok [Glb] : ∀ p ∈ kFt, APure Tryz.prog p.f p.cs p.r := by
 intro p hp
 obtain ⟨b, hb, rfl⟩ := List.mem_map.1 hp
 have h := tfeat_ok b
 have e : namedB b true = true := by
   have : (ftL.all fun b => namedB b true) = true := by kernel_rfl
   exact List.all_eq_true.1 this b hb
 rw [e] at h
 exact h
end Go.Am
open Go Go.Proofs Go.Sort
namespace Go.Am
attribute [local go_sem ↓] ofL_cons ofH_cons upd_apply
set_option maxHeartbeats 1000000
set_option maxRecDepth 100000
def featsA : List Nat → AV
 | [] => .emp
 | l => .own 94 l.length
noncomputable def rowO : List Nat → AObj
 | [] => .gone
 | l => .row 9 1 l.length fun i => [.raw (keyOf (l.getD i 0))]
theorem born_lt : ∀ e ∈ seenM, e.2.1 < 13 := fun e he => by
 have : (seenM.all fun e => decide (e.2.1 < 13)) = true := by kernel_rfl
 simpa using List.all_eq_true.1 this e he
theorem born_nodup : (seenM.map (·.2.1)).Nodup := by
 have : seenM.map (·.2.1) = List.range 13 := by kernel_rfl
 rw [this]
 exact List.nodup_range
noncomputable def strV : Value → Bool
 | .string _ => true
 | _ => false
theorem key_str {k : Value} {n : Nat} {x : AV} (h : (k, n, x) ∈ seenM) : ∃ b, k = .string b := by
 have : (seenM.all fun e => strV e.1) = true := by kernel_rfl
 have h1 := List.all_eq_true.1 this _ h
 cases k <;> simp [strV] at h1
 exact ⟨_, rfl⟩
theorem nodup_le : ∀ (n : Nat) {l : List Nat}, l.Nodup → (∀ x ∈ l, x < n) → l.length ≤ n
 | 0, l, _, h2 => by
   cases l with
   | nil => exact Nat.le_refl _
   | cons a r => exact absurd (h2 a (by simp)) (Nat.not_lt_zero _)
 | n + 1, l, h, h2 => by
   have ih := nodup_le n (h.erase n) fun x hx => by
     have := (h.mem_erase_iff).1 hx
     have := h2 x this.2
     omega
   rw [List.length_erase] at ih
   split at ih <;> omega
theorem births_le {l : List Nat} (h : l.Nodup) (h2 : ∀ x ∈ l, x < 13) : l.length ≤ 13 := nodup_le 13 h h2
theorem key_of {k : Value} {n : Nat} {x : AV} (h : (k, n, x) ∈ seenM) : keyOf n = k := eqKey_ok (by
 have : (seenM.all fun e => eqKey (keyOf e.2.1) e.1) = true := by kernel_rfl
 exact List.all_eq_true.1 this _ h)
theorem born_first : ∃ e ∈ seenM, e.2.1 < 13 := ⟨seenM.getD 0 (undef, 0, default), by unfold seenM; simp, Nat.le_of_ble_eq_true (by kernel_rfl)⟩
theorem tabV_eq (x : AV) : hD (tabV x) = ofH [(0, .map tabNum 13), (1, .box 231 [.c cPre, .c cCds, .mref 0, x, .emp, .emp])] := by
 funext o
 rw [hD_def]
 match o with
 | 0 => rfl
 | 1 => rfl
 | o + 2 =>
   rw [ofH_cons, ofH_cons, ofH_nil, if_neg (by omega), if_neg (by omega)]
   unfold tabV
   rw [List.getD_eq_getElem?_getD, List.getElem?_append_right (by simp), List.getElem?_replicate]
   split <;> rfl
theorem row94_foot (f : Nat → List CV) : Foot [94] (ofH [(94, .row 9 1 13 f)]) := by
 refine ⟨fun k hk => ?_, fun k hk ty cells e => ?_, fun k hk k' hk' => ?_⟩
 · simp only [List.mem_cons, List.not_mem_nil, or_false] at hk
   simp [ofH_cons, ofH_nil, hk]
 · simp only [List.mem_cons, List.not_mem_nil, or_false] at hk
   subst hk
   simp [ofH_cons] at e
 · simp only [List.mem_cons, List.not_mem_nil, or_false] at hk
   subst hk
   simp [ofH_cons, AObj.refsM] at hk'
theorem row94_foot' (f g : Nat → List CV) : Foot [94] (upd (ofH [(94, .row 9 1 13 f)]) 94 (.row 9 1 13 g)) := by
 have : upd (ofH [(94, .row 9 1 13 f)]) 94 (.row 9 1 13 g) = ofH [(94, .row 9 1 13 g)] := by
   funext k
   by_cases h : k = 94
   · subst h; rfl
   · rw [upd_ne _ _ _ _ h, ofH_cons, ofH_cons, if_neg h, if_neg h]
 rw [this]
 exact row94_foot g
theorem key_enc : ∀ k, k < 13 → keyOf k = encStr (keyB k) := by
 intro k hk
 have : ((List.range 13).all fun k => eqKey (keyOf k) (encStr (keyB k))) = true := by kernel_rfl
 exact eqKey_ok (List.all_eq_true.1 this k (List.mem_range.2 hk))
theorem row94_sort [Glb] {l : List Nat} (h : l.Nodup) (hlt : ∀ x ∈ l, x < 13) (hall : ∀ x, x < 13 → x ∈ l) (hlen : l.length = 13) : AFun Tryz.prog 225 [.own 94 13] (ofH [(94, .row 9 1 13 fun i => [.raw (keyOf (l.getD i 0))])]) fun out h' => out = .ret (.c (.tup [])) ∧ h' = upd (ofH [(94, .row 9 1 13 fun i => [.raw (keyOf (l.getD i 0))])]) 94 (.row 9 1 13 fun i => [.raw (encStr ((ftL.map fun b => b.data.toList).getD i []))]) := by
 have hl : (l.map keyB).length = 13 := by simpa using hlen
 have hs := afun_sortStr (P := Tryz.prog) (f := 225) ⟨_, Tryz.func225, by kernel_rfl, rfl⟩ (srt := fun l => l.mergeSort fun x y => decide (x ≤ y)) (fun l => List.length_mergeSort l) (fun blk off cap ss w a b c => Tryz.slices_Sort_string blk off cap ss w a b c) (h := ofH [(94, .row 9 1 13 fun i => [.raw (keyOf (l.getD i 0))])]) (o := 94) (ty := 9) (ss := l.map keyB) (g := fun i => [.raw (keyOf (l.getD i 0))]) (by rw [hl]; rfl) (fun i hi => by
   rw [hl] at hi
   have h1 : l.getD i 0 < 13 := by
     rw [getD_lt (by omega)]
     exact hlt _ (List.getElem_mem _)
   rw [key_enc _ h1]
   congr 3
   rw [getD_lt (by omega), getD_lt (by simp; omega), List.getElem_map]) (by rw [hl]; decide) (by rw [hl]; decide)
 rw [hl] at hs
 have he := sorted_births h hlt hall
 simp only [he] at hs
 exact hs
theorem sorted_row : ∀ i, i < 13 → (fun i => [CV.raw (encStr ((ftL.map fun b => b.data.toList).getD i []))]) i = rowFn (ftL.map fun b => [CV.raw (.string b)]) i := by
 intro i hi
 have hl : ftL.length = 13 := by kernel_rfl
 unfold rowFn
 dsimp only
 rw [getD_lt (by simp; omega), getD_lt (by simp; omega), List.getElem_map, List.getElem_map]
theorem table_ok [Glb] : ∃ D, CallOk Tryz.prog 218 [.ptr 1 0] (tabV .emp) (.c (.raw (.int .i64 0))) (tabV (.c featTree)) D := by
 obtain ⟨⟨e, st1⟩, he, hp⟩ := Option.map_eq_some_iff.1 feats_pre
 simp only [Prod.mk.injEq] at hp
 obtain ⟨rfl, s0, s3, o0, o1, o15⟩ := hp
 have hng : nonGone (tabV .emp) = [0, 1] := by kernel_rfl
 refine ⟨_, callOk_pre (c := bodyF) (V' := tabV (.c featTree)) (fo := [0, 1]) follows49 (eCall_ok follows49 (kOf_ok feats_ok) 23) (n := 5) Tryz.func218 (by rfl) (by kernel_rfl) (Nat.le_of_ble_eq_true (by kernel_rfl)) (Nat.le_of_ble_eq_true (by kernel_rfl)) he (fun o ho => by rw [hng] at ho; exact ho) rfl ?_⟩
 rw [hng]
 have FF := True.intro
 refine awp_cut [(0, .ptr 1 0), (3, .mref 15)] [(0, .map tabNum 13), (1, .box 231 [.c cPre, .c cCds, .mref 0, .emp, .emp, .emp]), (15, .map seenM 13)] (by simp [s0, s3]) (by simp [o0, o1, o15, objLe]) (by decide) (by decide) (by decide) ?_
 refine awp_seq ?_
 refine awp_seqL ?_
 refine awpl_op (by rfl) (by rfl) ?_
 refine m_move ?_
 refine run_nil ?_
 refine awpl_rangeM (o := 15) (c := 13) (es := seenM) (kt := 9) (et := 4) ?_ (by simp only [go_sem, reduceIte, Nat.reduceEqDiff] <;> rfl) (by simp only [go_sem, reduceIte, Nat.reduceEqDiff] <;> rfl) (by kernel_rfl) (by simp only [go_sem, reduceIte, Nat.reduceEqDiff] <;> rfl) (Nat.le_of_ble_eq_true (by kernel_rfl))
 refine awpl_end ?_
 rw [thenQ_normal]
 refine awp_block ?_
 refine m_for (ι := List Nat) (fun l => [(0, .ptr 1 0), (82, .iref 82)]) (fun l => [(0, .map tabNum 13), (1, .box 231 [.c cPre, .c cCds, .mref 0, featsA l, .emp, .emp]), (15, .map seenM 13), (82, .iter 15 13 l 13), (94, rowO l)]) (fun l => 13 - l.length) (fun l => l.Nodup ∧ ∀ x ∈ l, x < 13) ([]) ?_ ?_ (hb := fun l _ => by cases l <;> rfl)
 · exact ⟨List.nodup_nil, fun x h => by cases h⟩
 rintro l ⟨hnd, hlt⟩
 refine awp_seqL ?_
 refine awpl_nextM (i := 82) (m := 15) (since := 13) (last := 13) (c := 13) (seen := l) (es := seenM) (fun hall => ?_) (fun e he hns y' hy' => ?_) born_lt (.inr born_first) (by kernel_rfl) (by simp only [go_sem, reduceIte, Nat.reduceEqDiff] <;> rfl) (by simp only [go_sem, reduceIte, Nat.reduceEqDiff] <;> rfl) (by simp only [go_sem, reduceIte, Nat.reduceEqDiff] <;> rfl) (Nat.le_of_ble_eq_true (by kernel_rfl))
 · refine awpl_op (by rfl) (by rfl) ?_
   refine m_extract ?_
   refine run_nil ?_
   refine awpl_end ?_
   rw [thenQ_normal]
   refine awp_seq ?_
   refine m_cond (fun hc => ?_) (fun hc => ?_)
   · cases hc
   · refine awp_exit ?_
     simp only [thenQ_exit, blockQ_exit, reduceIte, Nat.reduceEqDiff]
     try rw [thenQ_normal]
     have hall' : ∀ x, x < 13 → x ∈ l := fun x hx => by
       have h1 : seenM.map (·.2.1) = List.range 13 := by kernel_rfl
       have hm : x ∈ seenM.map (·.2.1) := by rw [h1]; exact List.mem_range.2 hx
       obtain ⟨e, he, rfl⟩ := List.mem_map.1 hm
       exact hall e he
     have hlen : l.length = 13 := by
       have := ((List.perm_ext_iff_of_nodup hnd (List.nodup_range (n := 13))).2 fun a => ⟨fun h => List.mem_range.2 (hlt a h), fun h => hall' a (List.mem_range.1 h)⟩).length_eq
       simpa using this
     have e1 : featsA l = .own 94 l.length := by cases l <;> simp_all [featsA]
     have e2 : rowO l = .row 9 1 l.length fun i => [.raw (keyOf (l.getD i 0))] := by cases l <;> simp_all [rowO]
     rw [e1, e2, hlen]
     clear e1 e2
     refine m_cut [(0, .ptr 1 0)] [(0, .map tabNum 13), (1, .box 231 [.c cPre, .c cCds, .mref 0, .own 94 13, .emp, .emp]), (94, .row 9 1 13 fun i => [.raw (keyOf (l.getD i 0))])] ?_
     refine awp_seqL ?_
     refine awpl_op (by rfl) (by rfl) ?_
     refine m_move ?_
     refine run_nil ?_
     refine awpl_op (by rfl) (by rfl) ?_
     refine m_nil ?_
     refine run_nil ?_
     refine awpl_op (by rfl) (by rfl) ?_
     refine m_field ?_
     refine run_nil ?_
     refine awpl_op (by rfl) (by rfl) ?_
     refine m_load ?_
     refine run_nil ?_
     refine awpl_callI [94] ((row94_sort hnd hlt hall' hlen).mono fun out h1 q => CallI.of_eq q (by simp [AV.refsw, AV.ref1w]) (row94_foot' _ _) ?_) (by rfl) (by simp only [List.map, go_sem, reduceIte, Nat.reduceEqDiff, FF] <;> rfl) (row94_foot _) (by simp only [List.forall_mem_cons, List.forall_mem_nil, go_sem, reduceIte, Nat.reduceEqDiff, FF]; all_goals ((repeat' apply And.intro) <;> first | trivial | rfl)) (by simp [AV.refsw, AV.ref1w, AV.ref0])
     refine awpl_end ?_
     rw [thenQ_normal]
     simp only [appL, id, AObj.ren]
     refine m_cutH [(0, .ptr 1 0)] [(0, .map tabNum 13), (1, .box 231 [.c cPre, .c cCds, .mref 0, .own 94 13, .emp, .emp]), (94, .row 9 1 13 (rowFn (ftL.map fun b => [.raw (.string b)])))] ?_ ?_
     · simp only [List.forall_mem_cons, List.forall_mem_nil, go_sem, reduceIte, Nat.reduceEqDiff, and_true]
       exact ⟨objLe_refl _, objLe_refl _, objLe_rown rfl sorted_row⟩
     refine m_frz 94 [(0, .ptr 1 0)] [(0, .map tabNum 13), (1, .box 231 [.c cPre, .c cCds, .mref 0, .c featTree, .emp, .emp])] ?_
     refine awp_rseq (by decide) fun KK hKK => ?_
     refine m_assign ?_
     refine hKK _ _ ?_
     clear hKK KK
     refine awp_ret ⟨rfl, [.c (.raw (.int .i64 0))], ⟨⟨?_, ?_⟩, trivial⟩, .inl ⟨.raw (.int .i64 0), by simp [AV.refsw, AV.ref1w], CV.Sub.refl _, rfl, ?_⟩⟩
     · simp only [go_sem, reduceIte, Nat.reduceEqDiff]
     · simp only [go_sem, reduceIte, Nat.reduceEqDiff]
     · rw [tabV_eq]
       refine keepH_eq (l := [(0, .map tabNum 13), (1, .box 231 [.c cPre, .c cCds, .mref 0, .c featTree, .emp, .emp])]) fun p hp => ?_
       simp only [List.mem_cons, List.not_mem_nil, or_false] at hp
       rcases hp with rfl | rfl <;> rfl
 · refine awpl_op (by rfl) (by rfl) ?_
   refine m_extract ?_
   refine run_nil ?_
   refine awpl_end ?_
   rw [thenQ_normal]
   refine awp_seq ?_
   refine m_cond (fun hc => ?_) (fun hc => ?_)
   · refine awp_skip ?_
     first | rw [thenQ_normal] | rw [blockQ_normal, thenQ_normal]
     obtain ⟨ek, en, ex⟩ := e
     obtain ⟨b, rfl⟩ := key_str he
     refine awp_block ?_
     refine awp_seqL ?_
     refine awpl_entry (i := 82) (m := 15) (since := 13) (c := 13) (seen := l) (es := seenM) (x := (.string b, en, ex)) ?_ he rfl hy' born_nodup (by simp only [go_sem, reduceIte, Nat.reduceEqDiff] <;> rfl) (by simp only [go_sem, reduceIte, Nat.reduceEqDiff] <;> rfl) (by simp only [go_sem, reduceIte, Nat.reduceEqDiff] <;> rfl) (Nat.le_of_ble_eq_true (by kernel_rfl))
     refine awpl_op (by rfl) (by rfl) ?_
     refine m_extract ?_
     refine run_nil ?_
     refine awpl_op (by rfl) (by rfl) ?_
     refine m_assign ?_
     refine run_nil ?_
     refine awpl_end ?_
     rw [thenQ_normal]
     cases l with
     | nil =>
       rw [show featsA [] = .emp from rfl, show rowO [] = .gone from rfl]
       refine awp_rlast (by decide) fun KK hKK => ?_
       refine m_move ?_
       refine m_move ?_
       refine m_nil ?_
       refine m_field ?_
       refine m_load ?_
       refine m_move ?_
       refine m_sliceN ?_
       first | refine m_appOwn ?_ | refine m_appEmp ?_
       refine m_nil ?_
       refine m_field ?_
       first | refine m_stPtr ?_ | refine m_stRp ?_
       refine hKK _ _ ?_
       clear hKK KK
       rw [blockQ_normal]
       try rw [thenQ_normal]
       refine m_nextH ([en]) ?_ ?_ ?_
       · exact ⟨by simp, fun x hx => by rw [List.mem_singleton.1 hx]; exact born_lt _ he⟩
       · simp
       · simp only [List.forall_mem_cons, List.forall_mem_nil, go_sem, reduceIte, Nat.reduceEqDiff, and_true]
         refine ⟨objLe_refl _, objLe_refl _, objLe_refl _, objLe_refl _, objLe_rown rfl fun i hi => ?_⟩
         obtain rfl : i = 0 := by omega
         simp [key_of he]
     | cons a r =>
       have hlen : (a :: r).length ≤ 13 := births_le hnd hlt
       have e1 : featsA (a :: r) = .own 94 (a :: r).length := rfl
       have e2 : rowO (a :: r) = .row 9 1 (a :: r).length fun i => [.raw (keyOf ((a :: r).getD i 0))] := rfl
       rw [e1, e2]
       clear e1 e2
       have hnd2 : ((a :: r) ++ [en]).Nodup := by
         rw [List.nodup_append]
         refine ⟨hnd, by simp, fun x hx y hy => ?_⟩
         rw [List.mem_singleton.1 hy]
         intro e
         exact hns (e ▸ hx)
       have hlt2 : ∀ x ∈ (a :: r) ++ [en], x < 13 := fun x hx => by
         rcases List.mem_append.1 hx with h | h
         · exact hlt x h
         · rw [List.mem_singleton.1 h]
           exact born_lt _ he
       have hln : 13 - ((a :: r) ++ [en]).length < 13 - (a :: r).length := by
         have := births_le hnd2 hlt2
         simp only [List.length_append, List.length_cons, List.length_nil] at this ⊢
         omega
       generalize hn : (a :: r).length = n at *
       refine awp_rlast (by decide) fun KK hKK => ?_
       refine m_move ?_
       refine m_move ?_
       refine m_nil ?_
       refine m_field ?_
       refine m_load ?_
       refine m_move ?_
       refine m_sliceN ?_
       first | refine m_appOwn ?_ | refine m_appEmp ?_
       refine m_nil ?_
       refine m_field ?_
       first | refine m_stPtr ?_ | refine m_stRp ?_
       refine hKK _ _ ?_
       clear hKK KK
       rw [blockQ_normal]
       try rw [thenQ_normal]
       refine m_nextH ((a :: r) ++ [en]) ?_ ?_ ?_
       · exact ⟨hnd2, hlt2⟩
       · exact hln
       · subst hn
         simp only [List.forall_mem_cons, List.forall_mem_nil, go_sem, reduceIte, Nat.reduceEqDiff, and_true]
         refine ⟨objLe_refl _, objLe_of (by simp [featsA]), objLe_refl _, objLe_refl _, objLe_rown (by simp) fun i hi => ?_⟩
         split
         · rename_i hlt2
           rw [← List.cons_append, List.getD_eq_getElem?_getD, List.getD_eq_getElem?_getD, List.getElem?_append_left (by simpa using hlt2)]
         · rename_i hge
           obtain rfl : i = r.length + 1 := by omega
           simp [List.getD_eq_getElem?_getD, key_of he]
   · cases hc
end Go.Am
open Go Go.Proofs
namespace Go.Am
attribute [local go_sem ↓] ofL_cons ofH_cons upd_apply
set_option maxHeartbeats 1000000
set_option linter.unusedSimpArgs false
theorem clone_ok [Glb] : APure Tryz.prog 245 [.emp] (.im 0 0 (rowFn [])) := by
 have FF : True := trivial
 refine apure_of Tryz.func245 rfl (by kernel_rfl) (by simp [Tryz.ntmps245]) ?_
 rw [Tryz.ntmps245]
 refine awp_rseq (by decide) fun KK hKK => ?_
 refine m_assign ?_
 refine hKK _ _ ?_
 clear hKK KK
 refine awp_seq ?_
 refine awp_seqL ?_
 refine awpl_op (by rfl) (by rfl) ?_
 refine m_move ?_
 refine run_nil ?_
 refine awpl_empNil (e := 185) (by simp only [go_sem, reduceIte, Nat.reduceEqDiff] <;> rfl) (by kernel_rfl) (by decide) fun b => ?_
 refine awpl_end ?_
 rw [thenQ_normal]
 cases b with
 | true =>
   refine m_cond (fun hc => ?_) (fun hc => ?_)
   · refine awp_rseq (by decide) fun KK hKK => ?_
     refine m_assign ?_
     refine hKK _ _ ?_
     clear hKK KK
     refine awp_ret ⟨[_], ⟨⟨(by simp only [go_sem, reduceIte, Nat.reduceEqDiff, FF]), (by simp only [go_sem, reduceIte, Nat.reduceEqDiff, FF] <;> rfl)⟩, trivial⟩, ?_⟩
     simp only [go_sem, reduceIte, Nat.reduceEqDiff, FF, tupled]
     exact CV.Sub.im0 rfl rfl
   · cases hc
 | false =>
   refine m_cond (fun hc => ?_) (fun hc => ?_)
   · cases hc
   · refine awp_skip ?_
     first | rw [thenQ_normal] | rw [blockQ_normal, thenQ_normal]
     refine awp_rseq (by decide) fun KK hKK => ?_
     refine m_slice0 ?_
     refine m_move ?_
     first | refine m_appOwn ?_ | refine m_appEmp ?_
     refine m_assign ?_
     refine hKK _ _ ?_
     clear hKK KK
     refine awp_ret ⟨[_], ⟨⟨(by simp only [go_sem, reduceIte, Nat.reduceEqDiff, FF]), (by simp only [go_sem, reduceIte, Nat.reduceEqDiff, FF] <;> rfl)⟩, trivial⟩, ?_⟩
     simp only [go_sem, reduceIte, Nat.reduceEqDiff, FF, tupled]
     exact CV.Sub.im0 rfl rfl
end Go.Am
open Go Go.Proofs
namespace Go.Am
theorem base49 [Glb] : Base49 where
 names := names_ok
 feats := feats_ok
 clone := fun p hp => by
   obtain rfl := List.mem_singleton.1 hp
   exact clone_ok
 table := table_ok
theorem comp_ok [Glb] : APure Tryz.prog 26 [cMod] (.tup [.agg [.any, .any, .any, .any, .any, .any, .any, .any], .any, cOK]) := comp_mod base49
end Go.Am
open Go Go.Proofs
namespace Go.Am
set_option maxRecDepth 1000000
noncomputable def kBad : List PC := [⟨30, [.raw (.string ⟨#[82]⟩)], .raw (.bool false)⟩]
theorem kBad_ok [Glb] : ∀ p ∈ kBad, APure Tryz.prog p.f p.cs p.r := fun p hp => by
 obtain rfl := List.mem_singleton.1 hp
 have h := tname_ok ⟨#[82]⟩
 have e : namedB ⟨#[82]⟩ false = false := by kernel_rfl
 rw [e] at h
 exact h
theorem mkbad_ok [Glb] : APure Tryz.prog 27 [.agg [.any, .any, .any, .any, .any, .any, .any, .any], .raw (.string ⟨#[82]⟩), .im 0 0 (fun _ => []), .agg [.raw (.int .i64 0), .raw (.int .u64 0), .raw (.int .i64 0), .raw (.int .i64 0), .raw (.bool false)]] (.tup [.agg [.any, .any], .raw (.int .i64 1)]) :=
 pure_of_chk follows49 (K := kOf kBad) (kOf_ok kBad_ok) (by kernel_rfl : chkCall Tryz.prog kp49 (kOf kBad) 27 [.agg [.any, .any, .any, .any, .any, .any, .any, .any], .raw (.string ⟨#[82]⟩), .im 0 0 (fun _ => []), .agg [.raw (.int .i64 0), .raw (.int .u64 0), .raw (.int .i64 0), .raw (.int .i64 0), .raw (.bool false)]] (.tup [.agg [.any, .any], .raw (.int .i64 1)]) = true)
end Go.Am
