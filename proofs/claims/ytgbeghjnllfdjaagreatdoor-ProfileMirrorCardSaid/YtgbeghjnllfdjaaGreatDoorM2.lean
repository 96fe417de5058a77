/- Texts of the proof: Bm8 Bm9 BmA BmB BmC BmD BmE BmF BmH BmI BmJ BmG. No condition. -/
import Derived.Test.YtgbeghjnllfdjaaGreatDoorM1
import Derived.IntWalk
set_option linter.unusedVariables false
set_option linter.unusedSimpArgs false
namespace Go.Am
open Go.RowKit
theorem RA.ref0_live {w : World} {Z : Nat → Prop} {h : AH} {gs : Gs} {v : Value} {x : AV} (hx : RA w Z h gs v x) : ∀ o ∈ x.ref0, h o ≠ .gone := by
 intro o ho e
 cases hx with
 | _ => simp only [AV.ref0, List.mem_singleton, List.not_mem_nil] at ho <;> subst ho <;> simp_all
theorem RA.ref1_live {w : World} {Z : Nat → Prop} {h : AH} {gs : Gs} {v : Value} {x : AV} (hx : RA w Z h gs v x) : ∀ o ∈ x.ref1, h o ≠ .gone := by
 match x, hx with
 | .fn f ps, .fn _ cs _ hl _ hh =>
   intro o ho
   simp only [AV.ref1, List.mem_flatMap] at ho
   obtain ⟨y, hy, hoy⟩ := ho
   obtain ⟨i, hi, rfl⟩ := List.getElem_of_mem hy
   have := hh i hi
   rw [getD_lt hi] at this
   exact this.ref0_live o hoy
 | .c _, hx | .agg _, hx | .pim _, hx | .ptr _ _, hx | .rp _ _ _ _, hx | .own _ _, hx | .osub _ _ _ _, hx | .emp, hx | .when _ _, hx | .mref _, hx | .bs _ _, hx | .iref _, hx => exact hx.ref0_live
theorem RA.refs_live {w : World} {Z : Nat → Prop} {h : AH} {gs : Gs} {v : Value} {x : AV} (hx : RA w Z h gs v x) : ∀ o ∈ x.refs, h o ≠ .gone := by
 match x, hx with
 | .agg xs, .agg cs _ hl ho hh =>
   intro o ho'
   simp only [AV.refs, List.mem_flatMap] at ho'
   obtain ⟨y, hy, hoy⟩ := ho'
   obtain ⟨i, hi, rfl⟩ := List.getElem_of_mem hy
   have := hh i hi
   rw [getD_lt hi] at this
   exact this.ref1_live o hoy
 | .c _, hx | .fn _ _, hx | .pim _, hx | .ptr _ _, hx | .rp _ _ _ _, hx | .own _ _, hx | .osub _ _ _ _, hx | .emp, hx | .when _ _, hx | .mref _, hx | .bs _ _, hx | .iref _, hx => exact hx.ref1_live
structure Agree (op : Op) (e e' : Operand → AV) (h h' : AH) : Prop where
 ops : ∀ y ∈ op.operands, e' y = e y
 objs : ∀ y ∈ op.operands, (e y).wh = true → ∀ o ∈ (e y).strip.refs, h o ≠ .gone → h' o = h o
theorem aop0_congr {P : Program} {op : Op} {e e' : Operand → AV} {G : Bool} {x : AV} (hc : cls op = 0) (he : ∀ y ∈ op.operands, e' y = e y) (hx : aop0 P op e G x) : aop0 P op e' G x := by
 cases op <;> simp only [Op.operands, List.mem_toArray, List.mem_cons, List.not_mem_nil, or_false, forall_eq_or_imp, forall_eq] at he
 case move y => simp only [aop0, he] at hx ⊢; exact hx
 case assign y => simp only [aop0, he] at hx ⊢; exact hx
 case pick c y z => obtain ⟨h1, h2, h3⟩ := he; simp only [aop0, h1, h2, h3] at hx ⊢; exact hx
 case binOp op t y z t2 => obtain ⟨h1, h2⟩ := he; simp only [aop0, h1, h2] at hx ⊢; exact hx
 case unOp op t y => cases op <;> simp only [aop0, he] at hx ⊢ <;> exact hx
 case fieldAddr t y f => simp only [aop0, he] at hx ⊢; exact hx
 case extract y i => simp only [aop0, he] at hx ⊢; exact hx
 case convert t t2 y => simp only [aop0, he] at hx ⊢; exact hx
 case nilCheck y => simp only [aop0, he] at hx ⊢; exact hx
 case index t y z => obtain ⟨h1, h2⟩ := he; simp only [aop0, h1, h2] at hx ⊢; exact hx
 case makeInterface t y => simp only [aop0, he] at hx ⊢; exact hx
 case makeFunc fn first caps =>
   obtain ⟨f, os, rfl, rfl, hw, hm, hfl, rfl⟩ := hx
   have hp : ∀ y ∈ caps.toList, e' y = e y := fun y hy => he y (by simpa using hy)
   exact ⟨f, os, rfl, rfl, fun g y hy => by rw [hp y hy]; exact hw g y hy, by rw [← hm]; exact List.map_congr_left fun y hy => by rw [hp y hy], hfl, rfl⟩
 case build t parts =>
   have hp : ∀ p ∈ parts.toList, e' p.2 = e p.2 := fun p hp => he _ (List.mem_map.2 ⟨p, hp, rfl⟩)
   simp only [aop0] at hx ⊢
   rw [List.map_congr_left (g := fun p => (p.1, (e p.2).strip)) (fun p hm => by rw [hp p hm])]
   rcases hx with ⟨i, j, el, m, cs, h1, h2, h3, h4, h5, h6, h7, h8⟩ | hx
   · refine .inl ⟨i, j, el, m, cs, h1, h2, h3, h4, h5, ?_, fun hg p hm => by rw [hp p hm]; exact h7 hg p hm, h8⟩
     rw [List.map_congr_left (g := fun p => (p.1, (e p.2).strip)) (fun p hm => by rw [hp p hm])]
     exact h6
   refine .inr ?_
   obtain ⟨i, cs, h1, h2, h3, h4, h5, h6, h7, h8⟩ := hx
   exact ⟨i, cs, h1, h2, h3, h4, h5, h6, fun hg p hm => by rw [hp p hm]; exact h7 hg p hm, h8⟩
 case buildSlice t n parts =>
   have hp : ∀ p ∈ parts.toList, e' p.2 = e p.2 := fun p hp => he _ (List.mem_map.2 ⟨p, hp, rfl⟩)
   have hpc : ∀ (l : List (Nat × Operand)) (k sz : Nat), (∀ p ∈ l, e' p.2 = e p.2) → partsC e' l k sz = partsC e l k sz := by
     intro l
     induction l with
     | nil => intros; rfl
     | cons p l ih =>
       intro k sz hl
       obtain ⟨i, y⟩ := p
       simp only [partsC]
       rw [ih (k + 1) sz (fun q hq => hl q (by simp [hq])), hl (i, y) (by simp)]
   simp only [aop0] at hx ⊢
   obtain ⟨i, j, l, h1, h2, h3, h4, h5, h6, h7, h8, h9⟩ := hx
   exact ⟨i, j, l, h1, h2, h3, h4, h5, by rw [hpc _ _ _ hp]; exact h6, h7, fun hg p hm => by rw [hp p hm]; exact h8 hg p hm, h9⟩
 case call c =>
   obtain ⟨callee, args, ats⟩ := c
   cases callee with
   | builtin b =>
     cases b <;> first | exact hx.elim | skip
     all_goals
       obtain ⟨y, z, k, n, m, rfl, h1, h2, h3, h4⟩ := hx
       have hy : e' y = e y := he y (by simp [Call.operands])
       have hz : e' z = e z := he z (by simp [Call.operands])
       exact ⟨y, z, k, n, m, rfl, by rw [hy]; exact h1, by rw [hz]; exact h2, by rw [hy, hz]; exact h3, h4⟩
   | _ => exact hx.elim
 all_goals exact hx.elim
theorem viewP_congr {h h' : AH} {x : AV} (hl : x.liveP h = true) (hr : ∀ o ∈ x.ref0, h o ≠ .gone → h' o = h o) : x.viewP h' = x.viewP h ∧ x.liveP h' = true := by
 have key : ∀ o, o ∈ x.ref0 → (match h o with | .gone => false | _ => true) = true → h' o = h o := fun o ho hq => hr o ho fun e => by rw [e] at hq; cases hq
 cases x with
 | own o L => have e := key o (by simp [AV.ref0]) hl; simp only [AV.viewP, AV.liveP, e] at hl ⊢; exact ⟨trivial, hl⟩
 | osub o L off k => have e := key o (by simp [AV.ref0]) hl; simp only [AV.viewP, AV.liveP, e] at hl ⊢; exact ⟨trivial, hl⟩
 | ptr o off => have e := key o (by simp [AV.ref0]) hl; simp only [AV.viewP, AV.liveP, e] at hl ⊢; exact ⟨trivial, hl⟩
 | rp o L i off => have e := key o (by simp [AV.ref0]) hl; simp only [AV.viewP, AV.liveP, e] at hl ⊢; exact ⟨trivial, hl⟩
 | mref o => have e := key o (by simp [AV.ref0]) hl; simp only [AV.viewP, AV.liveP, e] at hl ⊢; exact ⟨trivial, hl⟩
 | _ => exact ⟨rfl, rfl⟩
theorem view1_congr {h h' : AH} {x : AV} (hl : x.live1 h = true) (hr : ∀ o ∈ x.ref1, h o ≠ .gone → h' o = h o) : x.view1 h' = x.view1 h ∧ x.live1 h' = true := by
 cases x with
 | fn f ps =>
   simp only [AV.live1, List.all_eq_true] at hl
   have hk : ∀ y ∈ ps, y.viewP h' = y.viewP h ∧ y.liveP h' = true := fun y hy => viewP_congr (hl y hy) fun o ho => hr o (List.mem_flatMap.2 ⟨y, hy, ho⟩)
   refine ⟨?_, ?_⟩
   · simp only [AV.view1]
     rw [List.map_congr_left fun y hy => (hk y hy).1]
   · simp only [AV.live1, List.all_eq_true]
     exact fun y hy => (hk y hy).2
 | own o L => exact viewP_congr (x := .own o L) hl hr
 | osub o L off k => exact viewP_congr (x := .osub o L off k) hl hr
 | ptr o off => exact viewP_congr (x := .ptr o off) hl hr
 | rp o L i off => exact viewP_congr (x := .rp o L i off) hl hr
 | mref o => exact viewP_congr (x := .mref o) hl hr
 | _ => exact ⟨rfl, rfl⟩
theorem view_congr {h h' : AH} {x : AV} (hl : x.live h = true) (hr : ∀ o ∈ x.refs, h o ≠ .gone → h' o = h o) : x.view h' = x.view h ∧ x.live h' = true := by
 cases x with
 | agg xs =>
   simp only [AV.live, List.all_eq_true] at hl
   have hk : ∀ y ∈ xs, y.view1 h' = y.view1 h ∧ y.live1 h' = true := fun y hy => view1_congr (hl y hy) fun o ho => hr o (List.mem_flatMap.2 ⟨y, hy, ho⟩)
   refine ⟨?_, ?_⟩
   · simp only [AV.view]
     rw [List.map_congr_left fun y hy => (hk y hy).1]
   · simp only [AV.live, List.all_eq_true]
     exact fun y hy => (hk y hy).2
 | own o L => exact view1_congr (x := .own o L) hl hr
 | osub o L off k => exact view1_congr (x := .osub o L off k) hl hr
 | fn f ps => exact view1_congr (x := .fn f ps) hl hr
 | ptr o off => exact view1_congr (x := .ptr o off) hl hr
 | rp o L i off => exact view1_congr (x := .rp o L i off) hl hr
 | mref o => exact view1_congr (x := .mref o) hl hr
 | _ => exact ⟨rfl, rfl⟩
theorem aop1_congr [Glb] {P : Program} {op : Op} {e e' : Operand → AV} {h h' : AH} {x : AV} (A : Agree op e e' h h') (hx : aop1 P op e h true x) : aop1 P op e' h' true x := by
 cases op with
 | load t y =>
   have hy := A.ops y (by simp [Op.operands])
   obtain ⟨i, h1, h2, h3, h4⟩ := hx
   have hr := A.objs y (by simp [Op.operands]) (h3 rfl)
   refine ⟨i, h1, h2, by rw [hy]; exact h3, ?_⟩
   rw [hy]
   generalize (e y).strip = q at h4 hr
   cases q with
   | ptr o off =>
     obtain ⟨ty, cells, e1, e2⟩ := h4
     exact ⟨ty, cells, (hr o (by simp [AV.refs, AV.ref1, AV.ref0]) (by rw [e1]; simp)).trans e1, e2⟩
   | rp o L k off =>
     obtain ⟨ty, sz, n, f, e1, e2⟩ := h4
     exact ⟨ty, sz, n, f, (hr o (by simp [AV.refs, AV.ref1, AV.ref0]) (by rw [e1]; simp)).trans e1, e2⟩
   | c z => cases z <;> exact h4
   | _ => exact h4
 | lookup t y z ok =>
   have hy := A.ops y (by simp [Op.operands])
   have hz := A.ops z (by simp [Op.operands])
   obtain ⟨kt, et, kd, k, q, h1, h2, h3, h4, h5, h6, h7⟩ := hx
   have hr := A.objs y (by simp [Op.operands]) (h5 rfl).1
   refine ⟨kt, et, kd, k, q, h1, h2, h3, by rw [hz]; exact h4, by rw [hy, hz]; exact h5, ?_, h7⟩
   rw [hy]
   generalize (e y).strip = q at h6 hr
   cases q with
   | mref o =>
     obtain ⟨es, c, e1, e2⟩ := h6
     exact ⟨es, c, (hr o (by simp [AV.refs, AV.ref1, AV.ref0]) (by rw [e1]; simp)).trans e1, e2⟩
   | c z =>
     cases z with
     | raw u =>
       cases u with
       | map r => cases r <;> exact h6
       | _ => exact h6
     | _ => exact h6
   | _ => exact h6
 | indexAddr t y z =>
   have hy := A.ops y (by simp [Op.operands])
   have hz := A.ops z (by simp [Op.operands])
   rcases hx with ⟨el, m, j, k, n, xs, e1, e2, e3, ez, hw, ey, hn, hx⟩ | hx
   · exact .inl ⟨el, m, j, k, n, xs, e1, e2, e3, by rw [hz]; exact ez, by rw [hy, hz]; exact hw, by rw [hy]; exact ey, hn, hx⟩
   refine .inr ?_
   obtain ⟨i, j, k, n, h1, h2, h3, h4, h5, h6⟩ := hx
   have hr := A.objs y (by simp [Op.operands]) (h5 rfl).1
   refine ⟨i, j, k, n, h1, h2, h3, by rw [hz]; exact h4, by rw [hy, hz]; exact h5, ?_⟩
   rw [hy]
   generalize (e y).strip = q at h6 hr
   cases q with
   | own o L =>
     obtain ⟨ty, sz, m, f, e1, e2⟩ := h6
     exact ⟨ty, sz, m, f, (hr o (by simp [AV.refs, AV.ref1, AV.ref0]) (by rw [e1]; simp)).trans e1, e2⟩
   | osub o L off k =>
     obtain ⟨ty, sz, m, f, e1, e2⟩ := h6
     exact ⟨ty, sz, m, f, (hr o (by simp [AV.refs, AV.ref1, AV.ref0]) (by rw [e1]; simp)).trans e1, e2⟩
   | c z => cases z <;> exact h6
   | _ => exact h6
 | slice t y lo hi mx =>
   cases mx with
   | some m => exact hx.elim
   | none =>
   have hy := A.ops y (by simp [Op.operands])
   have hlo' : ∀ z, lo = some z → e' z = e z := fun z hz => A.ops z (by simp [Op.operands, hz])
   have hhi' : ∀ z, hi = some z → e' z = e z := fun z hz => A.ops z (by simp [Op.operands, hz])
   obtain ⟨l, hh, h1, h2, h3, h4, h5⟩ := hx
   have hr := A.objs y (by simp [Op.operands]) (h4 rfl).1
   refine ⟨l, hh, fun z hz => by rw [hlo' z hz]; exact h1 z hz, h2, fun z hz => by rw [hhi' z hz]; exact h3 z hz, by rw [hy]; exact h4, ?_⟩
   rw [hy]
   generalize (e y).strip = q at h5 hr
   cases q with
   | own o L =>
     obtain ⟨ty, sz, m, f, e1, e2⟩ := h5
     exact ⟨ty, sz, m, f, (hr o (by simp [AV.refs, AV.ref1, AV.ref0]) (by rw [e1]; simp)).trans e1, e2⟩
   | osub o L off k =>
     obtain ⟨ty, sz, m, f, e1, e2⟩ := h5
     exact ⟨ty, sz, m, f, (hr o (by simp [AV.refs, AV.ref1, AV.ref0]) (by rw [e1]; simp)).trans e1, e2⟩
   | c z =>
     cases z with
     | raw u => cases u <;> exact h5
     | _ => exact h5
   | _ => exact h5
 | call c =>
   obtain ⟨callee, args, ats⟩ := c
   cases callee with
   | builtin b =>
     cases b <;> first | exact hx.elim | skip
     obtain ⟨y, t, rfl, rfl, h1, h2⟩ := hx
     have hy := A.ops y (by simp [Op.operands, Call.operands])
     have hr := A.objs y (by simp [Op.operands, Call.operands]) (h1 rfl)
     refine ⟨y, t, rfl, rfl, by rw [hy]; exact h1, ?_⟩
     rw [hy]
     generalize (e y).strip = q at h2 hr
     cases q with
     | own o L =>
       obtain ⟨e0, ty, sz, m, f, e1, e2⟩ := h2
       exact ⟨e0, ty, sz, m, f, (hr o (by simp [AV.refs, AV.ref1, AV.ref0]) (by rw [e1]; simp)).trans e1, e2⟩
     | osub o L off k =>
       obtain ⟨e0, ty, sz, m, f, e1, e2⟩ := h2
       exact ⟨e0, ty, sz, m, f, (hr o (by simp [AV.refs, AV.ref1, AV.ref0]) (by rw [e1]; simp)).trans e1, e2⟩
     | mref o =>
       obtain ⟨e0, es, c, e1, e2⟩ := h2
       exact ⟨e0, es, c, (hr o (by simp [AV.refs, AV.ref1, AV.ref0]) (by rw [e1]; simp)).trans e1, e2⟩
     | c z =>
       cases z with
       | raw u => cases u <;> exact h2
       | _ => exact h2
     | _ => exact h2
   | value f =>
     cases f with
     | func f =>
       obtain ⟨cs, r, h0, h1, h2, h3, h4, h5⟩ := hx
       have hm : ∀ y ∈ args.toList, y ∈ (Op.call ⟨.value (.func f), args, ats⟩).operands := fun y hy => by simp [Op.operands, Call.operands]; exact .inr (by simpa using hy)
       have hy : ∀ y ∈ args.toList, e' y = e y := fun y hy => A.ops y (hm y hy)
       have hv : ∀ y ∈ args.toList, (e y).strip.view h' = (e y).strip.view h ∧ (e y).strip.live h' = true := fun y hy' => view_congr (h0 y hy') (A.objs y (hm y hy') (h2 rfl y hy'))
       refine ⟨cs, r, fun y hy' => by rw [hy y hy']; exact (hv y hy').2, ?_, fun hg y hy' => by rw [hy y hy']; exact h2 hg y hy', h3, ?_, h5⟩
       · rw [List.map_congr_left (g := fun y => (e y).strip.view h) fun y hy' => by rw [hy y hy']; exact (hv y hy').1]
         exact h1
       · rcases h4 with h4 | h4
         · exact .inl h4
         · exact .inr fun y hy' => by rw [hy y hy']; exact h4 y hy'
     | tmp tt =>
       obtain ⟨f, ps, hwt, het, cs, r, h0, h1, h2, h3, h4, h5⟩ := hx
       have hm : ∀ y ∈ args.toList, y ∈ (Op.call ⟨.value (.tmp tt), args, ats⟩).operands := fun y hy => by simp [Op.operands, Call.operands]; exact .inr (by simpa using hy)
       have hy : ∀ y ∈ args.toList, e' y = e y := fun y hy => A.ops y (hm y hy)
       have hv : ∀ y ∈ args.toList, (e y).strip.view h' = (e y).strip.view h ∧ (e y).strip.live h' = true := fun y hy' => view_congr (h0 y hy') (A.objs y (hm y hy') (h2 rfl y hy'))
       have htt : e' (.tmp tt) = e (.tmp tt) := A.ops _ (by simp [Op.operands, Call.operands])
       refine ⟨f, ps, by rw [htt]; exact hwt, by rw [htt]; exact het, cs, r, fun y hy' => by rw [hy y hy']; exact (hv y hy').2, ?_, fun hg y hy' => by rw [hy y hy']; exact h2 hg y hy', h3, ?_, h5⟩
       · rw [List.map_congr_left (g := fun y => (e y).strip.view h) fun y hy' => by rw [hy y hy']; exact (hv y hy').1]
         exact h1
       · rcases h4 with h4 | h4
         · exact .inl h4
         · exact .inr fun y hy' => by rw [hy y hy']; exact h4 y hy'
     | _ => exact hx.elim
   | invoke r m => exact hx.elim
 | _ => exact hx.elim
theorem srcOf_congr {h h' : AH} {x : AV} {r : Nat × Nat × (Nat → List CV)} (hs : srcOf h x = some r) (hr : ∀ o ∈ x.refs, h o ≠ .gone → h' o = h o) : srcOf h' x = some r := by
 cases x with
 | own o L =>
   have : h o ≠ .gone := fun e => by simp [srcOf, e] at hs
   simp only [srcOf, hr o (by simp [AV.refs, AV.ref1, AV.ref0]) this] at hs ⊢
   exact hs
 | osub o L off k =>
   have : h o ≠ .gone := fun e => by simp [srcOf, e] at hs
   simp only [srcOf, hr o (by simp [AV.refs, AV.ref1, AV.ref0]) this] at hs ⊢
   exact hs
 | c z => cases z <;> exact hs
 | _ => exact hs
theorem aop2_congr {P : Program} {op : Op} {e e' : Operand → AV} {h h' : AH} {d : Option Tmp} {o : Nat} {x' : AObj} {x : AV} (A : Agree op e e' h h') (hd : h o = .gone → h' o = .gone) (hx : aop2 P op e h d o x' x) : aop2 P op e' h' d o x' x := by
 cases op with
 | store t y z =>
   have hy := A.ops y (by simp [Op.operands])
   have hz := A.ops z (by simp [Op.operands])
   obtain ⟨h1, i, h2, h3, h4, h5⟩ := hx
   have hr := A.objs y (by simp [Op.operands]) h3
   refine ⟨h1, i, h2, by rw [hy]; exact h3, by rw [hz]; exact h4, ?_⟩
   rw [hy, hz]
   generalize (e y).strip = q at h5 hr
   cases q with
   | ptr o' off =>
     obtain ⟨e0, ty, cells, l, e1, e2⟩ := h5
     exact ⟨e0, ty, cells, l, (hr o' (by simp [AV.refs, AV.ref1, AV.ref0]) (by rw [e1]; simp)).trans e1, e2⟩
   | rp o' L k off =>
     obtain ⟨e0, ty, sz, n, f, l, e1, e2⟩ := h5
     exact ⟨e0, ty, sz, n, f, l, (hr o' (by simp [AV.refs, AV.ref1, AV.ref0]) (by rw [e1]; simp)).trans e1, e2⟩
   | _ => exact h5
 | mapUpdate t m k v =>
   have hm := A.ops m (by simp [Op.operands])
   have hk := A.ops k (by simp [Op.operands])
   have hv := A.ops v (by simp [Op.operands])
   obtain ⟨h0, kt, et, kd, kk, es, c, h1, h2, h3, h4, h5, h6, h7, h8, h9, h10, h11⟩ := hx
   have hr := A.objs m (by simp [Op.operands]) h5
   refine ⟨h0, kt, et, kd, kk, es, c, h1, h2, h3, by rw [hk]; exact h4, by rw [hm]; exact h5, by rw [hk]; exact h6, by rw [hv]; exact h7, by rw [hm]; exact h8, ?_, h10, by rw [hv]; exact h11⟩
   exact (hr o (by rw [h8]; simp [AV.refs, AV.ref1, AV.ref0]) (by rw [h9]; simp)).trans h9
 | mapEntry t m k =>
   have hm := A.ops m (by simp [Op.operands])
   have hk := A.ops k (by simp [Op.operands])
   obtain ⟨kt, et, kd, kk, es, c, q, y, h1, h2, h3, h4, h5, h6, h8, h9, h10⟩ := hx
   have hr := A.objs m (by simp [Op.operands]) h5
   refine ⟨kt, et, kd, kk, es, c, q, y, h1, h2, h3, by rw [hk]; exact h4, by rw [hm]; exact h5, by rw [hk]; exact h6, by rw [hm]; exact h8, ?_, h10⟩
   exact (hr o (by rw [h8]; simp [AV.refs, AV.ref1, AV.ref0]) (by rw [h9]; simp)).trans h9
 | entryStore t m b v =>
   have hm := A.ops m (by simp [Op.operands])
   have hb := A.ops b (by simp [Op.operands])
   have hv := A.ops v (by simp [Op.operands])
   obtain ⟨h0, k, n, es, c, h4, h5, h6, h7, h8, h9, h10, h11⟩ := hx
   have hr := A.objs m (by simp [Op.operands]) h5
   refine ⟨h0, k, n, es, c, by rw [hb]; exact h4, by rw [hm]; exact h5, by rw [hb]; exact h6, by rw [hv]; exact h7, by rw [hm]; exact h8, ?_, h10, by rw [hv]; exact h11⟩
   exact (hr o (by rw [h8]; simp [AV.refs, AV.ref1, AV.ref0]) (by rw [h9]; simp)).trans h9
 | call c =>
   obtain ⟨callee, args, ats⟩ := c
   cases callee with
   | builtin b =>
     cases b <;> first | exact hx.elim | skip
     case append =>
       obtain ⟨y, z, t, i, j, sz, m, g, rfl, rfl, h1, h2, h3, h4, h5, h6, h7, h8, h9, h10⟩ := hx
       have hy := A.ops y (by simp [Op.operands, Call.operands])
       have hz := A.ops z (by simp [Op.operands, Call.operands])
       have hr := A.objs y (by simp [Op.operands, Call.operands]) h6
       refine ⟨y, z, t, i, j, sz, m, g, rfl, rfl, h1, h2, h3, h4, h5, by rw [hy]; exact h6, by rw [hz]; exact h7, by rw [hz]; exact srcOf_congr h8 (A.objs z (by simp [Op.operands, Call.operands]) h7), h9, ?_⟩
       rw [hy]
       generalize (e y).strip = q at h10 hr
       cases q with
       | own o' L =>
         obtain ⟨e0, ty, n, f, e1, e2⟩ := h10
         exact ⟨e0, ty, n, f, (hr o' (by simp [AV.refs, AV.ref1, AV.ref0]) (by rw [e1]; simp)).trans e1, e2⟩
       | emp =>
         obtain ⟨e1, e2⟩ := h10
         exact ⟨hd e1, e2⟩
       | _ => exact h10
     case copy =>
       obtain ⟨y, z, t, t2, i, j, sz, m, g, rfl, rfl, h1, h2, h3, h6, h7, h8, h9, h10⟩ := hx
       have hy := A.ops y (by simp [Op.operands, Call.operands])
       have hz := A.ops z (by simp [Op.operands, Call.operands])
       have hr := A.objs y (by simp [Op.operands, Call.operands]) h6
       refine ⟨y, z, t, t2, i, j, sz, m, g, rfl, rfl, h1, h2, h3, by rw [hy]; exact h6, by rw [hz]; exact h7, by rw [hz]; exact srcOf_congr h8 (A.objs z (by simp [Op.operands, Call.operands]) h7), h9, ?_⟩
       rw [hy]
       generalize (e y).strip = q at h10 hr
       cases q with
       | own o' L =>
         obtain ⟨e0, ty, n, f, e1, e2⟩ := h10
         exact ⟨e0, ty, n, f, (hr o' (by simp [AV.refs, AV.ref1, AV.ref0]) (by rw [e1]; simp)).trans e1, e2⟩
       | osub o' L off k =>
         obtain ⟨e0, ty, n, f, e1, e2⟩ := h10
         exact ⟨e0, ty, n, f, (hr o' (by simp [AV.refs, AV.ref1, AV.ref0]) (by rw [e1]; simp)).trans e1, e2⟩
       | _ => exact h10
   | _ => exact hx.elim
 | _ => exact hx.elim
theorem aop3_congr {P : Program} {op : Op} {e e' : Operand → AV} {d : Nat} {x' : AObj} {x : AV} (he : ∀ y ∈ op.operands, e' y = e y) (hx : aop3 P op e d x' x) : aop3 P op e' d x' x := by
 cases op with
 | box t y => simp only [aop3, he y (by simp [Op.operands])] at hx ⊢; exact hx
 | alloc t => exact hx
 | makeMap t r =>
   obtain ⟨h1, h2, h3, h4⟩ := hx
   refine ⟨h1, fun y hy => ?_, h3, h4⟩
   rw [he y (by simp [Op.operands, hy])]
   exact h2 y hy
 | makeSlice t y z => simp only [aop3, he y (by simp [Op.operands]), he z (by simp [Op.operands])] at hx ⊢; exact hx
 | _ => exact hx.elim
theorem aop2_made {P : Program} {op : Op} {e : Operand → AV} {h : AH} {d : Option Tmp} {o : Nat} {x' : AObj} {x : AV} (hx : aop2 P op e h d o x' x) : x' ≠ .gone := by
 cases op with
 | store t y z =>
   obtain ⟨_, i, _, _, _, h5⟩ := hx
   generalize (e y).strip = q at h5
   cases q with
   | ptr o' off => obtain ⟨_, ty, cells, l, _, _, _, _, rfl⟩ := h5; simp
   | rp o' L k off => obtain ⟨_, ty, sz, n, f, l, _, _, _, _, _, _, rfl⟩ := h5; simp
   | _ => exact h5.elim
 | mapUpdate t m k v => obtain ⟨_, kt, et, kd, kk, es, c, _, _, _, _, _, _, _, _, _, _, rfl⟩ := hx; simp
 | mapEntry t m k => obtain ⟨kt, et, kd, kk, es, c, q, y, _, _, _, _, _, _, _, _, _, _, _, rfl, _⟩ := hx; simp
 | entryStore t m b v => obtain ⟨_, k, n, es, c, _, _, _, _, _, _, _, rfl⟩ := hx; simp
 | call c =>
   obtain ⟨callee, args, ats⟩ := c
   cases callee with
   | builtin b =>
     cases b <;> first | exact hx.elim | skip
     case append =>
       obtain ⟨y, z, t, i, j, sz, m, g, _, _, _, _, _, _, _, _, _, _, _, h10⟩ := hx
       generalize (e y).strip = q at h10
       cases q with
       | own o' L => obtain ⟨_, ty, n, f, _, _, _, _, _, rfl, _⟩ := h10; simp
       | emp => obtain ⟨_, _, _, rfl, _⟩ := h10; simp
       | _ => exact h10.elim
     case copy =>
       obtain ⟨y, z, t, t2, i, j, sz, m, g, _, _, _, _, _, _, _, _, _, h10⟩ := hx
       generalize (e y).strip = q at h10
       cases q with
       | own o' L => obtain ⟨_, ty, n, f, _, _, rfl, _⟩ := h10; simp
       | osub o' L off k => obtain ⟨_, ty, n, f, _, _, rfl, _⟩ := h10; simp
       | _ => exact h10.elim
   | _ => exact hx.elim
 | _ => exact hx.elim
theorem aop3_made {P : Program} {op : Op} {e : Operand → AV} {d : Nat} {x' : AObj} {x : AV} (hx : aop3 P op e d x' x) : x' ≠ .gone := by
 cases op with
 | box t y => obtain ⟨l, _, _, rfl, _⟩ := hx; simp
 | alloc t => obtain ⟨i, _, _, rfl, _⟩ := hx; simp
 | makeMap t r => obtain ⟨_, _, rfl, _⟩ := hx; simp
 | makeSlice t y z => obtain ⟨i, j, k1, k2, n, _, _, _, _, _, _, _, _, _, _, _, _, rfl, _⟩ := hx; simp
 | _ => exact hx.elim
end Go.Am
namespace Go.Am
open Go.RowKit
def dstAt (ops : Array Oper) (k : Nat) : Option Tmp := (ops[k]?).bind (·.dst)
def SL (ops : Array Oper) (xs : Nat → AV) (s0 : Nat → AV) (L : Nat → Bool) : Nat → Nat → AV
 | 0 => s0
 | k + 1 => if L k then updO (SL ops xs s0 L k) (dstAt ops k) (xs k) else SL ops xs s0 L k
def HL (es : Nat → Option (Nat × AObj)) (h0 : AH) (L : Nat → Bool) : Nat → AH
 | 0 => h0
 | k + 1 => if L k then appE (HL es h0 L k) (es k) else HL es h0 L k
section
variable {ops : Array Oper} {xs : Nat → AV} {es : Nat → Option (Nat × AObj)} {s0 : Nat → AV} {h0 : AH}
theorem updO_ne {s : Nat → AV} {d : Option Tmp} {t : Nat} {x : AV} (hd : ¬ d = some t) : updO s d x t = s t := by
 cases d with
 | none => rfl
 | some d => exact upd_ne _ _ _ _ fun e => hd (by rw [e])
theorem SL_agree {L : Nat → Bool} {i t : Nat} : ∀ k, (∀ j, j < k → dstAt ops j = some t → L j = decide (j < i)) → SL ops xs s0 L k t = SL ops xs s0 (fun _ => true) (min k i) t
 | 0, _ => by simp [SL]
 | k + 1, hk => by
   have ih := SL_agree (L := L) k fun j hj => hk j (by omega)
   by_cases hki : k < i
   · have e1 : min (k + 1) i = k + 1 := by omega
     have e2 : min k i = k := by omega
     rw [e1]
     rw [e2] at ih
     simp only [SL, if_true]
     by_cases hd : dstAt ops k = some t
     · have := hk k (by omega) hd
       rw [this]
       simp only [hki, decide_true, if_true, updO, hd, upd]
     · have hn : ∀ s x, updO s (dstAt ops k) x t = s t := fun s x => updO_ne hd
       rw [hn]
       split
       · rw [hn]; exact ih
       · exact ih
   · have e1 : min (k + 1) i = min k i := by omega
     rw [e1]
     simp only [SL]
     by_cases hd : dstAt ops k = some t
     · have := hk k (by omega) hd
       rw [this]
       simp only [hki, decide_false, Bool.false_eq_true, if_false]
       exact ih
     · have hn : ∀ s x, updO s (dstAt ops k) x t = s t := fun s x => updO_ne hd
       split
       · rw [hn]; exact ih
       · exact ih
def effOn (es : Nat → Option (Nat × AObj)) (j o : Nat) : Prop := ∃ x', es j = some (o, x')
theorem appE_other {h : AH} {e : Option (Nat × AObj)} {o : Nat} (he : ¬ ∃ x', e = some (o, x')) : appE h e o = h o := by
 unfold appE
 split
 · rename_i o' x'
   exact upd_ne _ _ _ _ fun e => he ⟨x', by rw [e]⟩
 · rfl
theorem HL_agree {L : Nat → Bool} {i o : Nat} : ∀ k, (∀ j, j < k → effOn es j o → L j = decide (j < i)) → HL es h0 L k o = HL es h0 (fun _ => true) (min k i) o
 | 0, _ => by simp [HL]
 | k + 1, hk => by
   have ih := HL_agree (L := L) k fun j hj => hk j (by omega)
   by_cases hki : k < i
   · have e1 : min (k + 1) i = k + 1 := by omega
     have e2 : min k i = k := by omega
     rw [e1]
     rw [e2] at ih
     simp only [HL, if_true]
     by_cases hd : effOn es k o
     · have := hk k (by omega) hd
       rw [this]
       obtain ⟨x', hd⟩ := hd
       simp only [hki, decide_true, if_true, appE, hd, upd]
     · rw [appE_other hd]
       split
       · rw [appE_other hd]; exact ih
       · exact ih
   · have e1 : min (k + 1) i = min k i := by omega
     rw [e1]
     simp only [HL]
     by_cases hd : effOn es k o
     · have := hk k (by omega) hd
       rw [this]
       simp only [hki, decide_false, Bool.false_eq_true, if_false]
       exact ih
     · split
       · rw [appE_other hd]; exact ih
       · exact ih
theorem HL_none {L : Nat → Bool} {o : Nat} : ∀ k, (∀ j, j < k → L j = true → ¬ effOn es j o) → HL es h0 L k o = h0 o
 | 0, _ => rfl
 | k + 1, hk => by
   simp only [HL]
   split
   · rename_i hl
     rw [appE_other (hk k (by omega) hl)]
     exact HL_none k fun j hj => hk j (by omega)
   · exact HL_none k fun j hj => hk j (by omega)
theorem HL_some {L : Nat → Bool} {o : Nat} : ∀ k, (∀ j x', j < k → es j = some (o, x') → x' ≠ .gone) → (h0 o ≠ .gone ∨ ∃ j, j < k ∧ L j = true ∧ effOn es j o) → HL es h0 L k o ≠ .gone
 | 0, _, hk => by
   rcases hk with hk | ⟨j, hj, _⟩
   · exact hk
   · omega
 | k + 1, hm, hk => by
   have ih := HL_some (L := L) k fun j x' hj => hm j x' (by omega)
   simp only [HL]
   by_cases hl : L k = true
   · rw [if_pos hl]
     by_cases hd : effOn es k o
     · obtain ⟨x', hd⟩ := hd
       rw [hd]
       simp only [appE, upd_same]
       exact hm k x' (by omega) hd
     · rw [appE_other hd]
       refine ih ?_
       rcases hk with hk | ⟨j, hj, hlj, he⟩
       · exact .inl hk
       · refine .inr ⟨j, ?_, hlj, he⟩
         rcases Nat.lt_or_ge j k with h1 | h1
         · exact h1
         · have : j = k := by omega
           subst this
           exact absurd he hd
   · rw [if_neg hl]
     refine ih ?_
     rcases hk with hk | ⟨j, hj, hlj, he⟩
     · exact .inl hk
     · refine .inr ⟨j, ?_, hlj, he⟩
       rcases Nat.lt_or_ge j k with h1 | h1
       · exact h1
       · have : j = k := by omega
         subst this
         exact absurd hlj hl
theorem SL_join {L : Nat → Bool} {i : Nat} : ∀ k, (∀ j, i < j → j < k → ∀ t, dstAt ops i = some t → dstAt ops j = some t → L j = false) → L i = false →
   SL ops xs s0 (fun j => decide (j = i) || L j) k = if i < k then updO (SL ops xs s0 L k) (dstAt ops i) (xs i) else SL ops xs s0 L k
 | 0, _, _ => by simp [SL]
 | k + 1, hk, hi => by
   have ih := SL_join (L := L) (i := i) k (fun j h1 h2 => hk j h1 (by omega)) hi
   simp only [SL]
   by_cases hki : k = i
   · subst hki
     rw [if_neg (Nat.lt_irrefl _)] at ih
     simp only [decide_true, Bool.true_or, if_true, hi, Bool.false_eq_true, if_false, Nat.lt_succ_self, ih]
   · simp only [hki, decide_false, Bool.false_or]
     rw [ih]
     by_cases hik : i < k
     · have hik1 : i < k + 1 := by omega
       simp only [hik, hik1, if_true]
       by_cases hl : L k = true
       · simp only [hl, if_true]
         cases hdi : dstAt ops i with
         | none => rfl
         | some t =>
           cases hdk : dstAt ops k with
           | none => rfl
           | some u =>
             have hne : u ≠ t := fun e => by
               have := hk k hik (by omega) t hdi (by rw [hdk, e])
               rw [this] at hl
               cases hl
             simp only [updO]
             funext q
             simp only [upd]
             by_cases h1 : q = u <;> by_cases h2 : q = t <;> simp_all
       · simp only [hl, if_false, Bool.false_eq_true]
     · have hik1 : ¬ i < k + 1 := by omega
       simp only [hik, hik1, if_false]
theorem HL_join {L : Nat → Bool} {i : Nat} : ∀ k, (∀ j, i < j → j < k → ∀ o, effOn es i o → effOn es j o → L j = false) → L i = false →
   HL es h0 (fun j => decide (j = i) || L j) k = if i < k then appE (HL es h0 L k) (es i) else HL es h0 L k
 | 0, _, _ => by simp [HL]
 | k + 1, hk, hi => by
   have ih := HL_join (L := L) (i := i) k (fun j h1 h2 => hk j h1 (by omega)) hi
   simp only [HL]
   by_cases hki : k = i
   · subst hki
     rw [if_neg (Nat.lt_irrefl _)] at ih
     simp only [decide_true, Bool.true_or, if_true, hi, Bool.false_eq_true, if_false, Nat.lt_succ_self, ih]
   · simp only [hki, decide_false, Bool.false_or]
     rw [ih]
     by_cases hik : i < k
     · have hik1 : i < k + 1 := by omega
       simp only [hik, hik1, if_true]
       by_cases hl : L k = true
       · simp only [hl, if_true]
         cases hdi : es i with
         | none => rfl
         | some t =>
           cases hdk : es k with
           | none => rfl
           | some u =>
             obtain ⟨o1, x1⟩ := t
             obtain ⟨o2, x2⟩ := u
             have hne : o2 ≠ o1 := fun e => by
               have := hk k hik (by omega) o1 ⟨x1, hdi⟩ ⟨x2, by rw [hdk, e]⟩
               rw [this] at hl
               cases hl
             simp only [appE]
             funext q
             simp only [upd]
             by_cases h1 : q = o2 <;> by_cases h2 : q = o1 <;> simp_all
       · simp only [hl, if_false, Bool.false_eq_true]
     · have hik1 : ¬ i < k + 1 := by omega
       simp only [hik, hik1, if_false]
end
theorem trace [Glb] {P : Program} {ops : Array Oper} {K : (Nat → AV) → AH → Prop} : ∀ (l : List Oper) (k0 : Nat) (s : Nat → AV) (h : AH), (∀ k, l[k]? = ops[k0 + k]?) → aRun P ops K l s h →
   ∃ (xs : Nat → AV) (es : Nat → Option (Nat × AObj)) (S : Nat → Nat → AV) (H : Nat → AH), S k0 = s ∧ H k0 = h ∧
     (∀ k o, l[k]? = some o → aStep P ops o (S (k0 + k)) (H (k0 + k)) (xs (k0 + k)) (es (k0 + k)) ∧ S (k0 + k + 1) = updO (S (k0 + k)) o.dst (xs (k0 + k)) ∧ H (k0 + k + 1) = appE (H (k0 + k)) (es (k0 + k))) ∧ K (S (k0 + l.length)) (H (k0 + l.length))
 | [], k0, s, h, _, hr => ⟨fun _ => default, fun _ => none, fun _ => s, fun _ => h, rfl, rfl, fun k o e => by simp at e, hr⟩
 | o :: l, k0, s, h, hl, hr => by
   obtain ⟨x, eff, h1, h2⟩ := hr
   obtain ⟨xs, es, S, H, e1, e2, e3, e4⟩ := trace l (k0 + 1) (updO s o.dst x) (appE h eff) (fun k => by have := hl (k + 1); rw [show k0 + 1 + k = k0 + (k + 1) by omega, ← this]; rfl) h2
   refine ⟨fun k => if k = k0 then x else xs k, fun k => if k = k0 then eff else es k, fun k => if k ≤ k0 then s else S k, fun k => if k ≤ k0 then h else H k, by simp, by simp, fun k o' ho' => ?_, ?_⟩
   · cases k with
     | zero =>
       simp only [List.getElem?_cons_zero, Option.some.injEq] at ho'
       subst ho'
       have h3 : ¬ (k0 + 1 ≤ k0) := by omega
       simp only [Nat.add_zero, Nat.le_refl, if_true, h3, if_false, e1, e2]
       exact ⟨h1, trivial, trivial⟩
     | succ k =>
       have := e3 k o' (by simpa using ho')
       rw [show k0 + 1 + k = k0 + (k + 1) by omega] at this
       have h3 : ¬ (k0 + (k + 1) ≤ k0) := by omega
       have h4 : ¬ (k0 + (k + 1) + 1 ≤ k0) := by omega
       have h5 : ¬ (k0 + (k + 1) = k0) := by omega
       simp only [h3, h4, h5, if_false]
       exact this
   · have h3 : ¬ (k0 + (o :: l).length ≤ k0) := by simp
     simp only [h3, if_false]
     rw [show k0 + (o :: l).length = k0 + 1 + l.length by simp; omega]
     exact e4
def maskOf (acc : List Nat) (es : List Edge) : Nat :=
 es.foldl (fun m e => if Region.binds .any e && decide (e.on < acc.length) then (m ||| acc.getD e.on 0) ||| (1 <<< e.on) else m) 0
def masks : List Oper → List Nat → List Nat
 | [], acc => acc
 | o :: r, acc => masks r (acc ++ [maskOf acc o.after.toList])
theorem maskOf_bit {acc : List Nat} {i : Nat} : ∀ (es : List Edge) (m : Nat), (es.foldl (fun m e => if Region.binds .any e && decide (e.on < acc.length) then (m ||| acc.getD e.on 0) ||| (1 <<< e.on) else m) m).testBit i = true →
   m.testBit i = true ∨ ∃ e ∈ es, Region.binds .any e = true ∧ e.on < acc.length ∧ (i = e.on ∨ (acc.getD e.on 0).testBit i = true)
 | [], m, h => .inl h
 | e :: es, m, h => by
   simp only [List.foldl_cons] at h
   rcases maskOf_bit es _ h with h1 | ⟨e', h1, h2⟩
   · split at h1
     · rename_i hb
       simp only [Bool.and_eq_true, decide_eq_true_eq] at hb
       simp only [Nat.testBit_or, Bool.or_eq_true] at h1
       rcases h1 with (h1 | h1) | h1
       · exact .inl h1
       · exact .inr ⟨e, by simp, hb.1, hb.2, .inr h1⟩
       · refine .inr ⟨e, by simp, hb.1, hb.2, .inl ?_⟩
         rw [Nat.shiftLeft_eq, Nat.one_mul, Nat.testBit_two_pow] at h1
         have := of_decide_eq_true h1
         omega
     · exact .inl h1
   · exact .inr ⟨e', by simp [h1], h2⟩
theorem masks_get : ∀ (l : List Oper) (acc : List Nat), (masks l acc).length = acc.length + l.length ∧ (∀ k, k < acc.length → (masks l acc).getD k 0 = acc.getD k 0) ∧
   ∀ k o, l[k]? = some o → (masks l acc).getD (acc.length + k) 0 = maskOf ((masks l acc).take (acc.length + k)) o.after.toList
 | [], acc => ⟨by simp [masks], fun _ _ => rfl, fun k o e => by simp at e⟩
 | o :: l, acc => by
   obtain ⟨h1, h2, h3⟩ := masks_get l (acc ++ [maskOf acc o.after.toList])
   simp only [masks]
   refine ⟨by rw [h1]; simp; omega, fun k hk => ?_, fun k o' ho' => ?_⟩
   · rw [h2 k (by simp; omega)]
     simp [List.getD_eq_getElem?_getD, List.getElem?_append_left hk]
   · cases k with
     | zero =>
       simp only [List.getElem?_cons_zero, Option.some.injEq] at ho'
       subst ho'
       rw [Nat.add_zero, h2 acc.length (by simp)]
       have ht : (masks l (acc ++ [maskOf acc o.after.toList])).take acc.length = acc := by
         apply List.ext_getElem?
         intro q
         rw [List.getElem?_take]
         split
         · rename_i hq
           have := h2 q (by simp; omega)
           rw [List.getD_eq_getElem?_getD, List.getD_eq_getElem?_getD, List.getElem?_append_left hq] at this
           have hq2 : q < (masks l (acc ++ [maskOf acc o.after.toList])).length := by rw [h1]; simp; omega
           rw [List.getElem?_eq_getElem hq2, List.getElem?_eq_getElem hq] at this ⊢
           simp only [Option.getD_some] at this
           rw [this]
         · rename_i hq
           rw [List.getElem?_eq_none (by omega)]
       rw [ht]
       simp [List.getD_eq_getElem?_getD]
     | succ k =>
       have := h3 k o' (by simpa using ho')
       simp only [List.length_append, List.length_cons, List.length_nil] at this
       rw [show acc.length + 0 + 1 + k = acc.length + (k + 1) by omega] at this
       exact this
def confS (ops : Array Oper) (x y : Oper) : Bool :=
 (match x.dst with | some d => (y.looksAt ops).contains d || y.dst == some d | none => false) ||
 (match y.dst with | some d => (x.looksAt ops).contains d | none => false)
def confC (x y : Oper) : Bool := (cls x.op == 2 && decide (1 ≤ cls y.op)) || (cls y.op == 2 && decide (1 ≤ cls x.op))
def conf (free : List (Nat × Nat)) (ops : Array Oper) (i j : Nat) (x y : Oper) : Bool := confS ops x y || (confC x y && !(free.contains (i, j) || free.contains (j, i)))
def freeStat (free : List (Nat × Nat)) (ops : Array Oper) : Bool := free.all fun p => match ops[p.1]?, ops[p.2]? with
 | some x, some y => cls y.op == 1 && (match x.op with
   | .store _ (.tmp t) _ => ((List.range ops.size).all fun q => !decide (p.1 ≤ q) || !((ops[q]?).bind (·.dst) == some t)) &&
       (y.op.operands.toList.all fun z => match z with | .tmp u => ((List.range ops.size).all fun q => !decide (p.2 ≤ q) || !((ops[q]?).bind (·.dst) == some u)) | _ => true)
   | _ => false)
 | _, _ => false
def drawOkF (free : List (Nat × Nat)) (ops : Array Oper) : Bool :=
 let l := ops.toList
 let M := masks l []
 (l.zipIdx.all fun p => (p.1.after.toList.all fun e => !Region.binds .any e || decide (e.on < p.2)) && l.zipIdx.all fun q => !decide (q.2 < p.2) || !conf free ops q.2 p.2 q.1 p.1 || (M.getD p.2 0).testBit q.2) &&
 freeStat free ops
def drawOk (ops : Array Oper) : Bool := drawOkF [] ops
theorem drawOk_spec {free : List (Nat × Nat)} {ops : Array Oper} (hd : drawOkF free ops = true) : (∀ i o e, ops[i]? = some o → e ∈ o.after.toList → Region.binds .any e = true → e.on < i) ∧
   (∀ i j x y, j < i → ops[i]? = some x → ops[j]? = some y → conf free ops j i y x = true → ((masks ops.toList []).getD i 0).testBit j = true) := by
 simp only [drawOkF, Bool.and_eq_true, List.all_eq_true, Bool.or_eq_true, decide_eq_true_eq, Bool.not_eq_true'] at hd
 obtain ⟨h1, _⟩ := hd
 have mem : ∀ i o, ops[i]? = some o → (o, i) ∈ ops.toList.zipIdx := fun i o h => by
   rw [List.mem_zipIdx_iff_getElem?]
   simpa using h
 refine ⟨fun i o e hi he hb => ?_, fun i j x y hji hi hj hc => ?_⟩
 · rcases (h1 _ (mem i o hi)).1 e he with h | h
   · rw [hb] at h; cases h
   · exact h
 · rcases (h1 _ (mem i x hi)).2 _ (mem j y hj) with (h | h) | h
   · simp at h; omega
   · rw [hc] at h; cases h
   · exact h
theorem drawOk_free {free : List (Nat × Nat)} {ops : Array Oper} (hd : drawOkF free ops = true) : freeStat free ops = true := by
 simp only [drawOkF, Bool.and_eq_true] at hd
 exact hd.2
theorem freeStat_spec {free : List (Nat × Nat)} {ops : Array Oper} (hd : freeStat free ops = true) {k j : Nat} (hp : (k, j) ∈ free) : ∃ x y t T z, ops[k]? = some x ∧ ops[j]? = some y ∧ cls y.op = 1 ∧ x.op = .store T (.tmp t) z ∧
   (∀ q, q < ops.size → k ≤ q → (ops[q]?).bind (·.dst) ≠ some t) ∧ ∀ u, Operand.tmp u ∈ y.op.operands → ∀ q, q < ops.size → j ≤ q → (ops[q]?).bind (·.dst) ≠ some u := by
 unfold freeStat at hd
 rw [List.all_eq_true] at hd
 have h := hd (k, j) hp
 dsimp only at h
 split at h
 · rename_i x y hx hy
   rw [Bool.and_eq_true, beq_iff_eq] at h
   obtain ⟨h1, h2⟩ := h
   split at h2
   · rename_i T t z hop
     rw [Bool.and_eq_true, List.all_eq_true, List.all_eq_true] at h2
     refine ⟨x, y, t, T, z, hx, hy, h1, hop, fun q hq hkq e => ?_, fun u hu q hq hjq e => ?_⟩
     · have := h2.1 q (List.mem_range.2 hq)
       rw [e] at this
       simp [hkq] at this
     · have := h2.2 (.tmp u) (Array.mem_toList_iff.2 hu)
       dsimp only at this
       rw [List.all_eq_true] at this
       have := this q (List.mem_range.2 hq)
       rw [e] at this
       simp [hjq] at this
   · cases h2
 · cases h
theorem closed_masks {ops : Array Oper} {L : Nat → Bool} (hcl : ∀ i o e, ops[i]? = some o → L i = true → e ∈ o.after.toList → Region.binds .any e = true → L e.on = true) :
   ∀ i, L i = true → ∀ j, ((masks ops.toList []).getD i 0).testBit j = true → L j = true ∧ j < i := by
 intro i
 induction i using Nat.strongRecOn with
 | _ i ih =>
   intro hi j hj
   obtain ⟨h1, -, h3⟩ := masks_get ops.toList []
   simp only [List.length_nil, Nat.zero_add] at h1 h3
   cases ho : ops[i]? with
   | none =>
     have : i ≥ (masks ops.toList []).length := by
       rw [h1, Array.length_toList]
       exact Array.getElem?_eq_none_iff.1 ho
     rw [List.getD_eq_getElem?_getD, List.getElem?_eq_none this] at hj
     simp at hj
   | some o =>
     have ho' : ops.toList[i]? = some o := by simpa using ho
     rw [h3 i o ho'] at hj
     rcases maskOf_bit o.after.toList 0 hj with hb | ⟨e, e1, e2, e3, e4⟩
     · simp at hb
     · have hlt : e.on < i := by
         rw [List.length_take] at e3
         omega
       have hLe := hcl i o e ho hi e1 e2
       rcases e4 with rfl | e4
       · exact ⟨hLe, hlt⟩
       · have e5 : ((masks ops.toList []).take i).getD e.on 0 = (masks ops.toList []).getD e.on 0 := by
           simp only [List.getD_eq_getElem?_getD]
           rw [List.getElem?_take, if_pos hlt]
         rw [e5] at e4
         have := ih e.on hlt hLe j e4
         exact ⟨this.1, by omega⟩
end Go.Am
namespace Go.Am
open Go.RowKit
theorem confS_symm {ops : Array Oper} {x y : Oper} (h : confS ops x y = true) : confS ops y x = true := by
 unfold confS at h ⊢
 simp only [Bool.or_eq_true] at h ⊢
 rcases h with h | h
 · cases hx : x.dst with
   | none => rw [hx] at h; cases h
   | some d =>
     rw [hx] at h
     simp only [Bool.or_eq_true, beq_iff_eq] at h
     rcases h with h | h
     · exact .inr h
     · rw [h]
       simp
 · cases hy : y.dst with
   | none => rw [hy] at h; cases h
   | some d =>
     rw [hy] at h
     refine .inl ?_
     simp only [Bool.or_eq_true]
     exact .inl h
theorem confC_symm {x y : Oper} (h : confC x y = true) : confC y x = true := by
 unfold confC at h ⊢
 rw [Bool.or_comm]
 exact h
theorem conf_symm {free : List (Nat × Nat)} {ops : Array Oper} {i j : Nat} {x y : Oper} (h : conf free ops i j x y = true) : conf free ops j i y x = true := by
 unfold conf at h ⊢
 rw [Bool.or_eq_true, Bool.and_eq_true] at h ⊢
 rcases h with h | ⟨h1, h2⟩
 · exact .inl (confS_symm h)
 · refine .inr ⟨confC_symm h1, ?_⟩
   rw [Bool.or_comm]
   exact h2
theorem step_eff [Glb] {P : Program} {ops : Array Oper} {o : Oper} {s : Nat → AV} {h : AH} {x : AV} {ob : Nat} {x' : AObj} (hx : aStep P ops o s h x (some (ob, x'))) :
   x' ≠ .gone ∧ o.guard = none ∧ (cls o.op = 2 ∨ (3 ≤ cls o.op ∧ h ob = .gone)) := by
 unfold aStep at hx
 split at hx
 · rename_i hg
   unfold aEx at hx
   split at hx
   · exact absurd hx.2 (by simp)
   · exact absurd hx.2 (by simp)
   · rename_i hc
     obtain ⟨ob', x'', h1, h2⟩ := hx
     simp only [Option.some.injEq, Prod.mk.injEq] at h2
     obtain ⟨rfl, rfl⟩ := h2
     exact ⟨aop2_made h1, hg, .inl hc⟩
   · rename_i n0 n1 n2
     obtain ⟨d, x'', h1, h2, h3, h4⟩ := hx
     simp only [Option.some.injEq, Prod.mk.injEq] at h4
     obtain ⟨rfl, rfl⟩ := h4
     refine ⟨aop3_made h3, hg, .inr ⟨?_, h2⟩⟩
     have a0 : cls o.op ≠ 0 := n0
     have a1 : cls o.op ≠ 1 := n1
     have a2 : cls o.op ≠ 2 := n2
     omega
 · exact absurd hx.1 (by simp)
section
variable {E : Env} {nt : Nat} {P : Program} {ops : Array Oper} {xs : Nat → AV} {es : Nat → Option (Nat × AObj)} {s0 : Nat → AV} {h0 : AH} {free : List (Nat × Nat)}
def lset (listed : Array Bool) : Nat → Bool := fun j => listed.getD j false
structure Ord (free : List (Nat × Nat)) (ops : Array Oper) (L : Nat → Bool) (i : Nat) : Prop where
 out : L i = false
 ord : ∀ j x y, ops[j]? = some x → ops[i]? = some y → j ≠ i → conf free ops j i x y = true → (j < i → L j = true) ∧ (i < j → L j = false)
 closed : ∀ i o e, ops[i]? = some o → L i = true → e ∈ o.after.toList → Region.binds .any e = true → L e.on = true
 all : ∀ j k x y, ops[j]? = some x → ops[k]? = some y → j < k → conf free ops j k x y = true → L k = true → L j = true
theorem Ord.make (hd : drawOkF free ops = true) {L : Nat → Bool} {i : Nat} {o : Oper} (ho : ops[i]? = some o) (hi : L i = false)
   (hcl : ∀ i o e, ops[i]? = some o → L i = true → e ∈ o.after.toList → Region.binds .any e = true → L e.on = true) (hre : ∀ e ∈ o.after.toList, Region.binds .any e = true → L e.on = true) : Ord free ops L i := by
 obtain ⟨d1, d2⟩ := drawOk_spec hd
 refine ⟨hi, fun j x y hj hy hji hc => ⟨fun hlt => ?_, fun hlt => ?_⟩, hcl, fun j k x y hj hk hjk hc hl => ?_⟩
 · have hb := d2 i j y x hlt hy hj hc
   have hcl' : ∀ i' o' e, ops[i']? = some o' → (decide (i' = i) || L i') = true → e ∈ o'.after.toList → Region.binds .any e = true → (decide (e.on = i) || L e.on) = true := by
     intro i' o' e h1 h2 h3 h4
     simp only [Bool.or_eq_true, decide_eq_true_eq] at h2 ⊢
     rcases h2 with rfl | h2
     · rw [ho] at h1
       injection h1 with h1
       subst h1
       exact .inr (hre e h3 h4)
     · exact .inr (hcl i' o' e h1 h2 h3 h4)
   have := (closed_masks (L := fun j => decide (j = i) || L j) hcl' i (by simp) j hb).1
   simp only [Bool.or_eq_true, decide_eq_true_eq] at this
   rcases this with h | h
   · omega
   · exact h
 · cases hl : L j with
   | false => rfl
   | true =>
     have hb := d2 j i x y hlt hj hy (conf_symm hc)
     have := (closed_masks hcl j hl i hb).1
     rw [hi] at this
     cases this
 · have hb := d2 k j y x hjk hk hj hc
   exact (closed_masks hcl k hl j hb).1
theorem conf_dst {i j : Nat} {x y : Oper} {d : Tmp} (hx : x.dst = some d) (hy : y.dst = some d) : conf free ops i j x y = true := by
 unfold conf confS
 simp [hx, hy]
theorem conf_look {i j : Nat} {x y : Oper} {d : Tmp} (hx : x.dst = some d) (hy : d ∈ y.looksAt ops) : conf free ops i j x y = true := by
 unfold conf confS
 simp [hx, hy]
theorem conf_cls {i j : Nat} {x y : Oper} (hx : cls x.op = 2) (hy : 1 ≤ cls y.op) (h1 : (i, j) ∉ free) (h2 : (j, i) ∉ free) : conf free ops i j x y = true := by
 unfold conf confC
 simp [hx, hy, h1, h2]
theorem free_cls (hf : freeStat free ops = true) {i j : Nat} {y : Oper} (hj : ops[j]? = some y) (hy : 2 ≤ cls y.op) : (i, j) ∉ free := fun h => by
 obtain ⟨x', y', t, T, z, h1, h2, h3, _⟩ := freeStat_spec hf h
 rw [hj] at h2
 injection h2 with h2
 subst h2
 omega
def Texts [Glb] (P : Program) (ops : Array Oper) (xs : Nat → AV) (es : Nat → Option (Nat × AObj)) (s0 : Nat → AV) (h0 : AH) : Prop :=
 ∀ k o, ops[k]? = some o → aStep P ops o (SL ops xs s0 (fun _ => true) k) (HL es h0 (fun _ => true) k) (xs k) (es k)
theorem lt_of_some {i : Nat} {o : Oper} (h : ops[i]? = some o) : i < ops.size := by
 rcases Nat.lt_or_ge i ops.size with h1 | h1
 · exact h1
 · rw [Array.getElem?_eq_none h1] at h; cases h
theorem made_of [Glb] (T : Texts P ops xs es s0 h0) {k ob : Nat} (hk : k ≤ ops.size) : ∀ j x', j < k → es j = some (ob, x') → x' ≠ .gone := by
 intro j x' hj he
 have ho : ops[j]? = some ops[j] := Array.getElem?_eq_getElem (by omega)
 have t := T j _ ho
 rw [he] at t
 exact (step_eff t).1
theorem eff_conf [Glb] (hf : freeStat free ops = true) (T : Texts P ops xs es s0 h0) {i j ob : Nat} {x y : Oper} (hij : i ≠ j) (hi : ops[i]? = some x) (hj : ops[j]? = some y) (e1 : effOn es i ob) (e2 : effOn es j ob) : conf free ops i j x y = true := by
 have e1' := e1
 have e2' := e2
 obtain ⟨x1, e1⟩ := e1
 obtain ⟨x2, e2⟩ := e2
 have t1 := T i x hi
 have t2 := T j y hj
 rw [e1] at t1
 rw [e2] at t2
 obtain ⟨_, _, h1⟩ := step_eff t1
 obtain ⟨_, _, h2⟩ := step_eff t2
 have c1 : 2 ≤ cls x.op := by rcases h1 with h1 | ⟨h1, _⟩ <;> omega
 have c2 : 2 ≤ cls y.op := by rcases h2 with h2 | ⟨h2, _⟩ <;> omega
 rcases h1 with h1 | ⟨h1, g1⟩
 · exact conf_cls h1 (by omega) (free_cls hf hj c2) (free_cls hf hi c1)
 · rcases h2 with h2 | ⟨h2, g2⟩
   · exact conf_symm (conf_cls h2 (by omega) (free_cls hf hi c1) (free_cls hf hj c2))
   · exfalso
     have q1 := lt_of_some hi
     have q2 := lt_of_some hj
     rcases Nat.lt_or_gt_of_ne hij with h3 | h3
     · exact HL_some (L := fun _ => true) j (made_of T (by omega)) (.inr ⟨i, h3, rfl, e1'⟩) g2
     · exact HL_some (L := fun _ => true) i (made_of T (by omega)) (.inr ⟨j, h3, rfl, e2'⟩) g1
theorem gone_of [Glb] (hf : freeStat free ops = true) (T : Texts P ops xs es s0 h0) {L : Nat → Bool} {i ob : Nat} {o : Oper} (O : Ord free ops L i) (hi : ops[i]? = some o) (hg : HL es h0 (fun _ => true) i ob = .gone)
   (hef : effOn es i ob) : HL es h0 L ops.size ob = .gone := by
 have hlt := lt_of_some hi
 have hno : ∀ j, j < i → ¬ effOn es j ob := fun j hj he => HL_some (L := fun _ => true) i (made_of T (by omega)) (.inr ⟨j, hj, rfl, he⟩) hg
 have h00 : h0 ob = .gone := by
   rw [← HL_none (es := es) (h0 := h0) (L := fun _ => true) i (fun j hj _ => hno j hj)]
   exact hg
 rw [HL_none ops.size (fun j hj hl he => ?_), h00]
 have hjo : ops[j]? = some ops[j] := Array.getElem?_eq_getElem hj
 by_cases hji : j = i
 · subst hji
   rw [O.out] at hl
   cases hl
 · have hcf : conf free ops j i ops[j] o = true := eff_conf hf T hji hjo hi he hef
   have := O.ord j _ _ hjo hi hji hcf
   rcases Nat.lt_or_gt_of_ne hji with h1 | h1
   · exact hno j h1 he
   · rw [this.2 h1] at hl
     cases hl
def FreeOk (free : List (Nat × Nat)) (ops : Array Oper) (xs : Nat → AV) (es : Nat → Option (Nat × AObj)) (s0 : Nat → AV) : Prop :=
 ∀ k j ob y, (k, j) ∈ free → effOn es k ob → ops[j]? = some y → ∀ z ∈ y.op.operands, ob ∉ (ev (SL ops xs s0 (fun _ => true) j) z).strip.refs
theorem objs_agree [Glb] (hf : freeStat free ops = true) (F : FreeOk free ops xs es s0) (T : Texts P ops xs es s0 h0) {L : Nat → Bool} {i ob : Nat} {o : Oper} (O : Ord free ops L i) (hi : ops[i]? = some o) (hc : 1 ≤ cls o.op) {z : Operand} (hz : z ∈ o.op.operands) (hob : ob ∈ (ev (SL ops xs s0 (fun _ => true) i) z).strip.refs) (h1 : HL es h0 L ops.size ob ≠ .gone) (h2 : HL es h0 (fun _ => true) i ob ≠ .gone) :
   HL es h0 L ops.size ob = HL es h0 (fun _ => true) i ob := by
 have hlt := lt_of_some hi
 have := HL_agree (es := es) (h0 := h0) (L := L) (i := i) (o := ob) ops.size fun j hj he => ?_
 · rw [Nat.min_eq_right (by omega)] at this
   exact this
 · have hjo : ops[j]? = some ops[j] := Array.getElem?_eq_getElem hj
   obtain ⟨x', he'⟩ := he
   have t := T j _ hjo
   rw [he'] at t
   obtain ⟨_, _, h3⟩ := step_eff t
   by_cases hji : j = i
   · subst hji
     rw [O.out]
     simp
   · rcases h3 with h3 | ⟨h3, g3⟩
     · have := O.ord j _ _ hjo hi hji (conf_cls h3 hc (fun hm => F j i ob o hm ⟨x', he'⟩ hi z hz hob) (free_cls hf hjo (by omega)))
       rcases Nat.lt_or_gt_of_ne hji with h4 | h4
       · rw [this.1 h4]; simp [h4]
       · rw [this.2 h4]
         have : ¬ j < i := by omega
         simp [this]
     · have hno : ∀ q, q < j → ¬ effOn es q ob := fun q hq he => HL_some (L := fun _ => true) j (made_of T (by omega)) (.inr ⟨q, hq, rfl, he⟩) g3
       have h00 : h0 ob = .gone := by
         rw [← HL_none (es := es) (h0 := h0) (L := fun _ => true) j (fun q hq _ => hno q hq)]
         exact g3
       rcases Nat.lt_or_gt_of_ne hji with h4 | h4
       · cases hl : L j with
         | true => simp [h4]
         | false =>
           exfalso
           apply h1
           rw [HL_none ops.size (fun q hq hlq heq => ?_), h00]
           have hqo : ops[q]? = some ops[q] := Array.getElem?_eq_getElem hq
           rcases Nat.lt_trichotomy q j with h5 | h5 | h5
           · exact hno q h5 heq
           · subst h5
             rw [hl] at hlq
             cases hlq
           · have := O.all j q _ _ hjo hqo h5 (eff_conf hf T (by omega) hjo hqo ⟨x', he'⟩ heq) hlq
             rw [hl] at this
             cases this
       · exfalso
         apply h2
         rw [HL_none i (fun q hq _ => hno q (by omega)), h00]
theorem looks_operand {o : Oper} {t : Tmp} (h : Operand.tmp t ∈ o.op.operands) : t ∈ o.looksAt ops := by
 unfold Oper.looksAt
 exact List.mem_append_left _ (List.mem_filterMap.2 ⟨.tmp t, by simpa using h, rfl⟩)
theorem looks_guard {o : Oper} {j : Nat} {b : Bool} {t : Tmp} (hg : o.guard = some (j, b)) (ht : (ops[j]?).bind (·.dst) = some t) : t ∈ o.looksAt ops := by
 unfold Oper.looksAt
 rw [hg]
 simp [ht]
theorem slots_agree {L : Nat → Bool} {i t : Nat} {o : Oper} (O : Ord free ops L i) (hi : ops[i]? = some o) (ht : t ∈ o.looksAt ops) : SL ops xs s0 L ops.size t = SL ops xs s0 (fun _ => true) i t := by
 have hlt := lt_of_some hi
 have := SL_agree (ops := ops) (xs := xs) (s0 := s0) (L := L) (i := i) (t := t) ops.size fun j hj hd => ?_
 · rw [Nat.min_eq_right (by omega)] at this
   exact this
 · have hjo : ops[j]? = some ops[j] := Array.getElem?_eq_getElem hj
   have hdj : ops[j].dst = some t := by simpa [dstAt, hjo] using hd
   by_cases hji : j = i
   · subst hji
     rw [O.out]
     simp
   · have := O.ord j _ _ hjo hi hji (conf_look hdj ht)
     rcases Nat.lt_or_gt_of_ne hji with h4 | h4
     · rw [this.1 h4]; simp [h4]
     · rw [this.2 h4]
       have : ¬ j < i := by omega
       simp [this]
theorem ex_agree [Glb] (hf : freeStat free ops = true) (F : FreeOk free ops xs es s0) (T : Texts P ops xs es s0 h0) {L : Nat → Bool} {i : Nat} {o : Oper} {x : AV} {eff : Option (Nat × AObj)} {gs : Gs} {a : Act} {w : World} (O : Ord free ops L i) (hi : ops[i]? = some o)
   (hef : ∀ ob x', eff = some (ob, x') → effOn es i ob)
   (R : RelG E nt (SL ops xs s0 L ops.size) (HL es h0 L ops.size) gs a w) (hx : aEx P o (SL ops xs s0 (fun _ => true) i) (HL es h0 (fun _ => true) i) x eff) :
   aEx P o (SL ops xs s0 L ops.size) (HL es h0 L ops.size) x eff := by
 have hops : ∀ y ∈ o.op.operands, ev (SL ops xs s0 L ops.size) y = ev (SL ops xs s0 (fun _ => true) i) y := by
   intro y hy
   cases y with
   | tmp t => exact slots_agree O hi (looks_operand hy)
   | _ => rfl
 have hag : 1 ≤ cls o.op → Agree o.op (ev (SL ops xs s0 (fun _ => true) i)) (ev (SL ops xs s0 L ops.size)) (HL es h0 (fun _ => true) i) (HL es h0 L ops.size) := fun hc =>
   ⟨hops, fun y hy hw ob hob hg => by
     have hr := (ev_ok R y)
     rw [hops y hy] at hr
     exact objs_agree hf F T O hi hc hy hob ((hr.strip hw).refs_live ob hob) hg⟩
 unfold aEx at hx ⊢
 split at hx
 · rename_i hc
   exact ⟨aop0_congr hc hops hx.1, hx.2⟩
 · rename_i hc
   exact ⟨aop1_congr (hag (by omega)) hx.1, hx.2⟩
 · rename_i hc
   obtain ⟨ob, x', h1, h2⟩ := hx
   exact ⟨ob, x', aop2_congr (hag (by omega)) (fun hg => gone_of hf T O hi hg (hef ob x' h2)) h1, h2⟩
 · rename_i n0 n1 n2
   have hc : 2 ≤ cls o.op := by
     have a0 : cls o.op ≠ 0 := n0
     have a1 : cls o.op ≠ 1 := n1
     omega
   obtain ⟨d, x', h1, h2, h3, h4⟩ := hx
   exact ⟨d, x', h1, gone_of hf T O hi h2 (hef d x' h4), aop3_congr hops h3, h4⟩
theorem ready_spec {listed : Array Bool} {i : Nat} (h : i ∈ Region.ready .any ops listed) : ∃ o, ops[i]? = some o ∧ i < ops.size ∧ listed.getD i true = false ∧ ∀ e ∈ o.after.toList, Region.binds .any e = true → listed.getD e.on false = true := by
 unfold Region.ready at h
 rw [List.mem_filter] at h
 obtain ⟨h1, h2⟩ := h
 have hi : i < ops.size := by simpa using h1
 simp only [Bool.and_eq_true, Bool.not_eq_true', Array.getElem?_eq_getElem hi, Option.map_some, Option.getD_some, Array.all_eq_true_iff_forall_mem, Bool.or_eq_true] at h2
 refine ⟨ops[i], Array.getElem?_eq_getElem hi, hi, h2.1, fun e he hb => ?_⟩
 rcases h2.2 e (Array.mem_toList_iff.1 he) with h | h
 · rw [hb] at h; cases h
 · exact h
theorem all_listed (hd : drawOkF free ops = true) {listed : Array Bool} (hsz : listed.size = ops.size) (h : Region.ready .any ops listed = []) : ∀ j, j < ops.size → lset listed j = true := by
 intro j
 induction j using Nat.strongRecOn with
 | _ j ih =>
   intro hj
   cases hl : lset listed j with
   | true => rfl
   | false =>
     exfalso
     have hm : j ∈ Region.ready .any ops listed := by
       unfold Region.ready
       rw [List.mem_filter]
       refine ⟨by simpa using hj, ?_⟩
       have hl' : listed.getD j true = false := by
         unfold lset at hl
         have : j < listed.size := by omega
         simp only [Array.getD, this, dite_true] at hl ⊢
         exact hl
       simp only [Bool.and_eq_true, Bool.not_eq_true', hl', Array.getElem?_eq_getElem hj, Option.map_some, Option.getD_some, Array.all_eq_true_iff_forall_mem, Bool.or_eq_true, true_and]
       intro e he
       cases hb : Region.binds .any e with
       | false => exact .inl rfl
       | true =>
         have hlt := (drawOk_spec hd).1 j _ e (Array.getElem?_eq_getElem hj) (Array.mem_toList_iff.2 he) hb
         exact .inr (ih e.on hlt (by omega))
     rw [h] at hm
     cases hm
theorem draw_main [Glb] (hs : slotsOk nt ops.toList = true) (hd : drawOkF free ops = true) (F : FreeOk free ops xs es s0) (T : Texts P ops xs es s0 h0) {K : (Nat → AV) → AH → Prop} (hK : K (SL ops xs s0 (fun _ => true) ops.size) (HL es h0 (fun _ => true) ops.size))
   {Q : Exit → Act → World → Prop} (hQ : ∀ s' h' a' w', K s' h' → Rel E nt s' h' a' w' → Q .normal a' w') : ∀ (fuel : Nat) (listed : Array Bool) (a : Act) (w : World), listed.size = ops.size → listed.toList.count false ≤ fuel →
   (∀ i o e, ops[i]? = some o → lset listed i = true → e ∈ o.after.toList → Region.binds .any e = true → lset listed e.on = true) →
   Rel E nt (SL ops xs s0 (lset listed) ops.size) (HL es h0 (lset listed) ops.size) a w → wpAny P .any ops Q fuel listed a w := by
 have done : ∀ (listed : Array Bool) (a : Act) (w : World), listed.size = ops.size → Rel E nt (SL ops xs s0 (lset listed) ops.size) (HL es h0 (lset listed) ops.size) a w → Region.ready .any ops listed = [] → Q .normal a w := by
   intro listed a w hsz R hr
   have hall := all_listed hd hsz hr
   refine hQ _ _ a w hK ?_
   have e1 : SL ops xs s0 (lset listed) ops.size = SL ops xs s0 (fun _ => true) ops.size := funext fun t => by
     have := SL_agree (ops := ops) (xs := xs) (s0 := s0) (L := lset listed) (i := ops.size) (t := t) ops.size fun j hj _ => by rw [hall j hj]; simp [hj]
     rwa [Nat.min_self] at this
   have e2 : HL es h0 (lset listed) ops.size = HL es h0 (fun _ => true) ops.size := funext fun o => by
     have := HL_agree (es := es) (h0 := h0) (L := lset listed) (i := ops.size) (o := o) ops.size fun j hj _ => by rw [hall j hj]; simp [hj]
     rwa [Nat.min_self] at this
   rw [e1, e2] at R
   exact R
 intro fuel
 induction fuel with
 | zero =>
   intro listed a w hsz hcount hcl R
   have hr : Region.ready .any ops listed = [] := by
     cases hr : Region.ready .any ops listed with
     | nil => rfl
     | cons i l =>
       exfalso
       obtain ⟨o, h1, h2, h3, h4⟩ := ready_spec (listed := listed) (i := i) (by rw [hr]; simp)
       have hi : i < listed.size := by omega
       have : listed.toList.count false ≠ 0 := by
         have hm : false ∈ listed.toList := by
           simp only [Array.getD, hi, dite_true, Array.getInternal_eq_getElem] at h3
           rw [← h3]
           exact Array.mem_toList_iff.2 (Array.getElem_mem hi)
         exact Nat.ne_of_gt (List.count_pos_iff.2 hm)
       omega
   exact ⟨hr, done listed a w hsz R hr⟩
 | succ fuel ih =>
   intro listed a w hsz hcount hcl R
   refine ⟨fun hr => done listed a w hsz R hr, fun i hi => ?_⟩
   obtain ⟨o, ho, hlt, h3, h4⟩ := ready_spec hi
   have hil : i < listed.size := by omega
   have hLi : lset listed i = false := by
     unfold lset
     simp only [Array.getD, hil, dite_true, Array.getInternal_eq_getElem] at h3 ⊢
     exact h3
   have O := Ord.make hd (L := lset listed) ho hLi hcl h4
   have hset : lset (listed.setIfInBounds i true) = fun j => decide (j = i) || lset listed j := funext fun j => by
     unfold lset
     simp only [Array.getD_eq_getD_getElem?]
     by_cases hji : j = i
     · subst hji
       simp [hil]
     · rw [Array.getElem?_setIfInBounds_ne (Ne.symm hji)]
       simp [hji]
   have hS : ∀ x, xs i = x → SL ops xs s0 (fun j => decide (j = i) || lset listed j) ops.size = updO (SL ops xs s0 (lset listed) ops.size) o.dst x := by
     intro x hx
     rw [SL_join ops.size (fun j h1 h2 t h5 h6 => ?_) hLi, if_pos hlt, hx]
     · simp [dstAt, ho]
     · have hjo : ops[j]? = some ops[j] := Array.getElem?_eq_getElem h2
       have hdj : ops[j].dst = some t := by simpa [dstAt, hjo] using h6
       have hdi : o.dst = some t := by simpa [dstAt, ho] using h5
       exact (O.ord j _ _ hjo ho (by omega) (conf_dst hdj hdi)).2 h1
   have hH : ∀ e, es i = e → HL es h0 (fun j => decide (j = i) || lset listed j) ops.size = appE (HL es h0 (lset listed) ops.size) e := by
     intro e he
     rw [HL_join ops.size (fun j h1 h2 ob h5 h6 => ?_) hLi, if_pos hlt, he]
     have hjo : ops[j]? = some ops[j] := Array.getElem?_eq_getElem h2
     exact (O.ord j _ _ hjo ho (by omega) (eff_conf (drawOk_free hd) T (by omega) hjo ho h6 h5)).2 h1
   have next : ∀ a' w', Rel E nt (updO (SL ops xs s0 (lset listed) ops.size) o.dst (xs i)) (appE (HL es h0 (lset listed) ops.size) (es i)) a' w' → wpAny P .any ops Q fuel (listed.setIfInBounds i true) a' w' := by
     intro a' w' R'
     refine ih _ a' w' (by simpa using hsz) ?_ ?_ ?_
     · have hc : (listed.setIfInBounds i true).toList.count false + 1 = listed.toList.count false := by
         rw [Array.toList_setIfInBounds, List.count_set (by simpa using hil)]
         have hl' : listed.toList[i]'(by simpa using hil) = false := by
           have : listed.toList[i]'(by simpa using hil) = listed[i] := by simp
           rw [this]
           simp only [Array.getD, hil, dite_true, Array.getInternal_eq_getElem] at h3
           exact h3
         have hpos : 0 < listed.toList.count false := List.count_pos_iff.2 (by rw [← hl']; exact List.getElem_mem _)
         simp only [hl', beq_self_eq_true, if_true]
         have : (true == false) = false := rfl
         simp only [this, Bool.false_eq_true, if_false]
         omega
       omega
     · rw [hset]
       intro i' o' e h1 h2 h5 h6
       simp only [Bool.or_eq_true, decide_eq_true_eq] at h2 ⊢
       rcases h2 with rfl | h2
       · rw [ho] at h1
         injection h1 with h1
         subst h1
         exact .inr (h4 e h5 h6)
       · exact .inr (hcl i' o' e h1 h2 h5 h6)
     · rw [hset, hS _ rfl, hH _ rfl]
       exact R'
   obtain ⟨gs, R⟩ := R
   have hdst := slotsOk_dst hs (Array.mem_toList_iff.2 (Array.mem_of_getElem? ho))
   have t := T i o ho
   unfold wpOp
   simp only [ho]
   unfold aStep at t
   split at t
   · rename_i hg
     rw [if_pos (by simp [Region.wanted, hg])]
     exact .inl (Oper.wp_mono next (exec_ok R hdst (ex_agree (drawOk_free hd) F T O ho (fun ob x' e => ⟨x', e⟩) R t)))
   · rename_i jg want hg
     obtain ⟨he, tt, g, y, h5, h6, h8, h7⟩ := t
     have hsl := slots_agree (xs := xs) (s0 := s0) O ho (looks_guard hg h5)
     have hy := yielded_of R h5 (by rw [hsl]; exact h6) (slotsOk_guard hs h5)
     rw [hsl] at hy
     by_cases hw : ((SL ops xs s0 (fun _ => true) i tt).wh && g == want) = true
     · have hw' := hw
       rw [Bool.and_eq_true, beq_iff_eq] at hw'
       rw [if_pos hw'.1] at hy
       rw [if_pos (by simp [Region.wanted, hg, hy, hw'.2])]
       have hex : aEx P o (SL ops xs s0 (fun _ => true) i) (HL es h0 (fun _ => true) i) y none := by
         unfold aEx
         have h8 := h8 hw
         split at h8
         · rename_i hc
           simp only [hc]
           exact ⟨h8, trivial⟩
         · rename_i hc
           simp only [hc]
           exact ⟨h8, trivial⟩
         · exact h8.elim
       refine .inl (Oper.wp_mono (fun a' w' hR => next a' w' ?_) (exec_ok R hdst (ex_agree (drawOk_free hd) F T O ho (fun _ _ e => by cases e) R hex)))
       obtain ⟨gs', R'⟩ := hR
       rw [he]
       refine ⟨gs', { R' with slots := fun t' => ?_ }⟩
       have := R'.slots t'
       rw [h7]
       unfold updO at this ⊢
       cases hdst : o.dst with
       | none => rw [hdst] at this; exact this
       | some d =>
         rw [hdst] at this
         simp only [upd] at this ⊢
         split
         · rename_i he
           rw [if_pos he] at this
           exact .when _ _ _ (fun _ => this) fun e => by rw [hw] at e; cases e
         · rename_i he
           rw [if_neg he] at this
           exact this
     · rw [if_neg (by
         cases hwh : (SL ops xs s0 (fun _ => true) i tt).wh with
         | false => rw [hwh] at hy; simp [Region.wanted, hg, hy]
         | true =>
           rw [hwh] at hy hw
           simp only [Bool.true_and, beq_iff_eq] at hw
           simp [Region.wanted, hg, hy, hw])]
       refine next _ _ ?_
       rw [he, h7]
       exact ⟨gs, R.putO hdst (.when _ _ _ (fun e => absurd e hw) fun _ => rfl)⟩
def freeFin (free : List (Nat × Nat)) (ops : Array Oper) (s : Nat → AV) : Bool := free.all fun p => match ops[p.1]?, ops[p.2]? with
 | some x, some y => (match x.op with
   | .store _ (.tmp t) _ => y.op.operands.toList.all fun z => (s t).strip.refs.all fun o => !((ev s z).strip.refs.contains o)
   | _ => true)
 | _, _ => true
theorem store_refs {t : TypeId} {y z : Operand} {e : Operand → AV} {h : AH} {d : Option Tmp} {ob : Nat} {x' : AObj} {x : AV} (hx : aop2 P (.store t y z) e h d ob x' x) : ob ∈ (e y).strip.refs := by
 obtain ⟨_, i, _, _, _, hx⟩ := hx
 split at hx
 · rename_i o' off he
   rw [he, hx.1]
   simp [AV.refs, AV.ref1, AV.ref0]
 · rename_i o' L k off he
   rw [he, hx.1]
   simp [AV.refs, AV.ref1, AV.ref0]
 · exact hx.elim
theorem SL_keep {t k : Nat} : ∀ m, k ≤ m → (∀ q, q < m → k ≤ q → dstAt ops q ≠ some t) → SL ops xs s0 (fun _ => true) m t = SL ops xs s0 (fun _ => true) k t
 | 0, h, _ => by rw [show k = 0 by omega]
 | m + 1, h, hq => by
   rcases Nat.lt_or_ge m k with h1 | h1
   · rw [show k = m + 1 by omega]
   · rw [← SL_keep m h1 fun q h2 h3 => hq q (by omega) h3]
     simp only [SL, if_true]
     exact updO_ne (hq m (by omega) h1)
theorem free_of [Glb] (hf : freeStat free ops = true) (T : Texts P ops xs es s0 h0) (hfin : freeFin free ops (SL ops xs s0 (fun _ => true) ops.size) = true) : FreeOk free ops xs es s0 := by
 intro k j ob y hp he hy z hz hmem
 obtain ⟨x, y', t, Ty, z', h1, h2, h3, h4, h5, h6⟩ := freeStat_spec hf hp
 rw [hy] at h2
 injection h2 with h2
 subst h2
 have hk := lt_of_some h1
 have hj := lt_of_some hy
 obtain ⟨x', he⟩ := he
 have tx := T k x h1
 rw [he] at tx
 have hg := (step_eff tx).2.1
 unfold aStep at tx
 rw [hg] at tx
 unfold aEx at tx
 have hc : cls x.op = 2 := by rw [h4]; rfl
 simp only [hc] at tx
 obtain ⟨ob', x'', q1, q2⟩ := tx
 injection q2 with q2
 injection q2 with q2 q3
 subst q2
 rw [h4] at q1
 have hr := store_refs q1
 unfold freeFin at hfin
 rw [List.all_eq_true] at hfin
 have := hfin (k, j) hp
 simp only [h1, hy, h4] at this
 rw [List.all_eq_true] at this
 have := this z (Array.mem_toList_iff.2 hz)
 rw [List.all_eq_true] at this
 have e1 : SL ops xs s0 (fun _ => true) ops.size t = SL ops xs s0 (fun _ => true) k t := SL_keep ops.size (by omega) fun q hq hkq => h5 q hq hkq
 have e2 : ev (SL ops xs s0 (fun _ => true) ops.size) z = ev (SL ops xs s0 (fun _ => true) j) z := by
   cases z with
   | tmp u => exact SL_keep ops.size (by omega) fun q hq hjq => h6 u hz q hq hjq
   | _ => rfl
 have := this ob (by rw [e1]; exact hr)
 rw [e2] at this
 simp [hmem] at this
theorem region_drawF [Glb] (hf : P.follows .mixedOrders = true) {id : Nat} (hs : slotsOk nt ops.toList = true) (hd : drawOkF free ops = true) {K : (Nat → AV) → AH → Prop} {Q : Exit → Act → World → Prop} {s : Nat → AV} {h : AH} {a : Act} {w : World}
   (R : Rel E nt s h a w) (hr : aRun P ops (fun s h => freeFin free ops s = true ∧ K s h) ops.toList s h) (hQ : ∀ s' h' a' w', K s' h' → Rel E nt s' h' a' w' → Q .normal a' w') : (Code.region id ops true).wp P Q a w := by
 obtain ⟨xs, es, S, H, e1, e2, e3, e4⟩ := trace ops.toList 0 s h (fun k => by simp) hr
 simp only [Nat.zero_add] at e3 e4
 have eS : ∀ k, k ≤ ops.size → S k = SL ops xs s (fun _ => true) k ∧ H k = HL es h (fun _ => true) k := by
   intro k
   induction k with
   | zero => intro _; exact ⟨e1, e2⟩
   | succ k ih =>
     intro hk
     obtain ⟨i1, i2⟩ := ih (by omega)
     have ho : ops.toList[k]? = some ops[k] := by simp
     obtain ⟨_, t2, t3⟩ := e3 k _ ho
     have hd : dstAt ops k = ops[k].dst := by simp [dstAt, Array.getElem?_eq_getElem (show k < ops.size by omega)]
     exact ⟨by rw [t2, i1]; simp [SL, hd], by rw [t3, i2]; simp [HL]⟩
 have T : Texts P ops xs es s h := by
   intro k o ho
   have hk := lt_of_some ho
   have := (e3 k o (by simpa using ho)).1
   rw [(eS k (by omega)).1, (eS k (by omega)).2] at this
   exact this
 have hK : freeFin free ops (SL ops xs s (fun _ => true) ops.size) = true ∧ K (SL ops xs s (fun _ => true) ops.size) (HL es h (fun _ => true) ops.size) := by
   have := e4
   rw [Array.length_toList, (eS ops.size (Nat.le_refl _)).1, (eS ops.size (Nat.le_refl _)).2] at this
   exact this
 refine wp_region_any hf (draw_main hs hd (free_of (drawOk_free hd) T hK.1) T hK.2 hQ ops.size (Array.replicate ops.size false) a _ (by simp) (by simp) ?_ ?_)
 · intro i o e ho hl
   unfold lset at hl
   simp only [Array.getD_eq_getD_getElem?] at hl
   by_cases hi : i < ops.size
   · simp [hi] at hl
   · simp [hi] at hl
 · have hno : ∀ j, lset (Array.replicate ops.size false) j = false := fun j => by
     unfold lset
     simp only [Array.getD_eq_getD_getElem?]
     by_cases hj : j < ops.size <;> simp [hj]
   have f1 : ∀ k, SL ops xs s (lset (Array.replicate ops.size false)) k = s := by
     intro k
     induction k with
     | zero => rfl
     | succ k ih => simp only [SL, hno, Bool.false_eq_true, if_false, ih]
   have f2 : ∀ k, HL es h (lset (Array.replicate ops.size false)) k = h := by
     intro k
     induction k with
     | zero => rfl
     | succ k ih => simp only [HL, hno, Bool.false_eq_true, if_false, ih]
   rw [f1, f2]
   obtain ⟨gs, R⟩ := R
   exact ⟨gs, R.grow ⟨rfl, rfl, rfl, Nat.le_refl _, fun _ _ => rfl⟩⟩
theorem region_plain [Glb] {id : Nat} (hs : slotsOk nt ops.toList = true) {K : (Nat → AV) → AH → Prop} {Q : Exit → Act → World → Prop} {s : Nat → AV} {h : AH} {a : Act} {w : World}
   (R : Rel E nt s h a w) (hr : aRun P ops K ops.toList s h) (hQ : ∀ s' h' a' w', K s' h' → Rel E nt s' h' a' w' → Q .normal a' w') : (Code.region id ops false).wp P Q a w :=
 wp_region_list (run_ok hs ops.toList s h a w (fun _ h => h) R hr hQ)
end
end Go.Am
namespace Go.Am
open Go.RowKit
abbrev Slots := Nat → AV
abbrev APost := Exit → Slots → AH → Prop
def AWp [Glb] (P : Program) (nt : Nat) (fo : List Nat) (c : Code) (Q : APost) (s : Slots) (h : AH) : Prop :=
 ∀ (E : Env) (a : Act) (w : World), E.In fo → Rel E nt s h a w → c.wp P (fun e a' w' => ∃ s' h', Q e s' h' ∧ Rel E nt s' h' a' w') a w
def thenQ (next : Slots → AH → Prop) (Q : APost) : APost
 | .normal, s, h => next s h
 | e, s, h => Q e s h
def blockQ (id : Nat) (Q : APost) : APost
 | .exit id', s, h => if id' = id then Q .normal s h else Q (.exit id') s h
 | e, s, h => Q e s h
def Weak [Glb] (fo : List Nat) (s : Slots) (h : AH) (s' : Slots) (h' : AH) : Prop := ∀ (E : Env) (nt : Nat) (a : Act) (w : World), E.In fo → Rel E nt s h a w → Rel E nt s' h' a w
theorem Weak.refl [Glb] {fo : List Nat} (s : Slots) (h : AH) : Weak fo s h s h := fun _ _ _ _ _ R => R
theorem Weak.trans [Glb] {fo : List Nat} {s1 s2 s3 : Slots} {h1 h2 h3 : AH} (a : Weak fo s1 h1 s2 h2) (b : Weak fo s2 h2 s3 h3) : Weak fo s1 h1 s3 h3 := fun E nt x w I R => b E nt x w I (a E nt x w I R)
section
variable {P : Program} {nt : Nat} {fo : List Nat} {Q : APost} {s : Slots} {h : AH}
theorem AWp.weak [Glb] {c : Code} {s' : Slots} {h' : AH} (hw : Weak fo s h s' h') (hc : AWp P nt fo c Q s' h') : AWp P nt fo c Q s h := fun E a w I R => hc E a w I (hw E nt a w I R)
theorem AWp.mono [Glb] {c : Code} {Q' : APost} (hc : AWp P nt fo c Q s h) (hq : ∀ e s h, Q e s h → Q' e s h) : AWp P nt fo c Q' s h := fun E a w I R =>
 wp_mono (hc E a w I R) fun _ _ _ ⟨s', h', q, R'⟩ => ⟨s', h', hq _ _ _ q, R'⟩
theorem awp_seq [Glb] {x y : Code} (hx : AWp P nt fo x (thenQ (AWp P nt fo y Q) Q) s h) : AWp P nt fo (.seq x y) Q s h := fun E a w I R => by
 refine wp_seq (wp_mono (hx E a w I R) fun e a' w' ⟨s', h', q, R'⟩ => ?_)
 cases e with
 | normal => exact q E a' w' I R'
 | _ => exact ⟨s', h', q, R'⟩
theorem awp_skip [Glb] (hq : Q .normal s h) : AWp P nt fo .skip Q s h := fun _ _ _ _ R => wp_skip ⟨s, h, hq, R⟩
theorem awp_exit [Glb] {id : Nat} (hq : Q (.exit id) s h) : AWp P nt fo (.exit id) Q s h := fun _ _ _ _ R => wp_exit ⟨s, h, hq, R⟩
theorem awp_ret [Glb] (hq : Q .ret s h) : AWp P nt fo .ret Q s h := fun _ _ _ _ R => wp_ret ⟨s, h, hq, R⟩
theorem awp_block [Glb] {id : Nat} {c : Code} (hc : AWp P nt fo c (blockQ id Q) s h) : AWp P nt fo (.block id c) Q s h := fun E a w I R => by
 refine wp_block (wp_mono (hc E a w I R) fun e a' w' ⟨s', h', q, R'⟩ => ?_)
 cases e with
 | exit id' =>
   simp only [Exit.inBlock, blockQ] at q ⊢
   split
   · rename_i he
     rw [if_pos he] at q
     exact ⟨s', h', q, R'⟩
   · rename_i he
     rw [if_neg he] at q
     exact ⟨s', h', q, R'⟩
 | _ => exact ⟨s', h', q, R'⟩
theorem awp_cond [Glb] {c : Operand} {x y : Code} {b : Bool} (hc : ev s c = .bool b) (ht : b = true → AWp P nt fo x Q s h) (hf : b = false → AWp P nt fo y Q s h) : AWp P nt fo (.cond c x y) Q s h := fun E a w I ⟨gs, R⟩ => by
 have hv := ev_ok R c
 rw [hc] at hv
 exact wp_cond_split hv.raw_inv (fun e => ht e E a w I ⟨gs, R⟩) fun e => hf e E a w I ⟨gs, R⟩
theorem awp_region [Glb] {id : Nat} {ops : Array Oper} (hs : slotsOk nt ops.toList = true) (hr : aRun P ops (Q .normal) ops.toList s h) : AWp P nt fo (.region id ops false) Q s h := fun _ _ _ _ R =>
 region_plain hs R hr fun s' h' _ _ q R' => ⟨s', h', q, R'⟩
theorem aRun_mono [Glb] {P : Program} {ops : Array Oper} {K K' : Slots → AH → Prop} (hk : ∀ s h, K s h → K' s h) : ∀ (l : List Oper) (s : Slots) (h : AH), aRun P ops K l s h → aRun P ops K' l s h
 | [], s, h, hr => hk s h hr
 | o :: l, s, h, ⟨x, eff, h1, h2⟩ => ⟨x, eff, h1, aRun_mono hk l _ _ h2⟩
theorem awp_region_draw [Glb] (hf : P.follows .mixedOrders = true) {id : Nat} {ops : Array Oper} (hs : slotsOk nt ops.toList = true) (hd : drawOk ops = true) (hr : aRun P ops (Q .normal) ops.toList s h) : AWp P nt fo (.region id ops true) Q s h := fun _ _ _ _ R =>
 region_drawF (free := []) hf hs hd R (aRun_mono (fun _ _ q => ⟨rfl, q⟩) _ _ _ hr) fun s' h' _ _ q R' => ⟨s', h', q, R'⟩
end
def AV.ref1w : AV → List Nat
 | .ptr o _ | .rp o _ _ _ | .own o _ | .osub o _ _ _ | .mref o | .iref o | .bs o _ => [o]
 | .fn _ ps => ps.flatMap AV.ref0
 | .when _ x => x.ref1w
 | _ => []
def AV.refsw : AV → List Nat
 | .agg xs => xs.flatMap AV.ref1w
 | .when _ x => x.refsw
 | x => x.ref1w
def AObj.refsM : AObj → List Nat
 | .map es _ => es.flatMap fun e => e.2.2.refsw
 | .iter m _ _ _ => [m]
 | _ => []
theorem ref0_w {x : AV} (hp : x.flatP = true) : x.ref0 = x.ref1w := by cases x <;> first | rfl | cases hp
def keepS (ks : List Nat) (s : Slots) : Slots := fun t => if t ∈ ks then s t else .c .any
def keepH (os : List Nat) (h : AH) : AH := fun o => if o ∈ os then h o else .gone
theorem RA.kept1 {w : World} {Z Z' : Nat → Prop} {h h' : AH} {gs gs' : Gs} {v : Value} {x : AV} (hx : RA w Z h gs v x) (hz : ∀ b, Z' b → Z b) (ho : ∀ o ∈ x.ref1w, h' o = h o ∧ gs' o = gs o) (hn : v.oneCell' = true) : RA w Z' h' gs' v x := by
 have hl : Later w w Z Z' := ⟨Nat.le_refl _, fun _ _ _ => rfl, fun b hb _ => hz b hb⟩
 induction hx with
 | c v x hx => exact .c v x (hx.later hl)
 | agg cs xs hl' ho' hh => simp [Value.oneCell'] at hn
 | pim a xs g hb hlt hc ho' hh => exact .pim a xs g (fun hz' => hb (hz _ hz')) hlt hc ho' fun j hj => (hh j hj).later hl
 | ptr o off b K ty cells ho' hg =>
   obtain ⟨e1, e2⟩ := ho o (by simp [AV.ref1w])
   exact .ptr o off b K ty cells (e1.trans ho') (e2.trans hg)
 | rp ad o L i off ty sz n f ho' hL hv =>
   obtain ⟨e1, e2⟩ := ho o (by simp [AV.ref1w])
   exact .rp ad o L i off ty sz n f (e1.trans ho') hL (by rw [e2]; exact hv)
 | own A k c o L ty sz n f ho' hL hv =>
   obtain ⟨e1, e2⟩ := ho o (by simp [AV.ref1w])
   exact .own A k c o L ty sz n f (e1.trans ho') hL (by rw [e2]; exact hv)
 | osub A k' c o L off k ty sz n f ho' hL hv =>
   obtain ⟨e1, e2⟩ := ho o (by simp [AV.ref1w])
   exact .osub A k' c o L off k ty sz n f (e1.trans ho') hL (by rw [e2]; exact hv)
 | emp A => exact .emp A
 | fn f cs ps hl' hp hh ih =>
   refine .fn f cs ps hl' hp fun i hi => ih i hi (fun o hm => ho o ?_) (hp i hi).2
   rw [← ref0_w (hp i hi).1, getD_lt hi] at hm
   exact List.mem_flatMap.2 ⟨_, List.getElem_mem hi, hm⟩
 | mref o b K es clock ho' hg =>
   obtain ⟨e1, e2⟩ := ho o (by simp [AV.ref1w])
   exact .mref o b K es clock (e1.trans ho') (e2.trans hg)
 | iref o b K m since seen last ho' hg =>
   obtain ⟨e1, e2⟩ := ho o (by simp [AV.ref1w])
   exact .iref o b K m since seen last (e1.trans ho') (e2.trans hg)
 | bs o n b K ty cells ho' hg =>
   obtain ⟨e1, e2⟩ := ho o (by simp [AV.ref1w])
   exact .bs o n b K ty cells (e1.trans ho') (e2.trans hg)
 | when v b x _ hu ih => exact .when v b x (fun e => ih e ho hn) hu
theorem RA.kept {w : World} {Z Z' : Nat → Prop} {h h' : AH} {gs gs' : Gs} {v : Value} {x : AV} (hx : RA w Z h gs v x) (hz : ∀ b, Z' b → Z b) (ho : ∀ o ∈ x.refsw, h' o = h o ∧ gs' o = gs o) : RA w Z' h' gs' v x := by
 induction hx with
 | agg cs xs hl' ho' hh _ =>
   refine .agg cs xs hl' ho' fun i hi => (hh i hi).kept1 hz (fun o hm => ho o ?_) (ho' i hi)
   rw [getD_lt hi] at hm
   exact List.mem_flatMap.2 ⟨_, List.getElem_mem hi, hm⟩
 | when v b x _ hu ih => exact .when v b x (fun e => ih e ho) hu
 | c v x hx =>
   have hl : Later w w Z Z' := ⟨Nat.le_refl _, fun _ _ _ => rfl, fun b hb _ => hz b hb⟩
   exact .c v x (hx.later hl)
 | pim a xs g hb hlt hc ho' hh => exact (RA.pim (gs := gs) (h := h) a xs g hb hlt hc ho' hh).kept1 hz ho rfl
 | ptr o off b K ty cells ho' hg => exact (RA.ptr (w := w) (Z := Z) o off b K ty cells ho' hg).kept1 hz ho rfl
 | rp ad o L i off ty sz n f ho' hL hv => exact (RA.rp (w := w) (Z := Z) ad o L i off ty sz n f ho' hL hv).kept1 hz ho rfl
 | own A k c o L ty sz n f ho' hL hv => exact (RA.own (w := w) (Z := Z) A k c o L ty sz n f ho' hL hv).kept1 hz ho rfl
 | osub A k' c o L off k ty sz n f ho' hL hv => exact (RA.osub (w := w) (Z := Z) A k' c o L off k ty sz n f ho' hL hv).kept1 hz ho rfl
 | emp A => exact .emp A
 | fn f cs os hl' hp hh _ => exact (RA.fn (w := w) (Z := Z) f cs os hl' hp hh).kept1 hz ho rfl
 | mref o b K es clock ho' hg => exact (RA.mref (w := w) (Z := Z) o b K es clock ho' hg).kept1 hz ho rfl
 | iref o b K m since seen last ho' hg => exact (RA.iref (w := w) (Z := Z) o b K m since seen last ho' hg).kept1 hz ho rfl
 | bs o n b K ty cells ho' hg => exact (RA.bs (w := w) (Z := Z) o n b K ty cells ho' hg).kept1 hz ho rfl
structure Keep (ks os : List Nat) (s : Slots) (h : AH) : Prop where
 slots : ∀ t ∈ ks, ∀ o ∈ (s t).refsw, o ∈ os
 boxes : ∀ o ∈ os, ∀ ty cells, h o = .box ty cells → ∀ x ∈ cells, ∀ o' ∈ x.refsw, o' ∈ os
 maps : ∀ o ∈ os, ∀ o' ∈ (h o).refsM, o' ∈ os
theorem weak_keep [Glb] {fo ks os : List Nat} {s : Slots} {h : AH} (K : Keep ks os s h) (hfo : ∀ o ∈ fo, o ∈ os) : Weak fo s h (keepS ks s) (keepH os h) := by
 intro E nt a w I ⟨gs, R⟩
 let gs' : Gs := fun o => if o ∈ os then gs o else none
 have hz : ∀ b, Zf E.Z gs' b → Zf E.Z gs b := by
   intro b hb
   rcases hb with hb | ⟨o, K', hb⟩
   · exact .inl hb
   · simp only [gs'] at hb
     split at hb
     · exact .inr ⟨o, K', hb⟩
     · cases hb
 have hl : Later w w (Zf E.Z gs) (Zf E.Z gs') := ⟨Nat.le_refl _, fun _ _ _ => rfl, fun b hb _ => hz b hb⟩
 have hk : ∀ o, o ∈ os → keepH os h o = h o ∧ gs' o = gs o := fun o ho => ⟨by simp [keepH, ho], by simp [gs', ho]⟩
 have sub : ∀ o b K', gs' o = some (b, K') → gs o = some (b, K') := fun o b K' e => by
   simp only [gs'] at e
   split at e
   · exact e
   · cases e
 have hrk : Refs E.h0 E.gs0 (keepH os h) gs' := by
   refine ⟨fun o ty cells e => ?_, fun o ty sz n f e => ?_, fun o es c e => ?_, fun o m s l t e => ?_⟩
   · obtain ⟨q1, q2⟩ := R.refs.box o ty cells e
     have := hk o (hfo o (I o (by rw [e]; simp)))
     rw [this.1, this.2]
     exact ⟨q1, q2⟩
   · obtain ⟨n', f', q1, q2, q3⟩ := R.refs.row o ty sz n f e
     have := hk o (hfo o (I o (by rw [e]; simp)))
     rw [this.1, this.2]
     exact ⟨n', f', q1, q2, q3⟩
   · obtain ⟨q1, q2⟩ := R.refs.map o es c e
     have := hk o (hfo o (I o (by rw [e]; simp)))
     rw [this.1, this.2]
     exact ⟨q1, q2⟩
   · obtain ⟨q1, q2⟩ := R.refs.iter o m s l t e
     have := hk o (hfo o (I o (by rw [e]; simp)))
     rw [this.1, this.2]
     exact ⟨q1, q2⟩
 refine ⟨gs', R.below, R.zlt, R.zd, R.glob, fun o b K' e => R.fresh o b K' (sub o b K' e), fun o o' b K1 K2 e1 e2 => R.inj o o' b K1 K2 (sub _ _ _ e1) (sub _ _ _ e2), fun o => ?_, fun t => ?_, R.size, R.defers, hrk⟩
 · by_cases ho : o ∈ os
   · have hob := R.objs o
     rw [(hk o ho).1]
     cases hx : h o with
     | gone =>
       rw [hx] at hob
       exact (hk o ho).2.trans hob
     | blk b ob =>
       rw [hx] at hob
       obtain ⟨K', g1, g2⟩ := hob
       exact ⟨K', (hk o ho).2.trans g1, g2⟩
     | box ty cells =>
       rw [hx] at hob
       obtain ⟨b, K', cur, g1, g2, g3, g4, g5⟩ := hob
       refine ⟨b, K', cur, (hk o ho).2.trans g1, g2, g3, g4, fun j hj => (g5 j hj).kept hz fun o' ho' => hk o' (K.boxes o ho ty cells hx _ ?_ o' ho')⟩
       rw [getD_lt hj]
       exact List.getElem_mem hj
     | map es c =>
       rw [hx] at hob
       obtain ⟨b, K', ents, g1, g2, g3, g4, g5⟩ := hob
       refine ⟨b, K', ents, (hk o ho).2.trans g1, g2, g3, g4, fun j hj => (g5 j hj).kept hz fun o' ho' => hk o' (K.maps o ho o' ?_)⟩
       rw [hx]
       rw [getD_lt hj] at ho'
       exact List.mem_flatMap.2 ⟨_, List.getElem_mem hj, ho'⟩
     | iter m s l t =>
       rw [hx] at hob
       obtain ⟨b, K', bm, Km, es, c, g1, g2, g3, g4⟩ := hob
       have hm := hk m (K.maps o ho m (by rw [hx]; simp [AObj.refsM]))
       exact ⟨b, K', bm, Km, es, c, (hk o ho).2.trans g1, hm.1.trans g2, hm.2.trans g3, g4⟩
     | row ty sz n f =>
       rw [hx] at hob
       rcases hob with q1 | ⟨b', K', cur, q1, q2, q3, q4, q5, q6, q7, q8⟩
       · exact .inl ((hk o ho).2.trans q1)
       · exact .inr ⟨b', K', cur, (hk o ho).2.trans q1, q2, q3, q4, q5, q6, q7, fun i j hi hj => (q8 i j hi hj).later hl⟩
   · have : keepH os h o = .gone := by simp [keepH, ho]
     rw [this]
     show gs' o = none
     simp [gs', ho]
 · by_cases ht : t ∈ ks
   · have : keepS ks s t = s t := by simp [keepS, ht]
     rw [this]
     exact (R.slots t).kept hz fun o ho => hk o (K.slots t ht o ho)
   · have : keepS ks s t = .c .any := by simp [keepS, ht]
     rw [this]
     exact .c _ _ (.any _)
def retAV [Glb] (P : Program) (s : Slots) (h : AH) : ResultVar → AV → Prop
 | .tmp t, x => (s t).wh = true ∧ x = (s t).strip
 | .cell t ty, x => aop1 P (.load ty (.tmp t)) (ev s) h true x
def retAll [Glb] (P : Program) (s : Slots) (h : AH) : List ResultVar → List AV → Prop
 | [], [] => True
 | r :: rs, x :: xs => retAV P s h r x ∧ retAll P s h rs xs
 | _, _ => False
def tupled : List CV → CV
 | [x] => x
 | xs => .tup xs
def RetQ [Glb] (P : Program) (fn : Func) (r : CV) : APost
 | .ret, s, h | .normal, s, h => ∃ xs, retAll P s h fn.results.toList xs ∧ CV.Sub (tupled (xs.map fun x => x.view h)) r
 | _, _, _ => False
def entryS (xs : List CV) : Slots := fun t => .c (xs.getD t .any)
section
variable {P : Program} {E : Env} {w : World} {nt : Nat} {s : Slots} {h : AH} {gs : Gs} {a : Act}
def resSem (tmps : Array Value) : ResultVar → Sem Value
 | .tmp t => pure (tmps.getD t undef)
 | .cell t ty => do loadVar ty (← asAddr (tmps.getD t undef))
theorem results_eq (fn : Func) (tmps : Array Value) : results fn tmps = (do let vs ← fn.results.mapM (resSem tmps); pure (if hh : vs.size = 1 then vs[0] else .tuple vs)) := by
 have e : (fun r => (match r with | .tmp t => pure (tmps.getD t undef) | .cell a t => do loadVar t (← asAddr (tmps.getD a undef)) : Sem Value)) = resSem tmps := funext fun r => by cases r <;> rfl
 rw [← e]
 rfl
theorem ret_run [Glb] (R : RelG E nt s h gs a w) {r : ResultVar} {x : AV} (hr : retAV P s h r x) : ∃ v, (resSem a.tmps r).run P w = .ok v w ∧ RA w (Zf E.Z gs) h gs v x := by
 cases r with
 | tmp t =>
   obtain ⟨h1, rfl⟩ := hr
   exact ⟨_, rfl, (R.slots t).strip h1⟩
 | cell t ty =>
   obtain ⟨ad, v, h1, h2, h3⟩ := load_run R ty (.tmp t) hr
   refine ⟨v, ?_, h3⟩
   have h1' : a.tmps.getD t undef = .pointer (some ad) := h1
   simp only [resSem, h1', asAddr, Sem.run_bind, Sem.run_pure, Result.andThen_ok, h2]
theorem rets_run [Glb] (R : RelG E nt s h gs a w) : ∀ (rs : List ResultVar) (xs : List AV), retAll P s h rs xs → ∃ vs : List Value, (rs.mapM (resSem a.tmps)).run P w = .ok vs w ∧ vs.length = xs.length ∧
   ∀ i, i < xs.length → RA w (Zf E.Z gs) h gs (vs.getD i undef) (xs.getD i default)
 | [], [], _ => ⟨[], rfl, rfl, fun i hi => by simp at hi⟩
 | [], _ :: _, hr => hr.elim
 | _ :: _, [], hr => hr.elim
 | r :: rs, x :: xs, hr => by
   obtain ⟨v, h1, h2⟩ := ret_run R hr.1
   obtain ⟨vs, h3, h4, h5⟩ := rets_run R rs xs hr.2
   refine ⟨v :: vs, ?_, by simp [h4], fun i hi => ?_⟩
   · simp only [List.mapM_cons, Sem.run_bind, h1, Result.andThen_ok, h3, Sem.run_pure]
   · cases i with
     | zero => exact h2
     | succ i => exact h5 i (by simpa using hi)
theorem rets_value [Glb] (R : RelG E nt s h gs a w) {fn : Func} {xs : List AV} (hr : retAll P s h fn.results.toList xs) : ∃ v, (results fn a.tmps).run P w = .ok v w ∧ RC w E.Z v (tupled (xs.map fun x => x.view h)) := by
 obtain ⟨vs, h1, h2, h3⟩ := rets_run R _ xs hr
 have hm : (results fn a.tmps).run P w = .ok (if hh : vs.toArray.size = 1 then vs.toArray[0] else .tuple vs.toArray) w := by
   rw [results_eq, ← Array.toArray_toList (xs := fn.results), List.mapM_toArray]
   simp only [Sem.run_bind, Sem.run_map, h1, Result.andThen_ok, Sem.run_pure]
 refine ⟨_, hm, ?_⟩
 clear hm h1 hr
 match vs, xs, h2, h3 with
 | [v], [x], _, h3 => exact view_ok R (h3 0 (by simp))
 | [], [], _, _ => exact .tup #[] [] rfl fun i hi => by simp at hi
 | v1 :: v2 :: vs, x1 :: x2 :: xs, h2, h3 =>
   have hne : ¬ (v1 :: v2 :: vs).toArray.size = 1 := by simp
   rw [dif_neg hne]
   refine .tup _ _ (by simpa using h2) fun i hi => ?_
   have hi' : i < (x1 :: x2 :: xs).length := by simpa using hi
   have hiv : i < (v1 :: v2 :: vs).length := by rw [h2]; exact hi'
   have h4 := view_ok R (h3 i hi')
   rw [getD_lt hiv, getD_lt hi'] at h4
   have e1 : (v1 :: v2 :: vs).toArray.getD i undef = (v1 :: v2 :: vs)[i] := by
     have : i < (v1 :: v2 :: vs).toArray.size := by simpa using hiv
     simp only [Array.getD, this, dite_true, Array.getInternal_eq_getElem, List.getElem_toArray]
   rw [e1, getD_lt hi]
   simp only [← List.map_cons, List.getElem_map]
   exact h4
theorem apure_of [Glb] {f : FuncId} {fn : Func} {c : Code} {xs : List CV} {r : CV} (hf : P.funcs[f]? = some fn) (hb : fn.body = some c) (hn : (fn.name == "runtime.NumGoroutine") = false) (hl : xs.length ≤ fn.ntmps)
   (hc : AWp P fn.ntmps [] c (RetQ P fn r) (entryS xs) (fun _ => .gone)) : APure P f xs r := by
 refine ⟨⟨fn, hf, hn, by rw [hb]; rfl⟩, fun Z w vs hz hgl hlen hx => ?_⟩
 refine calls_of_wp hf hb ?_
 have hR : Rel ⟨w, Z, fun _ => .gone, fun _ => none, []⟩ fn.ntmps (entryS xs) (fun _ => .gone) { tmps := vs.toArray ++ Array.replicate (fn.ntmps - vs.toArray.size) undef, defers := [] } w := by
   refine ⟨fun _ => none, BelowX.refl _ _, hz, fun b hb => (by obtain ⟨o, K, e⟩ := hb; cases e), hgl, fun o b K e => absurd e (by simp), fun o o' b K K' e => absurd e (by simp), fun o => rfl, fun t => ?_, by simp; omega, rfl, Refs.refl _ _⟩
   have hzf : ∀ b, Zf Z (fun _ => none) b → Z b := by
     intro b hb
     rcases hb with hb | ⟨o, K, hb⟩
     · exact hb
     · exact absurd hb (by simp)
   by_cases ht : t < xs.length
   · have e : (vs.toArray ++ Array.replicate (fn.ntmps - vs.toArray.size) undef).getD t undef = vs.getD t undef := by
       simp only [Array.getD_eq_getD_getElem?, List.getD_eq_getElem?_getD]
       rw [Array.getElem?_append_left (by simp; omega)]
       simp
     simp only [e]
     exact .c _ _ ((hx t ht).less hzf)
   · have : entryS xs t = .c .any := by
       unfold entryS
       rw [List.getD_eq_getElem?_getD, List.getElem?_eq_none (by omega)]
       rfl
     rw [this]
     exact .c _ _ (.any _)
 refine wp_mono (hc ⟨w, Z, fun _ => .gone, fun _ => none, []⟩ _ w (fun o ho => absurd rfl ho) hR) fun e a' w' ⟨s', h', q, gs', R'⟩ => ?_
 cases e with
 | normal =>
   obtain ⟨ys, q1, q2⟩ := q
   obtain ⟨v, h1, h2⟩ := rets_value R' q1
   exact ⟨R'.defers, v, h1, v, rfl, q2 _ _ _ h2, R'.below.toD fun b hd => (by obtain ⟨o, K, e⟩ := hd; cases e)⟩
 | ret =>
   obtain ⟨ys, q1, q2⟩ := q
   obtain ⟨v, h1, h2⟩ := rets_value R' q1
   exact ⟨R'.defers, v, h1, v, rfl, q2 _ _ _ h2, R'.below.toD fun b hd => (by obtain ⟨o, K, e⟩ := hd; cases e)⟩
 | _ => exact q.elim
end
end Go.Am
namespace Go.Am
open Go.RowKit
theorem upd_apply {α : Type} (s : Nat → α) (t : Nat) (x : α) (i : Nat) : upd s t x i = if i = t then x else s i := rfl
theorem keepS_apply (ks : List Nat) (s : Slots) (t : Nat) : keepS ks s t = if t ∈ ks then s t else .c .any := rfl
theorem keepH_apply (os : List Nat) (h : AH) (o : Nat) : keepH os h o = if o ∈ os then h o else .gone := rfl
theorem thenQ_normal (n : Slots → AH → Prop) (Q : APost) (s : Slots) (h : AH) : thenQ n Q .normal s h = n s h := rfl
theorem thenQ_exit (n : Slots → AH → Prop) (Q : APost) (i : Nat) (s : Slots) (h : AH) : thenQ n Q (.exit i) s h = Q (.exit i) s h := rfl
theorem blockQ_normal (i : Nat) (Q : APost) (s : Slots) (h : AH) : blockQ i Q .normal s h = Q .normal s h := rfl
theorem blockQ_exit (i j : Nat) (Q : APost) (s : Slots) (h : AH) : blockQ i Q (.exit j) s h = if j = i then Q .normal s h else Q (.exit j) s h := rfl
section
variable {P : Program} {nt : Nat} {fo : List Nat} {Q : APost} {s : Slots} {h : AH}
theorem awp_rseq [Glb] {id : Nat} {ops : List Oper} {y : Code} (hs : slotsOk nt ops = true) (hr : ∀ K : Slots → AH → Prop, (∀ s h, AWp P nt fo y Q s h → K s h) → aRun P ops.toArray K ops s h) : AWp P nt fo (.seq (.region id ops.toArray false) y) Q s h :=
 awp_seq (awp_region hs (hr _ fun _ _ q => q))
theorem awp_rseq_draw [Glb] (hf : P.follows .mixedOrders = true) {id : Nat} {ops : List Oper} {y : Code} (hs : slotsOk nt ops = true) (hd : drawOk ops.toArray = true) (hr : ∀ K : Slots → AH → Prop, (∀ s h, AWp P nt fo y Q s h → K s h) → aRun P ops.toArray K ops s h) :
   AWp P nt fo (.seq (.region id ops.toArray true) y) Q s h :=
 awp_seq (awp_region_draw hf hs hd (hr _ fun _ _ q => q))
theorem awp_rlast [Glb] {id : Nat} {ops : List Oper} (hs : slotsOk nt ops = true) (hr : ∀ K : Slots → AH → Prop, (∀ s h, Q .normal s h → K s h) → aRun P ops.toArray K ops s h) : AWp P nt fo (.region id ops.toArray false) Q s h :=
 awp_region hs (hr _ fun _ _ q => q)
theorem awp_rlast_draw [Glb] (hf : P.follows .mixedOrders = true) {id : Nat} {ops : List Oper} (hs : slotsOk nt ops = true) (hd : drawOk ops.toArray = true) (hr : ∀ K : Slots → AH → Prop, (∀ s h, Q .normal s h → K s h) → aRun P ops.toArray K ops s h) :
   AWp P nt fo (.region id ops.toArray true) Q s h :=
 awp_region_draw hf hs hd (hr _ fun _ _ q => q)
end
theorem wrap_in {n : Int} (h : -9223372036854775808 ≤ n ∧ n ≤ 9223372036854775807) : IntKind.i64.wrap n = n := by
 rw [IntKind.wrap_i64]
 omega
theorem strip_c (x : CV) : (AV.c x).strip = .c x := rfl
theorem strip_agg (x : List AV) : (AV.agg x).strip = .agg x := rfl
theorem strip_pim (x : List CV) : (AV.pim x).strip = .pim x := rfl
theorem strip_ptr (o k : Nat) : (AV.ptr o k).strip = .ptr o k := rfl
theorem strip_rp (o L i k : Nat) : (AV.rp o L i k).strip = .rp o L i k := rfl
theorem strip_own (o L : Nat) : (AV.own o L).strip = .own o L := rfl
theorem strip_osub (o L i k : Nat) : (AV.osub o L i k).strip = .osub o L i k := rfl
theorem strip_emp : AV.emp.strip = .emp := rfl
theorem strip_fn (f : FuncId) (ps : List AV) : (AV.fn f ps).strip = .fn f ps := rfl
theorem strip_mref (o : Nat) : (AV.mref o).strip = .mref o := rfl
theorem strip_iref (o : Nat) : (AV.iref o).strip = .iref o := rfl
theorem strip_bs (o n : Nat) : (AV.bs o n).strip = .bs o n := rfl
theorem strip_when (b : Bool) (x : AV) : (AV.when b x).strip = x.strip := rfl
theorem wh_c (x : CV) : (AV.c x).wh = true := rfl
theorem wh_agg (x : List AV) : (AV.agg x).wh = true := rfl
theorem wh_pim (x : List CV) : (AV.pim x).wh = true := rfl
theorem wh_ptr (o k : Nat) : (AV.ptr o k).wh = true := rfl
theorem wh_rp (o L i k : Nat) : (AV.rp o L i k).wh = true := rfl
theorem wh_own (o L : Nat) : (AV.own o L).wh = true := rfl
theorem wh_osub (o L i k : Nat) : (AV.osub o L i k).wh = true := rfl
theorem wh_emp : AV.emp.wh = true := rfl
theorem wh_fn (f : FuncId) (ps : List AV) : (AV.fn f ps).wh = true := rfl
theorem wh_mref (o : Nat) : (AV.mref o).wh = true := rfl
theorem wh_iref (o : Nat) : (AV.iref o).wh = true := rfl
theorem wh_bs (o n : Nat) : (AV.bs o n).wh = true := rfl
theorem wh_when (b : Bool) (x : AV) : (AV.when b x).wh = (b && x.wh) := rfl
theorem ev_tmp (s : Slots) (t : Nat) : ev s (.tmp t) = s t := rfl
theorem ev_const (s : Slots) (v : Value) : ev s (.const v) = constAV1 v := rfl
theorem const_int (k : IntKind) (n : Int) : constAV1 (.int k n) = .c (.raw (.int k n)) := rfl
theorem const_bool (b : Bool) : constAV1 (.bool b) = .c (.raw (.bool b)) := rfl
theorem const_str (b : ByteArray) : constAV1 (.string b) = .c (.raw (.string b)) := rfl
theorem const_nil : constAV1 (.slice none 0 0) = .emp := rfl
theorem bin_lss (a b : Int) : bin .lss (.int .i64 a) (.int .i64 b) = some (.bool (decide (a < b))) := rfl
theorem bin_leq (a b : Int) : bin .leq (.int .i64 a) (.int .i64 b) = some (.bool (decide (a ≤ b))) := rfl
theorem bin_gtr (a b : Int) : bin .gtr (.int .i64 a) (.int .i64 b) = some (.bool (decide (b < a))) := rfl
theorem bin_geq (a b : Int) : bin .geq (.int .i64 a) (.int .i64 b) = some (.bool (decide (b ≤ a))) := rfl
theorem bin_eql (a b : Int) : bin .eql (.int .i64 a) (.int .i64 b) = some (.bool (a == b)) := rfl
theorem bin_neq (a b : Int) : bin .neq (.int .i64 a) (.int .i64 b) = some (.bool (a != b)) := rfl
theorem bin_add (a b : Int) : bin .add (.int .i64 a) (.int .i64 b) = some (.int .i64 (IntKind.i64.wrap (a + b))) := rfl
theorem bin_sub (a b : Int) : bin .sub (.int .i64 a) (.int .i64 b) = some (.int .i64 (IntKind.i64.wrap (a - b))) := rfl
theorem bin_rem (a b : Int) : bin .rem (.int .i64 a) (.int .i64 b) = if b = 0 then none else some (.int .i64 (a.tmod b)) := rfl
theorem bin_seql (a b : ByteArray) : bin .eql (.string a) (.string b) = some (.bool (a.toList == b.toList)) := rfl
theorem bin_sneq (a b : ByteArray) : bin .neq (.string a) (.string b) = some (.bool !(a.toList == b.toList)) := rfl
theorem bin_slss (a b : ByteArray) : bin .lss (.string a) (.string b) = some (.bool (Op.bytesLess a.toList b.toList)) := rfl
theorem addOff_pim (k : Nat) (xs : List CV) : addOff k (.pim xs) = some (.pim (xs.drop k)) := rfl
theorem addOff_ptr (k o j : Nat) : addOff k (.ptr o j) = some (.ptr o (j + k)) := rfl
theorem addOff_rp (k o L i j : Nat) : addOff k (.rp o L i j) = some (.rp o L i (j + k)) := rfl
theorem view_c (h : AH) (x : CV) : (AV.c x).view h = x := rfl
theorem view_emp (h : AH) : AV.emp.view h = .im 0 0 fun _ => [] := rfl
theorem view_pim (h : AH) (xs : List CV) : (AV.pim xs).view h = .ptr xs := rfl
theorem view1_pim (h : AH) (xs : List CV) : (AV.pim xs).view1 h = .ptr xs := rfl
theorem live_pim (h : AH) (xs : List CV) : (AV.pim xs).live h = true := rfl
theorem live1_pim (h : AH) (xs : List CV) : (AV.pim xs).live1 h = true := rfl
theorem closedA_pim (xs : List CV) : (AV.pim xs).closedA = true := rfl
theorem addOff_cptr (k : Nat) (xs : List CV) : addOff k (.c (.ptr xs)) = some (.pim (xs.drop k)) := rfl
theorem view_agg (h : AH) (xs : List AV) : (AV.agg xs).view h = .agg (xs.map (AV.view1 h)) := rfl
theorem view1_c (h : AH) (x : CV) : (AV.c x).view1 h = x := rfl
theorem view1_emp (h : AH) : AV.emp.view1 h = .im 0 0 fun _ => [] := rfl
theorem live_c (h : AH) (x : CV) : (AV.c x).live h = true := rfl
theorem live_emp (h : AH) : AV.emp.live h = true := rfl
theorem live_agg (h : AH) (xs : List AV) : (AV.agg xs).live h = xs.all fun x => x.live1 h := rfl
theorem live1_c (h : AH) (x : CV) : (AV.c x).live1 h = true := rfl
theorem live1_emp (h : AH) : AV.emp.live1 h = true := rfl
theorem closedA_c (x : CV) : (AV.c x).closedA = true := rfl
theorem closedA_emp : AV.emp.closedA = true := rfl
theorem closedA_agg (xs : List AV) : (AV.agg xs).closedA = xs.all fun x => x.closed1.isSome := rfl
theorem arr1_eq {α : Type} (a b : α) : (#[a] = #[b]) = (a = b) := by simp
theorem arr2_eq {α : Type} (a b c d : α) : (#[a, b] = #[c, d]) = (a = c ∧ b = d) := by simp
theorem beq_tt (b : Bool) : (b == true) = b := by cases b <;> rfl
theorem beq_ff (b : Bool) : (b == false) = !b := by cases b <;> rfl
section
variable {P : Program} {ops : Array Oper} {K : Slots → AH → Prop} {r : List Oper} {s : Slots} {h : AH} {x : AV} {d : Nat} {op : Op} {ty : TypeId} {pos : String} {af : Array Edge}
theorem st0 [Glb] (hc : cls op = 0) (hx : aop0 P op (ev s) true x) (hn : aRun P ops K r (upd s d x) h) : aRun P ops K (⟨some d, op, ty, pos, af, none⟩ :: r) s h := by
 refine ⟨x, none, ?_, hn⟩
 unfold aStep aEx
 simp only [hc]
 exact ⟨hx, trivial⟩
theorem st1 [Glb] (hc : cls op = 1) (hx : aop1 P op (ev s) h true x) (hn : aRun P ops K r (upd s d x) h) : aRun P ops K (⟨some d, op, ty, pos, af, none⟩ :: r) s h := by
 refine ⟨x, none, ?_, hn⟩
 unfold aStep aEx
 simp only [hc]
 exact ⟨hx, trivial⟩
theorem st2 [Glb] {ob : Nat} {x' : AObj} (hc : cls op = 2) (hx : aop2 P op (ev s) h (some d) ob x' x) (hn : aRun P ops K r (upd s d x) (upd h ob x')) : aRun P ops K (⟨some d, op, ty, pos, af, none⟩ :: r) s h := by
 refine ⟨x, some (ob, x'), ?_, hn⟩
 unfold aStep aEx
 simp only [hc]
 exact ⟨ob, x', hx, rfl⟩
theorem st2n [Glb] {ob : Nat} {x' : AObj} (hc : cls op = 2) (hx : aop2 P op (ev s) h none ob x' (.c .any)) (hn : aRun P ops K r s (upd h ob x')) : aRun P ops K (⟨none, op, ty, pos, af, none⟩ :: r) s h := by
 refine ⟨.c .any, some (ob, x'), ?_, hn⟩
 unfold aStep aEx
 simp only [hc]
 exact ⟨ob, x', hx, rfl⟩
theorem st3 [Glb] {x' : AObj} {ob : Nat} (hc : cls op = 3) (hgo : h ob = .gone) (hx : aop3 P op (ev s) ob x' x) (hn : aRun P ops K r (upd s d x) (upd h ob x')) : aRun P ops K (⟨some d, op, ty, pos, af, none⟩ :: r) s h := by
 refine ⟨x, some (ob, x'), ?_, hn⟩
 unfold aStep aEx
 simp only [hc]
 exact ⟨ob, x', ⟨d, rfl⟩, hgo, hx, rfl⟩
theorem sg0 [Glb] {j t : Nat} {want g G : Bool} {u : AV} (hc : cls op = 0) (ht : (ops[j]?).bind (·.dst) = some t) (hs : s t = u) (hu : u.strip = .bool g) (hG : (u.wh && g == want) = G) (hx : aop0 P op (ev s) G x) (hn : aRun P ops K r (upd s d (.when G x)) h) : aRun P ops K (⟨some d, op, ty, pos, af, some (j, want)⟩ :: r) s h := by
 subst hs hG
 refine ⟨.when ((s t).wh && g == want) x, none, ?_, hn⟩
 unfold aStep
 refine ⟨rfl, t, g, x, ht, hu, fun e => ?_, rfl⟩
 rw [e] at hx
 simp only [hc]
 exact hx
theorem sg1 [Glb] {j t : Nat} {want g G : Bool} {u : AV} (hc : cls op = 1) (ht : (ops[j]?).bind (·.dst) = some t) (hs : s t = u) (hu : u.strip = .bool g) (hG : (u.wh && g == want) = G) (hx : aop1 P op (ev s) h G x) (hn : aRun P ops K r (upd s d (.when G x)) h) : aRun P ops K (⟨some d, op, ty, pos, af, some (j, want)⟩ :: r) s h := by
 subst hs hG
 refine ⟨.when ((s t).wh && g == want) x, none, ?_, hn⟩
 unfold aStep
 refine ⟨rfl, t, g, x, ht, hu, fun e => ?_, rfl⟩
 rw [e] at hx
 simp only [hc]
 exact hx
theorem sgF [Glb] {j t : Nat} {want g : Bool} {u : AV} (ht : (ops[j]?).bind (·.dst) = some t) (hs : s t = u) (hu : u.strip = .bool g) (hG : (u.wh && g == want) = false) (hn : aRun P ops K r (upd s d (.when false (.bool false))) h) : aRun P ops K (⟨some d, op, ty, pos, af, some (j, want)⟩ :: r) s h := by
 subst hs
 refine ⟨.when ((s t).wh && g == want) (.bool false), none, ?_, ?_⟩
 · unfold aStep
   refine ⟨rfl, t, g, .bool false, ht, hu, fun e => ?_, rfl⟩
   rw [e] at hG
   cases hG
 · rw [hG]
   exact hn
end
attribute [go_sem] aop0 aop1 aop2 aop3 ev_tmp ev_const const_int const_bool const_str const_nil keepS_apply keepH_apply strip_c strip_agg strip_pim strip_ptr strip_rp strip_own strip_osub strip_emp strip_fn strip_mref strip_iref strip_bs strip_when wh_c wh_agg wh_pim wh_ptr wh_rp wh_own wh_osub wh_emp wh_fn wh_mref wh_iref wh_bs wh_when bin_lss bin_leq bin_gtr bin_geq bin_eql bin_neq bin_add bin_sub bin_rem bin_seql bin_sneq bin_slss AV.rawAgg rawsL closedL AV.closed1 addOff_pim addOff_ptr addOff_rp addOff_cptr
attribute [go_sem] view_c view_emp view_agg view1_c view1_emp live_c live_emp live_agg live1_c live1_emp view_pim view1_pim live_pim live1_pim closedA_pim closedA_c closedA_emp closedA_agg arr1_eq arr2_eq beq_tt beq_ff loadC loadA AV.cells entryS setL setLC
end Go.Am
namespace Go.Am
open Go.RowKit
section
variable {E : Env} {w : World} {nt : Nat} {s : Slots} {h : AH} {gs : Gs} {a : Act}
theorem RelG.virt [Glb] (R : RelG E nt s h gs a w) (o : Nat) (ho : h o = .gone) (ty : TypeId) (sz : Nat) (f : Nat → List CV) : RelG E nt s (upd h o (.row ty sz 0 f)) gs a w := by
 have hgo : gs o = none := by have := R.objs o; rw [ho] at this; exact this
 have e : upd gs o none = gs := funext fun i => by unfold upd; split <;> simp_all
 have := R.eff (w' := w) o (.row ty sz 0 f) none rfl rfl rfl (Nat.le_refl _) (fun _ _ _ => rfl) (.inl hgo.symm) (fun ty cells e => by rw [ho] at e; cases e) (fun ty sz n f e => by rw [ho] at e; cases e) fun _ _ => .inl (upd_same _ _ _)
 rw [e] at this
 exact this
theorem RA.emp_own {Z : Nat → Prop} {v : Value} {o : Nat} {ty : TypeId} {sz : Nat} {f : Nat → List CV} (hx : RA w Z h gs v .emp) (ho : h o = .row ty sz 0 f) (hg : gs o = none) : RA w Z h gs v (.own o 0) := by
 cases hx with
 | emp A => exact .own A 0 0 o 0 ty sz 0 f ho (Nat.le_refl _) fun _ => .inr ⟨hg, rfl, rfl, rfl⟩
theorem weak_adoptB [Glb] {fo : List Nat} (b k o : Nat) (tb : TypeId) (cells : List AV) (ty : TypeId) (sz : Nat) (f : Nat → List CV) (hb : h b = .box tb cells) (hk : cells.getD k default = .emp) (ho : h o = .gone) :
   Weak fo s h s (upd (upd h o (.row ty sz 0 f)) b (.box tb (cells.set k (.own o 0)))) := by
 intro E nt a w I ⟨gs, R⟩
 have hgo : gs o = none := by have := R.objs o; rw [ho] at this; exact this
 have hbo : b ≠ o := fun e => by subst e; rw [hb] at ho; cases ho
 have R' := R.virt o ho ty sz f
 have hb' : upd h o (.row ty sz 0 f) b = .box tb cells := by rw [upd_ne _ _ _ _ hbo]; exact hb
 refine ⟨gs, ?_⟩
 have e : upd gs b (gs b) = gs := funext fun i => by unfold upd; split <;> simp_all
 have := R'.eff (w' := w) b (.box tb (cells.set k (.own o 0))) (gs b) rfl rfl rfl (Nat.le_refl _) (fun _ _ _ => rfl) (.inl rfl) (fun ty cells e => ⟨⟨_, _, rfl⟩, rfl⟩) (fun ty sz n f e => by rw [hb'] at e; cases e) (fun hL hr => by
   have hob := R'.objs b
   rw [hb'] at hob
   rw [e] at hL hr ⊢
   obtain ⟨bb, K, cur, g1, g2, g3, g4, g5⟩ := hob
   refine ⟨bb, K, cur, g1, g2, by simpa using g3, fun j hj => g4 j (by simpa using hj), fun j hj => ?_⟩
   have hj' : j < cells.length := by simpa using hj
   by_cases hjk : j = k
   · subst hjk
     have h1 := (g5 j hj').later hL hr
     rw [hk] at h1
     rw [getD_lt hj, List.getElem_set_self]
     exact h1.emp_own (by rw [upd_ne _ _ _ _ (Ne.symm hbo), upd_same]) hgo
   · have h1 := (g5 j hj').later hL hr
     rw [getD_lt hj'] at h1
     rw [getD_lt hj, List.getElem_set_ne (Ne.symm hjk)]
     exact h1)
 rw [e] at this
 exact this
def AV.frz0 (o sz n : Nat) (f : Nat → List CV) : AV → AV
 | .own o' L => if o' = o then (if L = n then .c (.im sz n f) else .c .any) else .own o' L
 | .osub o' L off k => if o' = o then (if L = n then .c (.im sz k fun i => f (off + i)) else .c .any) else .osub o' L off k
 | .rp o' L i off => if o' = o then .c .any else .rp o' L i off
 | x => x
def AV.frz1 (o sz n : Nat) (f : Nat → List CV) : AV → AV
 | .fn f' ps => .fn f' (ps.map (AV.frz0 o sz n f))
 | .own o' L => if o' = o then (if L = n then .c (.im sz n f) else .c .any) else .own o' L
 | .osub o' L off k => if o' = o then (if L = n then .c (.im sz k fun i => f (off + i)) else .c .any) else .osub o' L off k
 | .rp o' L i off => if o' = o then .c .any else .rp o' L i off
 | .when b x => .when b (x.frz1 o sz n f)
 | x => x
def AV.frz (o sz n : Nat) (f : Nat → List CV) : AV → AV
 | .agg xs => .agg (xs.map (AV.frz1 o sz n f))
 | .when b x => .when b (x.frz o sz n f)
 | x => x.frz1 o sz n f
def AObj.frz (o sz n : Nat) (f : Nat → List CV) : AObj → AObj
 | .box ty cells => .box ty (cells.map (AV.frz o sz n f))
 | .map es c => .map (es.map fun e => (e.1, e.2.1, e.2.2.frz o sz n f)) c
 | x => x
def frzS (o sz n : Nat) (f : Nat → List CV) (s : Slots) : Slots := fun t => (s t).frz o sz n f
def frzH (o sz n : Nat) (f : Nat → List CV) (h : AH) : AH := fun q => if q = o then .gone else (h q).frz o sz n f
theorem frz0_eq (o sz n : Nat) (f : Nat → List CV) {x : AV} (hp : x.flatP = true) : x.frz0 o sz n f = x.frz1 o sz n f := by cases x <;> first | rfl | cases hp
theorem frz0_flat (o sz n : Nat) (f : Nat → List CV) {x : AV} (hp : x.flatP = true) : (x.frz0 o sz n f).flatP = true := by
 cases x <;> simp only [AV.flatP, Bool.false_eq_true] at hp <;> simp only [AV.frz0] <;> (repeat' split) <;> rfl
theorem RA.frz1_ok [Glb] (R : RelG E nt s h gs a w) {o sz n : Nat} {ty : TypeId} {f : Nat → List CV} (ho : h o = .row ty sz n f) {v : Value} {x : AV} (hx : RA w (Zf E.Z gs) h gs v x) (hn : v.oneCell' = true) :
   RA w (Zf E.Z (upd gs o none)) (frzH o sz n f h) (upd gs o none) v (x.frz1 o sz n f) := by
 have hz : ∀ b, Zf E.Z (upd gs o none) b → Zf E.Z gs b := by
   intro b hb
   rcases hb with hb | ⟨o', K, hb⟩
   · exact .inl hb
   · rw [upd_apply] at hb
     split at hb
     · cases hb
     · exact .inr ⟨o', K, hb⟩
 have hl : Later w w (Zf E.Z gs) (Zf E.Z (upd gs o none)) := ⟨Nat.le_refl _, fun _ _ _ => rfl, fun b hb _ => hz b hb⟩
 have nz : ∀ b K, gs o = some (b, K) → ¬ Zf E.Z (upd gs o none) b := by
   intro b K e hb
   rcases hb with hb | ⟨o', K', hb⟩
   · have h1 := R.zlt b hb
     rcases (R.fresh o b K e).1 with h2 | h2
     · omega
     · exact (R.zd b h2).1 hb
   · rw [upd_apply] at hb
     split at hb
     · cases hb
     · rename_i hne
       exact hne (R.inj o' o b K' K hb e)
 induction hx with
 | c v x hx => exact .c v x (hx.later hl)
 | agg cs xs hl' ho' hh => simp [Value.oneCell'] at hn
 | pim ad xs g hb hlt hc ho' hh => exact .pim ad xs g (fun hz' => hb (hz _ hz')) hlt hc ho' fun j hj => (hh j hj).later hl
 | ptr o' off b K ty' cells ho' hg =>
   have hne : o' ≠ o := fun e => by subst e; rw [ho] at ho'; cases ho'
   exact .ptr o' off b K ty' (cells.map (AV.frz o sz n f)) (by simp [frzH, hne, ho', AObj.frz]) (by rw [upd_ne _ _ _ _ hne]; exact hg)
 | rp ad o' L i off ty' sz' n' f' ho' hL hv =>
   simp only [AV.frz1]
   split
   · exact .c _ _ (.any _)
   · rename_i hne
     exact .rp ad o' L i off ty' sz' n' f' (by simp [frzH, hne, ho', AObj.frz]) hL (by rw [upd_ne _ _ _ _ hne]; exact hv)
 | own A k c o' L ty' sz' n' f' ho' hL hv =>
   simp only [AV.frz1]
   split
   · rename_i he
     subst he
     rw [ho] at ho'
     injection ho' with e1 e2 e3 e4
     subst e1; subst e2; subst e3; subst e4
     split
     · rename_i hLn
       have hob := R.objs o'
       rw [ho] at hob
       rcases hv hLn with ⟨b, K, g1, rfl, rfl, rfl⟩ | ⟨g1, rfl, rfl, rfl⟩
       · rcases hob with q1 | ⟨b', K', cur, q1, q2, q3, q4, q5, q6, q7, q8⟩
         · rw [g1] at q1; cases q1
         · rw [g1] at q1
           simp only [Option.some.injEq, Prod.mk.injEq] at q1
           obtain ⟨rfl, rfl⟩ := q1
           have hkc : k * sz ≤ c * sz := Nat.mul_le_mul_right _ q4
           refine .c _ _ (.im _ k c sz f (fun j => cur.getD j undef) (nz _ _ g1) (R.fresh _ _ _ g1).2 q4 (fun j hj => ?_) q7 q6 fun i j hi hj => (q8 i j hi hj).later hl)
           rw [addr_lit, Nat.zero_add]
           exact cell_of_heap q2 (by omega)
       · exact .c _ _ (.nul _ _ _ _)
     · exact .c _ _ (.any _)
   · rename_i hne
     exact .own A k c o' L ty' sz' n' f' (by simp [frzH, hne, ho', AObj.frz]) hL (by rw [upd_ne _ _ _ _ hne]; exact hv)
 | osub A k' c o' L off k ty' sz' n' f' ho' hL hv =>
   simp only [AV.frz1]
   split
   · rename_i he
     subst he
     rw [ho] at ho'
     injection ho' with e1 e2 e3 e4
     subst e1; subst e2; subst e3; subst e4
     split
     · rename_i hLn
       have hob := R.objs o'
       rw [ho] at hob
       obtain ⟨v1, rfl, v3, v4, _⟩ := hv hLn
       rcases Nat.eq_zero_or_pos k' with h0 | h0
       · subst h0
         exact .c _ _ (.nul _ _ _ _)
       · obtain ⟨b, K, g1, rfl⟩ := v4 h0
         rcases hob with q1 | ⟨b', K', cur, q1, q2, q3, q4, q5, q6, q7, q8⟩
         · rw [g1] at q1; cases q1
         · rw [g1] at q1
           simp only [Option.some.injEq, Prod.mk.injEq] at q1
           obtain ⟨rfl, rfl⟩ := q1
           have hnK : n * sz ≤ K * sz := Nat.mul_le_mul_right _ q4
           have ho2 : off * sz + k' * sz ≤ n * sz := by rw [← Nat.add_mul]; exact Nat.mul_le_mul_right _ v1
           refine .c _ _ (.im _ k' c sz _ (fun j => cur.getD (off * sz + j) undef) (nz _ _ g1) (R.fresh _ _ _ g1).2 v3 (fun j hj => ?_) (fun j hj => q7 _ (by omega)) (fun i hi => q6 _ (by omega)) fun i j hi hj => ?_)
           · rw [addr_lit]
             exact cell_of_heap q2 (by omega)
           · have := q8 (off + i) j (by omega) hj
             rw [Nat.add_mul, Nat.add_assoc] at this
             exact this.later hl
     · exact .c _ _ (.any _)
   · rename_i hne
     exact .osub A k' c o' L off k ty' sz' n' f' (by simp [frzH, hne, ho', AObj.frz]) hL (by rw [upd_ne _ _ _ _ hne]; exact hv)
 | emp A => exact .emp A
 | fn f' cs ps hl' hp hh ih =>
   have hg : ∀ i, i < ps.length → (ps.map (AV.frz0 o sz n f)).getD i default = (ps.getD i default).frz0 o sz n f := fun i hi => by rw [getD_lt (by simpa using hi), getD_lt hi, List.getElem_map]
   refine .fn f' cs _ (by simpa using hl') (fun i hi => ?_) fun i hi => ?_
   · have hi' : i < ps.length := by simpa using hi
     rw [hg i hi']
     exact ⟨frz0_flat o sz n f (hp i hi').1, (hp i hi').2⟩
   · have hi' : i < ps.length := by simpa using hi
     rw [hg i hi', frz0_eq o sz n f (hp i hi').1]
     exact ih i hi' (hp i hi').2
 | mref o' b K es clock ho' hg =>
   have hne : o' ≠ o := fun e => by subst e; rw [ho] at ho'; cases ho'
   exact .mref o' b K _ clock (by simp only [frzH, hne, if_false, ho', AObj.frz]; rfl) (by rw [upd_ne _ _ _ _ hne]; exact hg)
 | iref o' b K m since seen last ho' hg =>
   have hne : o' ≠ o := fun e => by subst e; rw [ho] at ho'; cases ho'
   exact .iref o' b K m since seen last (by simp only [frzH, hne, if_false, ho', AObj.frz]) (by rw [upd_ne _ _ _ _ hne]; exact hg)
 | bs o' n' b K ty cells ho' hg =>
   have hne : o' ≠ o := fun e => by subst e; rw [ho] at ho'; cases ho'
   exact .bs o' n' b K ty _ (by simp only [frzH, hne, if_false, ho', AObj.frz]; rfl) (by rw [upd_ne _ _ _ _ hne]; exact hg)
 | when v b x _ hu ih => exact .when v b _ (fun e => ih e hn) hu
theorem RA.frz_ok [Glb] (R : RelG E nt s h gs a w) {o sz n : Nat} {ty : TypeId} {f : Nat → List CV} (ho : h o = .row ty sz n f) {v : Value} {x : AV} (hx : RA w (Zf E.Z gs) h gs v x) :
   RA w (Zf E.Z (upd gs o none)) (frzH o sz n f h) (upd gs o none) v (x.frz o sz n f) := by
 induction hx with
 | agg cs xs hl' ho' hh _ =>
   refine .agg cs _ (by simpa using hl') (fun i hi => ho' i (by simpa using hi)) fun i hi => ?_
   have hi' : i < xs.length := by simpa using hi
   have := (hh i hi').frz1_ok R ho (ho' i hi')
   rw [getD_lt hi'] at this
   rw [getD_lt hi, List.getElem_map]
   exact this
 | when v b x _ hu ih => exact .when v b _ (fun e => ih e) hu
 | c v x hx =>
   have hl : Later w w (Zf E.Z gs) (Zf E.Z (upd gs o none)) := ⟨Nat.le_refl _, fun _ _ _ => rfl, fun b hb _ => by
     rcases hb with hb | ⟨o', K, hb⟩
     · exact .inl hb
     · rw [upd_apply] at hb
       split at hb
       · cases hb
       · exact .inr ⟨o', K, hb⟩⟩
   exact .c v x (hx.later hl)
 | pim ad xs g hb hlt hc ho' hh => exact (RA.pim (gs := gs) (h := h) ad xs g hb hlt hc ho' hh).frz1_ok R ho rfl
 | ptr o' off b K ty cells ho' hg => exact (RA.ptr (w := w) (Z := Zf E.Z gs) o' off b K ty cells ho' hg).frz1_ok R ho rfl
 | rp ad o' L i off ty sz n f ho' hL hv => exact (RA.rp (w := w) (Z := Zf E.Z gs) ad o' L i off ty sz n f ho' hL hv).frz1_ok R ho rfl
 | own A k c o' L ty sz n f ho' hL hv => exact (RA.own (w := w) (Z := Zf E.Z gs) A k c o' L ty sz n f ho' hL hv).frz1_ok R ho rfl
 | osub A k' c o' L off k ty sz n f ho' hL hv => exact (RA.osub (w := w) (Z := Zf E.Z gs) A k' c o' L off k ty sz n f ho' hL hv).frz1_ok R ho rfl
 | emp A => exact .emp A
 | fn f' cs os hl' hp hh _ => exact (RA.fn (w := w) (Z := Zf E.Z gs) f' cs os hl' hp hh).frz1_ok R ho rfl
 | mref o' b K es clock ho' hg => exact (RA.mref (w := w) (Z := Zf E.Z gs) o' b K es clock ho' hg).frz1_ok R ho rfl
 | iref o' b K m since seen last ho' hg => exact (RA.iref (w := w) (Z := Zf E.Z gs) o' b K m since seen last ho' hg).frz1_ok R ho rfl
 | bs o' n' b K ty cells ho' hg => exact (RA.bs (w := w) (Z := Zf E.Z gs) o' n' b K ty cells ho' hg).frz1_ok R ho rfl
theorem weak_freeze [Glb] {fo : List Nat} (o : Nat) (hfo : o ∉ fo) (ty : TypeId) (sz n : Nat) (f : Nat → List CV) (ho : h o = .row ty sz n f) : Weak fo s h (frzS o sz n f s) (frzH o sz n f h) := by
 intro E nt a w I ⟨gs, R⟩
 have hz : ∀ b, Zf E.Z (upd gs o none) b → Zf E.Z gs b := by
   intro b hb
   rcases hb with hb | ⟨o', K, hb⟩
   · exact .inl hb
   · rw [upd_apply] at hb
     split at hb
     · cases hb
     · exact .inr ⟨o', K, hb⟩
 have hl : Later w w (Zf E.Z gs) (Zf E.Z (upd gs o none)) := ⟨Nat.le_refl _, fun _ _ _ => rfl, fun b hb _ => hz b hb⟩
 have sub : ∀ o' b K', upd gs o none o' = some (b, K') → gs o' = some (b, K') := fun o' b K' e => by
   rw [upd_apply] at e
   split at e
   · cases e
   · exact e
 have hrk : Refs E.h0 E.gs0 (frzH o sz n f h) (upd gs o none) := by
   refine ⟨fun o' ty' cells e => ?_, fun o' ty' sz' n' f' e => ?_, fun o' es c e => ?_, fun o' m s l t e => ?_⟩
   · obtain ⟨⟨t1, c1, q1⟩, q2⟩ := R.refs.box o' ty' cells e
     have hne : o' ≠ o := fun e' => hfo (e' ▸ I o' (by rw [e]; simp))
     exact ⟨⟨t1, c1.map (AV.frz o sz n f), by simp [frzH, hne, q1, AObj.frz]⟩, by rw [upd_ne _ _ _ _ hne]; exact q2⟩
   · obtain ⟨n1, f1, q1, q2, q3⟩ := R.refs.row o' ty' sz' n' f' e
     have hne : o' ≠ o := fun e' => hfo (e' ▸ I o' (by rw [e]; simp))
     exact ⟨n1, f1, by simp [frzH, hne, q1, AObj.frz], q2, by rw [upd_ne _ _ _ _ hne]; exact q3⟩
   · obtain ⟨⟨e1, c1, q1⟩, q2⟩ := R.refs.map o' es c e
     have hne : o' ≠ o := fun e' => hfo (e' ▸ I o' (by rw [e]; simp))
     exact ⟨⟨_, c1, by simp only [frzH, hne, if_false, q1, AObj.frz]; rfl⟩, by rw [upd_ne _ _ _ _ hne]; exact q2⟩
   · obtain ⟨⟨m1, s1, l1, t1, q1⟩, q2⟩ := R.refs.iter o' m s l t e
     have hne : o' ≠ o := fun e' => hfo (e' ▸ I o' (by rw [e]; simp))
     exact ⟨⟨m1, s1, l1, t1, by simp only [frzH, hne, if_false, q1, AObj.frz]⟩, by rw [upd_ne _ _ _ _ hne]; exact q2⟩
 refine ⟨upd gs o none, R.below, R.zlt, R.zd, R.glob, fun o' b K e => R.fresh o' b K (sub _ _ _ e), fun o1 o2 b K1 K2 e1 e2 => R.inj o1 o2 b K1 K2 (sub _ _ _ e1) (sub _ _ _ e2), fun q => ?_, fun t => (R.slots t).frz_ok R ho, R.size, R.defers, hrk⟩
 by_cases hq : q = o
 · subst hq
   simp only [frzH, if_true]
   exact upd_same _ _ _
 · have hob := R.objs q
   have e1 : frzH o sz n f h q = (h q).frz o sz n f := by simp [frzH, hq]
   have e2 : upd gs o none q = gs q := upd_ne _ _ _ _ hq
   rw [e1]
   cases hx : h q with
   | gone =>
     rw [hx] at hob
     exact e2.trans hob
   | blk b ob =>
     rw [hx] at hob
     obtain ⟨K', g1, g2⟩ := hob
     exact ⟨K', e2.trans g1, g2⟩
   | box ty' cells =>
     rw [hx] at hob
     obtain ⟨b, K', cur, g1, g2, g3, g4, g5⟩ := hob
     refine ⟨b, K', cur, e2.trans g1, g2, by simpa using g3, fun j hj => g4 j (by simpa using hj), fun j hj => ?_⟩
     have hj' : j < cells.length := by simpa using hj
     have := (g5 j hj').frz_ok R ho
     rw [getD_lt hj'] at this
     rw [getD_lt hj, List.getElem_map]
     exact this
   | map es c =>
     rw [hx] at hob
     obtain ⟨b, K', ents, g1, g2, g3, g4, g5⟩ := hob
     have hg : ∀ i, i < es.length → (es.map fun e => (e.1, e.2.1, e.2.2.frz o sz n f)).getD i (undef, 0, default) = ((es.getD i (undef, 0, default)).1, (es.getD i (undef, 0, default)).2.1, (es.getD i (undef, 0, default)).2.2.frz o sz n f) := fun i hi => by
       rw [getD_lt (by simpa using hi), getD_lt hi, List.getElem_map]
     refine ⟨b, K', ents, e2.trans g1, g2, by simpa using g3, fun j hj => ?_, fun j hj => ?_⟩
     · have hj' : j < es.length := by simpa using hj
       rw [hg j hj']
       exact g4 j hj'
     · have hj' : j < es.length := by simpa using hj
       rw [hg j hj']
       exact (g5 j hj').frz_ok R ho
   | iter m s l t =>
     rw [hx] at hob
     obtain ⟨b, K', bm, Km, es, c, g1, g2, g3, g4⟩ := hob
     have hne : m ≠ o := fun e => by subst e; rw [ho] at g2; cases g2
     exact ⟨b, K', bm, Km, _, c, e2.trans g1, by simp only [frzH, hne, if_false, g2, AObj.frz]; rfl, by rw [upd_ne _ _ _ _ hne]; exact g3, g4⟩
   | row ty' sz' n' f' =>
     rw [hx] at hob
     rcases hob with q1 | ⟨b', K', cur, q1, q2, q3, q4, q5, q6, q7, q8⟩
     · exact .inl (e2.trans q1)
     · exact .inr ⟨b', K', cur, e2.trans q1, q2, q3, q4, q5, q6, q7, fun i j hi hj => (q8 i j hi hj).later hl⟩
end
end Go.Am
namespace Go.Am
open Go.RowKit
def ofL : List (Nat × AV) → Slots
 | [] => fun _ => .c .any
 | (k, v) :: r => upd (ofL r) k v
def ofH : List (Nat × AObj) → AH
 | [] => fun _ => .gone
 | (k, v) :: r => upd (ofH r) k v
theorem ofL_nil (t : Nat) : ofL [] t = .c .any := rfl
theorem ofL_cons (k : Nat) (v : AV) (r : List (Nat × AV)) (t : Nat) : ofL ((k, v) :: r) t = if t = k then v else ofL r t := rfl
theorem ofH_nil (t : Nat) : ofH [] t = .gone := rfl
theorem ofH_cons (k : Nat) (v : AObj) (r : List (Nat × AObj)) (t : Nat) : ofH ((k, v) :: r) t = if t = k then v else ofH r t := rfl
theorem keepS_eq {s : Slots} : ∀ {l : List (Nat × AV)}, (∀ p ∈ l, s p.1 = p.2) → keepS (l.map Prod.fst) s = ofL l
 | [], _ => by funext t; simp [keepS, ofL]
 | (k, v) :: r, h => by
   have ih := keepS_eq (s := s) (l := r) fun p hp => h p (List.mem_cons_of_mem _ hp)
   funext t
   have h2 := congrFun ih t
   have hk := h (k, v) (List.mem_cons_self ..)
   rw [keepS_apply] at h2 ⊢
   rw [ofL_cons]
   by_cases e : t = k
   · subst e; simpa using hk
   · rw [if_neg e, ← h2]
     have : (t ∈ List.map Prod.fst ((k, v) :: r)) = (t ∈ List.map Prod.fst r) := by rw [List.map_cons, List.mem_cons, eq_iff_iff]; exact ⟨fun q => q.resolve_left e, .inr⟩
     simp only [this]
theorem keepH_eq {s : AH} : ∀ {l : List (Nat × AObj)}, (∀ p ∈ l, s p.1 = p.2) → keepH (l.map Prod.fst) s = ofH l
 | [], _ => by funext t; simp [keepH, ofH]
 | (k, v) :: r, h => by
   have ih := keepH_eq (s := s) (l := r) fun p hp => h p (List.mem_cons_of_mem _ hp)
   funext t
   have h2 := congrFun ih t
   have hk := h (k, v) (List.mem_cons_self ..)
   rw [keepH_apply] at h2 ⊢
   rw [ofH_cons]
   by_cases e : t = k
   · subst e; simpa using hk
   · rw [if_neg e, ← h2]
     have : (t ∈ List.map Prod.fst ((k, v) :: r)) = (t ∈ List.map Prod.fst r) := by rw [List.map_cons, List.mem_cons, eq_iff_iff]; exact ⟨fun q => q.resolve_left e, .inr⟩
     simp only [this]
def refsIn (os : List Nat) (l : List AV) : Bool := l.all fun x => x.refsw.all fun o => decide (o ∈ os)
def boxIn (os : List Nat) : AObj → Bool
 | .box _ cells => refsIn os cells
 | .map es _ => refsIn os (es.map fun e => e.2.2)
 | .iter m _ _ _ => decide (m ∈ os)
 | _ => true
def objLe : AObj → AObj → Prop
 | .row ty sz n f, .row ty' sz' n' f' => ty = ty' ∧ sz = sz' ∧ n = n' ∧ ∀ i, i < n → Subs (f i) (f' i)
 | x, y => x = y
theorem Subs.of_eq {xs ys : List CV} (h : xs = ys) : Subs xs ys := h ▸ Subs.refl xs
theorem objLe_row {ty : TypeId} {sz n : Nat} {f f' : Nat → List CV} (h : ∀ i, i < n → f i = f' i) : objLe (.row ty sz n f) (.row ty sz n f') := ⟨rfl, rfl, rfl, fun i hi => Subs.of_eq (h i hi)⟩
theorem objLe_rown {ty : TypeId} {sz n n' : Nat} {f f' : Nat → List CV} (hn : n = n') (h : ∀ i, i < n → f i = f' i) : objLe (.row ty sz n f) (.row ty sz n' f') := ⟨rfl, rfl, hn, fun i hi => Subs.of_eq (h i hi)⟩
theorem objLe_refl (x : AObj) : objLe x x := by
 cases x with
 | row ty sz n f => exact ⟨rfl, rfl, rfl, fun i _ => Subs.refl _⟩
 | _ => exact rfl
theorem objLe_of {x y : AObj} (e : x = y) : objLe x y := e ▸ objLe_refl x
theorem objLe_box {ty : TypeId} {c : List AV} {y : AObj} (h : objLe (.box ty c) y) : y = .box ty c := by cases y <;> simp_all [objLe]
theorem objLe_gone {y : AObj} (h : objLe .gone y) : y = .gone := by cases y <;> simp_all [objLe]
theorem objLe_blk {b : Nat} {ob : Obj} {y : AObj} (h : objLe (.blk b ob) y) : y = .blk b ob := by cases y <;> simp_all [objLe]
theorem objLe_map {es : List (Value × Nat × AV)} {c : Nat} {y : AObj} (h : objLe (.map es c) y) : y = .map es c := by cases y <;> simp_all [objLe]
theorem objLe_iter {m s t : Nat} {l : List Nat} {y : AObj} (h : objLe (.iter m s l t) y) : y = .iter m s l t := by cases y <;> simp_all [objLe]
theorem objLe_rowx {ty : TypeId} {sz n : Nat} {f : Nat → List CV} {y : AObj} (h : objLe (.row ty sz n f) y) : ∃ f', y = .row ty sz n f' ∧ ∀ i, i < n → Subs (f i) (f' i) := by
 cases y <;> simp only [objLe, reduceCtorEq] at h
 obtain ⟨rfl, rfl, rfl, h⟩ := h
 exact ⟨_, rfl, h⟩
theorem RA.le {w : World} {Z : Nat → Prop} {h h' : AH} {gs : Gs} (hl : ∀ o, objLe (h o) (h' o)) {v : Value} {x : AV} (hx : RA w Z h gs v x) : RA w Z h' gs v x := by
 induction hx with
 | c v x hx => exact .c v x hx
 | agg cs xs hl ho hh ih => exact .agg cs xs hl ho ih
 | pim a xs g hb hlt hc ho hh => exact .pim a xs g hb hlt hc ho hh
 | ptr o off b K ty cells ho hg =>
   have := hl o
   rw [ho] at this
   exact .ptr o off b K ty cells (objLe_box this) hg
 | rp ad o L i off ty sz n f ho hL hv =>
   have := hl o
   rw [ho] at this
   obtain ⟨f', e, _⟩ := objLe_rowx this
   exact .rp ad o L i off ty sz n f' e hL hv
 | own A k c o L ty sz n f ho hL hv =>
   have := hl o
   rw [ho] at this
   obtain ⟨f', e, _⟩ := objLe_rowx this
   exact .own A k c o L ty sz n f' e hL hv
 | osub A k' c o L off k ty sz n f ho hL hv =>
   have := hl o
   rw [ho] at this
   obtain ⟨f', e, _⟩ := objLe_rowx this
   exact .osub A k' c o L off k ty sz n f' e hL hv
 | emp A => exact .emp A
 | fn f cs ps hl' hp hh ih => exact .fn f cs ps hl' hp ih
 | mref o b K es clock ho hg =>
   have := hl o
   rw [ho] at this
   exact .mref o b K es clock (objLe_map this) hg
 | iref o b K m since seen last ho hg =>
   have := hl o
   rw [ho] at this
   exact .iref o b K m since seen last (objLe_iter this) hg
 | bs o n b K ty cells ho hg =>
   have := hl o
   rw [ho] at this
   exact .bs o n b K ty cells (objLe_box this) hg
 | when v b x hx hu ih => exact .when v b x ih hu
theorem weak_rows [Glb] {fo : List Nat} {s : Slots} {h h' : AH} (hl : ∀ o, objLe (h o) (h' o)) : Weak fo s h s h' := by
 intro E nt a w I ⟨gs, R⟩
 have hrk : Refs E.h0 E.gs0 h' gs := by
   refine ⟨fun o ty cells e => ?_, fun o ty sz n f e => ?_, fun o es c e => ?_, fun o m s l t e => ?_⟩
   · obtain ⟨⟨t1, c1, q1⟩, q2⟩ := R.refs.box o ty cells e
     have := hl o
     rw [q1] at this
     exact ⟨⟨t1, c1, objLe_box this⟩, q2⟩
   · obtain ⟨n1, f1, q1, q2, q3⟩ := R.refs.row o ty sz n f e
     have := hl o
     rw [q1] at this
     obtain ⟨f', e', _⟩ := objLe_rowx this
     exact ⟨n1, f', e', q2, q3⟩
   · obtain ⟨⟨e1, c1, q1⟩, q2⟩ := R.refs.map o es c e
     have := hl o
     rw [q1] at this
     exact ⟨⟨e1, c1, objLe_map this⟩, q2⟩
   · obtain ⟨⟨m1, s1, l1, t1, q1⟩, q2⟩ := R.refs.iter o m s l t e
     have := hl o
     rw [q1] at this
     exact ⟨⟨m1, s1, l1, t1, objLe_iter this⟩, q2⟩
 refine ⟨gs, R.below, R.zlt, R.zd, R.glob, R.fresh, R.inj, fun o => ?_, fun t => (R.slots t).le hl, R.size, R.defers, hrk⟩
 have ho := R.objs o
 have hx := hl o
 cases e : h o with
 | gone =>
   rw [e] at ho hx
   rw [objLe_gone hx]
   exact ho
 | blk b ob =>
   rw [e] at ho hx
   rw [objLe_blk hx]
   exact ho
 | box ty cells =>
   rw [e] at ho hx
   rw [objLe_box hx]
   obtain ⟨b, K, cur, q1, q2, q3, q4, q5⟩ := ho
   exact ⟨b, K, cur, q1, q2, q3, q4, fun j hj => (q5 j hj).le hl⟩
 | map es c =>
   rw [e] at ho hx
   rw [objLe_map hx]
   obtain ⟨b, K, ents, q1, q2, q3, q4, q5⟩ := ho
   exact ⟨b, K, ents, q1, q2, q3, q4, fun j hj => (q5 j hj).le hl⟩
 | iter m s l t =>
   rw [e] at ho hx
   rw [objLe_iter hx]
   obtain ⟨b, K, bm, Km, es, c, q1, q2, q3, q4⟩ := ho
   have := hl m
   rw [q2] at this
   exact ⟨b, K, bm, Km, es, c, q1, objLe_map this, q3, q4⟩
 | row ty sz n f =>
   rw [e] at ho hx
   obtain ⟨f', e', hf⟩ := objLe_rowx hx
   rw [e']
   rcases ho with ho | ⟨b, K, cur, q1, q2, q3, q4, q5, q6, q7, q8⟩
   · exact .inl ho
   · refine .inr ⟨b, K, cur, q1, q2, q3, q4, q5, fun i hi => ?_, q7, fun i j hi hj => ?_⟩
     · rw [← (hf i hi).length]; exact q6 i hi
     · exact (hf i hi).get j (by rw [q6 i hi]; exact hj) _ _ _ (q8 i j hi hj)
theorem ofH_le {h : AH} : ∀ {l : List (Nat × AObj)}, (∀ p ∈ l, objLe (h p.1) p.2) → ∀ o, o ∈ l.map Prod.fst → objLe (h o) (ofH l o)
 | (k, v) :: r, hl, o, ho => by
   rw [ofH_cons]
   by_cases e : o = k
   · subst e
     rw [if_pos rfl]
     exact hl (o, v) (List.mem_cons_self ..)
   · rw [if_neg e]
     refine ofH_le (fun p hp => hl p (List.mem_cons_of_mem _ hp)) o ?_
     rw [List.map_cons, List.mem_cons] at ho
     exact ho.resolve_left e
theorem ofH_mem : ∀ {l : List (Nat × AObj)} (o : Nat), o ∈ l.map Prod.fst → ∃ p ∈ l, ofH l o = p.2
 | (k, v) :: r, o, ho => by
   rw [ofH_cons]
   by_cases e : o = k
   · exact ⟨(k, v), List.mem_cons_self .., by rw [if_pos e]⟩
   · rw [if_neg e]
     rw [List.map_cons, List.mem_cons] at ho
     obtain ⟨p, hp, e2⟩ := ofH_mem o (ho.resolve_left e)
     exact ⟨p, List.mem_cons_of_mem _ hp, e2⟩
theorem ofH_out : ∀ {l : List (Nat × AObj)} (o : Nat), o ∉ l.map Prod.fst → ofH l o = .gone
 | [], o, _ => rfl
 | (k, v) :: r, o, ho => by
   rw [List.map_cons, List.mem_cons, not_or] at ho
   rw [ofH_cons, if_neg ho.1]
   exact ofH_out o ho.2
theorem boxIn_refsM {os : List Nat} {x : AObj} (h : boxIn os x = true) {o : Nat} (ho : o ∈ x.refsM) : o ∈ os := by
 cases x with
 | map es c =>
   simp only [AObj.refsM, List.mem_flatMap] at ho
   obtain ⟨e, he, ho⟩ := ho
   unfold boxIn refsIn at h
   rw [List.all_eq_true] at h
   have := h e.2.2 (List.mem_map_of_mem he)
   rw [List.all_eq_true] at this
   simpa using this o ho
 | iter m s l t =>
   simp only [AObj.refsM, List.mem_singleton] at ho
   subst ho
   simpa [boxIn] using h
 | _ => simp [AObj.refsM] at ho
theorem weak_cut [Glb] {fo : List Nat} {s : Slots} {h : AH} {l : List (Nat × AV)} {b : List (Nat × AObj)} (hfo : (fo.all fun o => decide (o ∈ (b).map Prod.fst)) = true) (hs : ∀ p ∈ l, s p.1 = p.2) (hh : ∀ p ∈ b, objLe (h p.1) p.2) (h1 : refsIn (b.map Prod.fst) (l.map Prod.snd) = true) (h2 : ∀ p ∈ b, boxIn (b.map Prod.fst) p.2 = true) :
   Weak fo s h (ofL l) (ofH b) := by
 have hle : ∀ o, objLe (h o) ((fun o => if o ∈ b.map Prod.fst then ofH b o else h o) o) := by
   intro o
   by_cases e : o ∈ b.map Prod.fst
   · simp only [e, if_true]; exact ofH_le hh o e
   · simp only [e, if_false]; exact objLe_refl _
 refine (weak_rows hle).trans ?_
 have hk : Keep (l.map Prod.fst) (b.map Prod.fst) s (fun o => if o ∈ b.map Prod.fst then ofH b o else h o) := by
   constructor
   · intro t ht o ho
     rw [List.mem_map] at ht
     obtain ⟨p, hp, rfl⟩ := ht
     rw [hs p hp] at ho
     unfold refsIn at h1
     rw [List.all_eq_true] at h1
     have := h1 p.2 (List.mem_map_of_mem hp)
     rw [List.all_eq_true] at this
     simpa using this o ho
   · intro o ho ty cells e x hx o' ho'
     simp only [ho, if_true] at e
     obtain ⟨p, hp, e2⟩ := ofH_mem o ho
     rw [e2] at e
     have := h2 p hp
     rw [e] at this
     unfold boxIn refsIn at this
     rw [List.all_eq_true] at this
     have := this x hx
     rw [List.all_eq_true] at this
     simpa using this o' ho'
   · intro o ho o' ho'
     simp only [ho, if_true] at ho'
     obtain ⟨p, hp, e2⟩ := ofH_mem o ho
     rw [e2] at ho'
     exact boxIn_refsM (h2 p hp) ho'
 have := weak_keep (fo := fo) hk (fun o ho => by rw [List.all_eq_true] at hfo; simpa using hfo o ho)
 rw [keepS_eq hs] at this
 have e : keepH (b.map Prod.fst) (fun o => if o ∈ b.map Prod.fst then ofH b o else h o) = ofH b := by
   funext o
   rw [keepH_apply]
   by_cases e : o ∈ b.map Prod.fst
   · simp only [e, if_true]
   · simp only [e, if_false]; exact (ofH_out o e).symm
 rwa [e] at this
theorem awp_for [Glb] {P : Program} {nt : Nat} {fo : List Nat} {Q : APost} {s : Slots} {h : AH} {c : Code} {ι : Type} (S : ι → List (Nat × AV)) (H : ι → List (Nat × AObj)) (m : ι → Nat) (J : ι → Prop) (i0 : ι) (h0 : J i0) (hs : ∀ p ∈ S i0, s p.1 = p.2) (hh : ∀ p ∈ H i0, objLe (h p.1) p.2)
   (hfo : ∀ i, J i → (fo.all fun o => decide (o ∈ (H i).map Prod.fst)) = true) (hr : ∀ i, J i → refsIn ((H i).map Prod.fst) ((S i).map Prod.snd) = true) (hb : ∀ i, J i → ((H i).all fun p => boxIn ((H i).map Prod.fst) p.2) = true)
   (round : ∀ i, J i → AWp P nt fo c (thenQ (fun s' h' => ∃ j, J j ∧ m j < m i ∧ (∀ p ∈ S j, s' p.1 = p.2) ∧ (∀ p ∈ H j, objLe (h' p.1) p.2)) Q) (ofL (S i)) (ofH (H i))) : AWp P nt fo (.loop c) Q s h := by
 intro E a w I R
 refine wp_loop_ghost (fun n a w => ∃ i, J i ∧ m i = n ∧ Rel E nt (ofL (S i)) (ofH (H i)) a w) (m i0) ⟨i0, h0, rfl, weak_cut (hfo i0 h0) hs hh (hr i0 h0) (List.all_eq_true.1 (hb i0 h0)) E nt a w I R⟩ ?_
 rintro n a w ⟨i, hj, rfl, R⟩
 refine wp_mono (round i hj E a w I R) fun e a' w' ⟨s', h', q, R'⟩ => ?_
 cases e with
 | normal =>
   obtain ⟨j, q1, q2, q3, q4⟩ := q
   exact ⟨m j, q2, j, q1, rfl, weak_cut (hfo j q1) q3 q4 (hr j q1) (List.all_eq_true.1 (hb j q1)) E nt a' w' I R'⟩
 | _ => exact ⟨s', h', q, R'⟩
theorem awp_cut [Glb] {P : Program} {nt : Nat} {fo : List Nat} {Q : APost} {s : Slots} {h : AH} {c : Code} (l : List (Nat × AV)) (b : List (Nat × AObj)) (hs : ∀ p ∈ l, s p.1 = p.2) (hh : ∀ p ∈ b, objLe (h p.1) p.2)
   (hfo : (fo.all fun o => decide (o ∈ b.map Prod.fst)) = true) (h1 : refsIn (b.map Prod.fst) (l.map Prod.snd) = true) (h2 : (b.all fun p => boxIn (b.map Prod.fst) p.2) = true) (hn : AWp P nt fo c Q (ofL l) (ofH b)) : AWp P nt fo c Q s h := AWp.weak (weak_cut hfo hs hh h1 (List.all_eq_true.1 h2)) hn
theorem awp_frz [Glb] {P : Program} {nt : Nat} {fo : List Nat} {Q : APost} {s : Slots} {h : AH} {c : Code} (o : Nat) {ty : TypeId} {sz n : Nat} {f : Nat → List CV} (l : List (Nat × AV)) (b : List (Nat × AObj)) (ho : h o = .row ty sz n f) (hs : ∀ p ∈ l, frzS o sz n f s p.1 = p.2) (hh : ∀ p ∈ b, objLe (frzH o sz n f h p.1) p.2)
   (hof : (fo.all fun q => q != o) = true) (hfo : (fo.all fun o => decide (o ∈ b.map Prod.fst)) = true) (h1 : refsIn (b.map Prod.fst) (l.map Prod.snd) = true) (h2 : (b.all fun p => boxIn (b.map Prod.fst) p.2) = true) (hn : AWp P nt fo c Q (ofL l) (ofH b)) : AWp P nt fo c Q s h := AWp.weak ((weak_freeze o (fun hm => by rw [List.all_eq_true] at hof; simpa using hof o hm) ty sz n f ho).trans (weak_cut hfo hs hh h1 (List.all_eq_true.1 h2))) hn
theorem frzS_apply (o sz n : Nat) (f : Nat → List CV) (s : Slots) (t : Nat) : frzS o sz n f s t = (s t).frz o sz n f := rfl
theorem frzH_apply (o sz n : Nat) (f : Nat → List CV) (h : AH) (q : Nat) : frzH o sz n f h q = if q = o then .gone else (h q).frz o sz n f := rfl
theorem frz_c (o sz n : Nat) (f : Nat → List CV) (x : CV) : (AV.c x).frz o sz n f = .c x := rfl
theorem frz_ptr (o sz n : Nat) (f : Nat → List CV) (a b : Nat) : (AV.ptr a b).frz o sz n f = .ptr a b := rfl
theorem frz_emp (o sz n : Nat) (f : Nat → List CV) : AV.emp.frz o sz n f = .emp := rfl
theorem frz_own (o sz n : Nat) (f : Nat → List CV) (a L : Nat) : (AV.own a L).frz o sz n f = if a = o then (if L = n then .c (.im sz n f) else .c .any) else .own a L := rfl
theorem frz_agg (o sz n : Nat) (f : Nat → List CV) (xs : List AV) : (AV.agg xs).frz o sz n f = .agg (xs.map (AV.frz1 o sz n f)) := rfl
theorem frz_box (o sz n : Nat) (f : Nat → List CV) (ty : TypeId) (xs : List AV) : (AObj.box ty xs).frz o sz n f = .box ty (xs.map (AV.frz o sz n f)) := rfl
theorem frz_row (o sz n : Nat) (f : Nat → List CV) (ty : TypeId) (a b : Nat) (g : Nat → List CV) : (AObj.row ty a b g).frz o sz n f = .row ty a b g := rfl
section
variable {P : Program} {s : Slots} {h : AH} {G : Bool} {x : AV}
theorem k_move {y : Operand} (hx : ev s y = x) : aop0 P (.move y) (ev s) G x := hx.symm
theorem k_assign {y : Operand} (hx : ev s y = x) : aop0 P (.assign y) (ev s) G x := hx.symm
theorem k_pick {c y z : Operand} {u v w : AV} {b p q r : Bool} (h1 : ev s c = u) (h2 : ev s y = v) (h3 : ev s z = w) (e1 : u.strip = .bool b) (e2 : v.strip = .bool p) (e3 : w.strip = .bool q)
   (hw : G = true → u.wh = true ∧ (b = true → v.wh = true) ∧ (b = false → w.wh = true)) (hr : (bif b then p else q) = r) : aop0 P (.pick c y z) (ev s) G (.bool r) := by
 subst h1 h2 h3 hr
 exact ⟨b, p, q, e1, e2, e3, hw, rfl⟩
theorem k_bin {op : BinOp} {t t2 : TypeId} {y z : Operand} {u v : AV} {v1 v2 r : Value} (h1 : ev s y = u) (h2 : ev s z = v) (e1 : u.strip = .c (.raw v1)) (e2 : v.strip = .c (.raw v2)) (hb : bin op v1 v2 = some r)
   (hw : G = true → u.wh = true ∧ v.wh = true) : aop0 P (.binOp op t y z t2) (ev s) G (.c (.raw r)) := by
 subst h1 h2
 simp only [aop0, e1]
 exact ⟨v2, r, e2, .inl hb, hw, rfl⟩
theorem k_binR [Glb] {op : BinOp} {t t2 : TypeId} {y z : Operand} {u v : AV} {v1 v2 r : Value} (h1 : ev s y = u) (h2 : ev s z = v) (e1 : u.strip = .c (.raw v1)) (e2 : v.strip = .c (.raw v2)) (hb : RawBin P op t v1 v2 r)
   (hw : G = true → u.wh = true ∧ v.wh = true) : aop0 P (.binOp op t y z t2) (ev s) G (.c (.raw r)) := by
 subst h1 h2
 simp only [aop0, e1]
 exact ⟨v2, r, e2, .inr hb, hw, rfl⟩
theorem k_ptrNil {op : BinOp} {t t2 t' : TypeId} {y z : Operand} {u v : AV} {r : Bool} (h1 : ev s y = u) (h2 : ev s z = v) (ha : u.strip.isAddr = true) (e2 : v.strip = .c (.raw (.pointer none))) (hb : nilCmp op = some r) (hu : P.underlying t = some (.pointer t'))
   (hw : G = true → u.wh = true ∧ v.wh = true) : aop0 P (.binOp op t y z t2) (ev s) G (.bool r) := by
 subst h1 h2
 simp only [aop0]
 split
 · rename_i v1 e
   rw [e] at ha
   cases ha
 · exact .inl ⟨ha, e2, hw, r, hb, ⟨t', hu⟩, rfl⟩
theorem k_nil {y : Operand} {u : AV} (h1 : ev s y = u) (hw : G = true → u.wh = true) (hm : u.strip.isPtr = true) : aop0 P (.nilCheck y) (ev s) G u.strip := by
 subst h1
 exact ⟨hw, hm, rfl⟩
theorem k_idx {t : TypeId} {y z : Operand} {u v : AV} {b : ByteArray} {k : IntKind} {n m : Int} (ht : P.underlying t = some .string) (h1 : ev s y = u) (h2 : ev s z = v) (e1 : u.strip = .c (.raw (.string b))) (e2 : v.strip = .c (.raw (.int k n))) (hw : G = true → u.wh = true ∧ v.wh = true)
   (hn : G = true → 0 ≤ n ∧ n < (b.size : Int)) (hr : byteAt b n.toNat = m) : aop0 P (.index t y z) (ev s) G (.c (.raw (.int .u8 m))) := by
 subst h1 h2 hr
 exact ⟨ht, b, k, n, e1, e2, fun g => ⟨(hw g).1, (hw g).2, (hn g).1, (hn g).2⟩, rfl⟩
theorem k_mkF {f : FuncId} {caps : Array Operand} {us ps : List AV} (h1 : (caps.toList.map (ev s)) = us) (hw : G = true → (us.all AV.wh) = true) (hm : (us.map AV.strip) = ps) (hp : (ps.all fun x => x.flatP && x.one) = true) : aop0 P (.makeFunc (.func f) #[] caps) (ev s) G (.fn f ps) := by
 subst h1
 refine ⟨f, ps, rfl, rfl, fun g y hy => ?_, by rw [List.map_map] at hm; exact hm, hp, rfl⟩
 have := hw g
 rw [List.all_eq_true] at this
 exact this _ (List.mem_map_of_mem hy)
theorem k_binA {op : BinOp} {t t2 : TypeId} {y z : Operand} {u v : AV} {us vs : List Value} {r : Value} (h1 : ev s y = u) (h2 : ev s z = v) (e1 : u.strip.rawAgg = some us) (e2 : v.strip.rawAgg = some vs) (hb : AggBin P op t us vs r)
   (hw : G = true → u.wh = true ∧ v.wh = true) : aop0 P (.binOp op t y z t2) (ev s) G (.c (.raw r)) := by
 subst h1 h2
 simp only [aop0]
 split
 · rename_i v1 e
   rw [e] at e1
   cases e1
 · exact .inr ⟨us, vs, r, e1, e2, hb, hw, rfl⟩
theorem k_not {t : TypeId} {y : Operand} {u : AV} {b r : Bool} (h1 : ev s y = u) (e1 : u.strip = .bool b) (hw : G = true → u.wh = true) (hr : (!b) = r) : aop0 P (.unOp .not t y) (ev s) G (.bool r) := by
 subst h1 hr
 exact ⟨b, e1, hw, rfl⟩
theorem k_field {t : TypeId} {y : Operand} {f : Nat} {u : AV} {i : TI} {off sz : Nat} (h1 : ev s y = u) (ht : tinfo P t = some i) (hf : i.fields[f]? = some (off, sz)) (hz : (sz == 0) = false) (hx : addOff off u.strip = some x) (hw : G = true → u.wh = true) :
   aop0 P (.fieldAddr t y f) (ev s) G x := by
 subst h1
 exact ⟨i, off, sz, ht, hf, by simpa using hz, hx, hw⟩
theorem k_extract {y : Operand} {j : Nat} {u : AV} {xs : List CV} {c : CV} (h1 : ev s y = u) (e1 : u.strip = .c (.tup xs)) (hw : G = true → u.wh = true) (hl : (decide (j < xs.length)) = true) (hx : xs.getD j .any = c) : aop0 P (.extract y j) (ev s) G (.c c) := by
 subst h1 hx
 exact ⟨xs, e1, fun g => ⟨hw g, by simpa using hl⟩, rfl⟩
theorem k_build {t : TypeId} {parts : Array (Nat × Operand)} {i : TI} {ps : List (Nat × AV)} {cs : List AV} (ht : tinfo P t = some i) (h1 : i.agg = true) (h2 : i.zero.isEmpty = false) (h3 : i.fields.isEmpty = false) (h4 : (i.fields.all fun p => p.2 != 0) = true)
   (hp : (parts.toList.map fun p => (p.1, ev s p.2)) = ps) (hf : bfill i.fields (i.zero.map constAV1) (ps.map fun p => (p.1, p.2.strip)) = some cs) (hw : G = true → (ps.all fun p => p.2.wh) = true) : aop0 P (.build t parts) (ev s) G (.agg cs) := by
 subst hp
 refine .inr ⟨i, cs, ht, h1, ?_, ?_, ?_, ?_, ?_, rfl⟩
 · intro e; simp [e] at h2
 · intro e; simp [e] at h3
 · intro p hp
   rw [List.all_eq_true] at h4
   have := h4 p hp
   simpa using this
 · rw [List.map_map] at hf
   exact hf
 · intro g p hp
   have := hw g
   rw [List.all_eq_true] at this
   exact this (p.1, ev s p.2) (List.mem_map_of_mem (f := fun p => (p.1, ev s p.2)) hp)
theorem k_buildA {t el : TypeId} {parts : Array (Nat × Operand)} {i j : TI} {m : Nat} {ps : List (Nat × AV)} {cs : List AV} (ht : tinfo P t = some i) (hu : P.underlying t = some (.array m el)) (hj : tinfo P el = some j) (hj1 : j.size = 1) (h2 : i.zero.isEmpty = false)
   (hp : (parts.toList.map fun p => (p.1, ev s p.2)) = ps) (hf : bfill ((List.range m).map fun q => (q, 1)) (i.zero.map constAV1) (ps.map fun p => (p.1, p.2.strip)) = some cs) (hw : G = true → (ps.all fun p => p.2.wh) = true) : aop0 P (.build t parts) (ev s) G (.agg cs) := by
 subst hp
 refine .inl ⟨i, j, el, m, cs, ht, hu, hj, hj1, ?_, ?_, ?_, rfl⟩
 · intro e; simp [e] at h2
 · rw [← hf, List.map_map]; rfl
 · intro g p hp
   have := hw g
   rw [List.all_eq_true] at this
   exact this _ (List.mem_map.2 ⟨p, hp, rfl⟩)
theorem k_slice0 {t : TypeId} {i : TI} {j : TI} (ht : tinfo P t = some i) (h1 : i.slice = true) (hj : tinfo P i.elem = some j) : aop0 P (.buildSlice t 0 #[]) (ev s) G .emp := by
 refine ⟨i, j, [], ht, h1, hj, rfl, by simp, rfl, .inl rfl, ?_, rfl⟩
 intro _ p hp
 simp at hp
theorem k_sliceN {t : TypeId} {n : Nat} {parts : Array (Nat × Operand)} {i j : TI} {l : List (List CV)} (ht : tinfo P t = some i) (h1 : i.slice = true) (hj : tinfo P i.elem = some j) (hn : n = parts.size) (h0 : (n == 0) = false) (hz : j.zero.isEmpty = false) (hb : decide (n * j.size ≤ 2 ^ 24) = true)
   (hp : partsC (ev s) parts.toList 0 j.size = some l) (hw : G = true → ∀ p ∈ parts.toList, (ev s p.2).wh = true) : aop0 P (.buildSlice t n parts) (ev s) G (.c (.im j.size n fun i => l.getD i [])) := by
 have h0' : n ≠ 0 := by simpa using h0
 refine ⟨i, j, l, ht, h1, hj, hn, by simpa using hb, hp, .inr ?_, hw, by rw [if_neg h0']⟩
 intro e; simp [e] at hz
def loadM (h : AH) (i : TI) (G : Bool) (u x : AV) : Prop :=
 match u with
 | .pim xs => (G = true → i.size ≤ xs.length) ∧ x = loadC i xs
 | .c (.ptr xs) => (G = true → i.size ≤ xs.length) ∧ x = loadC i xs
 | .ptr o off => ∃ ty cells, h o = .box ty cells ∧ (G = true → off + i.size ≤ cells.length) ∧ x = loadA i (cells.drop off)
 | .rp o L k off => ∃ ty sz n f, h o = .row ty sz n f ∧ (G = true → L = n ∧ k < n ∧ off + i.size ≤ sz) ∧ x = loadC i ((f k).drop off)
 | _ => False
theorem k_load [Glb] {t : TypeId} {y : Operand} {u : AV} {i : TI} (h1 : ev s y = u) (ht : tinfo P t = some i) (hs : (i.agg || i.size == 1) = true) (hw : G = true → u.wh = true) (hx : loadM h i G u.strip x) : aop1 P (.load t y) (ev s) h G x := by
 subst h1
 exact ⟨i, ht, fun e => by simpa [e] using hs, hw, hx⟩
theorem lm_ptr {o off : Nat} {i : TI} {ty : TypeId} {cells : List AV} (hb : h o = .box ty cells) (hx : loadA i (cells.drop off) = x) (hl : G = true → off + i.size ≤ cells.length) : loadM h i G (.ptr o off) x := ⟨ty, cells, hb, hl, hx.symm⟩
theorem lm_pim {xs : List CV} {i : TI} (hx : loadC i xs = x) (hl : G = true → i.size ≤ xs.length) : loadM h i G (.pim xs) x := ⟨hl, hx.symm⟩
theorem lm_cptr {xs : List CV} {i : TI} (hx : loadC i xs = x) (hl : G = true → i.size ≤ xs.length) : loadM h i G (.c (.ptr xs)) x := ⟨hl, hx.symm⟩
theorem lm_rp {o L k off : Nat} {i : TI} {ty : TypeId} {sz n : Nat} {f : Nat → List CV} (hb : h o = .row ty sz n f) (hx : loadC i ((f k).drop off) = x) (hl : G = true → L = n ∧ k < n ∧ off + i.size ≤ sz) : loadM h i G (.rp o L k off) x := ⟨ty, sz, n, f, hb, hl, hx.symm⟩
def lenM (P : Program) (h : AH) (t : TypeId) (G : Bool) (u x : AV) : Prop :=
 match u with
 | .c (.im _ n _) => (∃ el, P.underlying t = some (.slice el)) ∧ x = .int n
 | .own o L => (∃ el, P.underlying t = some (.slice el)) ∧ ∃ ty sz n f, h o = .row ty sz n f ∧ (G = true → L = n) ∧ x = .int L
 | .osub o L _ k => (∃ el, P.underlying t = some (.slice el)) ∧ ∃ ty sz n f, h o = .row ty sz n f ∧ (G = true → L = n) ∧ x = .int k
 | .emp => (∃ el, P.underlying t = some (.slice el)) ∧ x = .int 0
 | .c .emp => (∃ el, P.underlying t = some (.slice el)) ∧ x = .int 0
 | .mref o => (∃ kt et, P.underlying t = some (.map kt et)) ∧ ∃ es c, h o = .map es c ∧ x = .int es.length
 | .c (.mp es) => (∃ kt et, P.underlying t = some (.map kt et)) ∧ x = .int es.length
 | .bs _ n => (∃ el, P.underlying t = some (.slice el)) ∧ x = .int n
 | .c (.raw (.string s)) => P.underlying t = some .string ∧ x = .int s.size
 | _ => False
theorem nm_bs {o n : Nat} {t el : TypeId} (hu : P.underlying t = some (.slice el)) : lenM P h t G (.bs o n) (.int n) := ⟨⟨el, hu⟩, rfl⟩
theorem k_len [Glb] {y : Operand} {t : TypeId} {u : AV} (h1 : ev s y = u) (hw : G = true → u.wh = true) (hx : lenM P h t G u.strip x) : aop1 P (.call { callee := .builtin .len, args := #[y], argTypes := #[t] }) (ev s) h G x := by
 subst h1
 exact ⟨y, t, rfl, rfl, hw, hx⟩
theorem nm_im {sz n : Nat} {f : Nat → List CV} {t el : TypeId} (hu : P.underlying t = some (.slice el)) : lenM P h t G (.c (.im sz n f)) (.int n) := ⟨⟨el, hu⟩, rfl⟩
theorem nm_emp {t el : TypeId} (hu : P.underlying t = some (.slice el)) : lenM P h t G .emp (.int 0) := ⟨⟨el, hu⟩, rfl⟩
theorem nm_cemp {t el : TypeId} (hu : P.underlying t = some (.slice el)) : lenM P h t G (.c .emp) (.int 0) := ⟨⟨el, hu⟩, rfl⟩
theorem nm_mref {o : Nat} {t kt et : TypeId} {es : List (Value × Nat × AV)} {c : Nat} (hu : P.underlying t = some (.map kt et)) (hb : h o = .map es c) : lenM P h t G (.mref o) (.int es.length) := ⟨⟨kt, et, hu⟩, es, c, hb, rfl⟩
theorem nm_mp {t kt et : TypeId} {es : List (Value × CV)} (hu : P.underlying t = some (.map kt et)) : lenM P h t G (.c (.mp es)) (.int es.length) := ⟨⟨kt, et, hu⟩, rfl⟩
theorem nm_own {o L : Nat} {t el : TypeId} {ty : TypeId} {sz n : Nat} {f : Nat → List CV} (hu : P.underlying t = some (.slice el)) (hb : h o = .row ty sz n f) (hl : G = true → L = n) : lenM P h t G (.own o L) (.int L) := ⟨⟨el, hu⟩, ty, sz, n, f, hb, hl, rfl⟩
theorem nm_osub {o L off k : Nat} {t el : TypeId} {ty : TypeId} {sz n : Nat} {f : Nat → List CV} (hu : P.underlying t = some (.slice el)) (hb : h o = .row ty sz n f) (hl : G = true → L = n) : lenM P h t G (.osub o L off k) (.int k) := ⟨⟨el, hu⟩, ty, sz, n, f, hb, hl, rfl⟩
theorem nm_str {b : ByteArray} {t : TypeId} (hu : P.underlying t = some .string) : lenM P h t G (.c (.raw (.string b))) (.int b.size) := ⟨hu, rfl⟩
def idxM (h : AH) (j : TI) (n : Int) (G : Bool) (u x : AV) : Prop :=
 match u with
 | .c (.im sz m f) => (G = true → sz = j.size ∧ 0 ≤ n ∧ n < m) ∧ x = .pim (f n.toNat)
 | .own o L => ∃ ty sz m f, h o = .row ty sz m f ∧ (G = true → L = m ∧ sz = j.size ∧ 0 ≤ n ∧ n < m) ∧ x = .rp o L n.toNat 0
 | .osub o L off q => ∃ ty sz m f, h o = .row ty sz m f ∧ (G = true → L = m ∧ sz = j.size ∧ 0 ≤ n ∧ n < q) ∧ x = .rp o L (off + n.toNat) 0
 | .bs o m => (G = true → j.size = 1 ∧ 0 ≤ n ∧ n < m) ∧ x = .ptr o n.toNat
 | _ => False
theorem im_bs {o m k : Nat} {j : TI} {n : Int} (hn : n.toNat = k) (hl : G = true → j.size = 1 ∧ 0 ≤ n ∧ n < m) : idxM h j n G (.bs o m) (.ptr o k) := ⟨hl, by rw [hn]⟩
theorem k_index [Glb] {t : TypeId} {y z : Operand} {u v : AV} {i j : TI} {k : IntKind} {n : Int} (h1 : ev s y = u) (h2 : ev s z = v) (ht : tinfo P t = some i) (hs : i.slice = true) (hj : tinfo P i.elem = some j) (e2 : v.strip = .c (.raw (.int k n))) (hw : G = true → u.wh = true ∧ v.wh = true) (hx : idxM h j n G u.strip x) :
   aop1 P (.indexAddr t y z) (ev s) h G x := by
 subst h1 h2
 exact .inr ⟨i, j, k, n, ht, hs, hj, e2, hw, hx⟩
theorem k_idxA [Glb] {t el : TypeId} {y z : Operand} {u v : AV} {j : TI} {k : IntKind} {n : Int} {m : Nat} {xs c : List CV} (h1 : ev s y = u) (h2 : ev s z = v) (ht : P.underlying t = some (.array m el)) (hj : tinfo P el = some j) (hj1 : j.size = 1) (e2 : v.strip = .c (.raw (.int k n))) (hw : G = true → u.wh = true ∧ v.wh = true) (e1 : u.strip = .pim xs) (hn : G = true → 0 ≤ n ∧ n < m) (hc : xs.drop n.toNat = c) :
   aop1 P (.indexAddr t y z) (ev s) h G (.pim c) := by
 subst h1 h2 hc
 exact .inl ⟨el, m, j, k, n, xs, ht, hj, hj1, e2, hw, e1, hn, rfl⟩
theorem im_im {sz m : Nat} {f : Nat → List CV} {j : TI} {n : Int} {c : List CV} (hx : f n.toNat = c) (hl : G = true → sz = j.size ∧ 0 ≤ n ∧ n < m) : idxM h j n G (.c (.im sz m f)) (.pim c) := ⟨hl, by rw [hx]⟩
theorem im_own {o L k : Nat} {j : TI} {n : Int} {ty : TypeId} {sz m : Nat} {f : Nat → List CV} (hb : h o = .row ty sz m f) (hk : n.toNat = k) (hl : G = true → L = m ∧ sz = j.size ∧ 0 ≤ n ∧ n < m) : idxM h j n G (.own o L) (.rp o L k 0) := ⟨ty, sz, m, f, hb, hl, by rw [hk]⟩
theorem im_osub {o L off q k : Nat} {j : TI} {n : Int} {ty : TypeId} {sz m : Nat} {f : Nat → List CV} (hb : h o = .row ty sz m f) (hk : off + n.toNat = k) (hl : G = true → L = m ∧ sz = j.size ∧ 0 ≤ n ∧ n < q) : idxM h j n G (.osub o L off q) (.rp o L k 0) := ⟨ty, sz, m, f, hb, hl, by rw [hk]⟩
def bndOf (s : Slots) : Option Operand → Option AV
 | none => none
 | some z => some (ev s z)
def bnd (G : Bool) (d l : Nat) : Option AV → Prop
 | none => l = d
 | some v => (G = true → v.wh = true) ∧ ∃ k, v.strip = .c (.raw (.int k l))
theorem bd_no {d : Nat} : bnd G d d none := rfl
theorem bd_yes {d l : Nat} {v : AV} {k : IntKind} {n : Int} (hv : v.strip = .c (.raw (.int k n))) (hn : n = (l : Nat)) (hw : G = true → v.wh = true) : bnd G d l (some v) := ⟨hw, k, by rw [hv, hn]⟩
theorem bd_one {d : Nat} : bnd G d 1 (some (.c (.raw (.int .i64 1)))) := ⟨fun _ => rfl, .i64, rfl⟩
theorem bd_nat {d l : Nat} : bnd G d l (some (.c (.raw (.int .i64 (l : Nat))))) := ⟨fun _ => rfl, .i64, rfl⟩
theorem k_sl_im [Glb] {t : TypeId} {y : Operand} {lo hi : Option Operand} {u : AV} {L H : Option AV} {sz n l hh : Nat} {f : Nat → List CV} {i j : TI} (h1 : ev s y = u) (e1 : u.strip = .c (.im sz n f)) (h2 : bndOf s lo = L) (h3 : bndOf s hi = H) (ht : tinfo P t = some i) (hs : i.slice = true) (hj : tinfo P i.elem = some j)
   (b1 : bnd G 0 l L) (b2 : bnd G n hh H) (hw : G = true → u.wh = true) (hl : G = true → l ≤ hh ∧ sz = j.size ∧ hh ≤ n) : aop1 P (.slice t y lo hi none) (ev s) h G (.c (.im sz (hh - l) fun q => f (l + q))) := by
 subst h1 h2 h3
 refine ⟨l, hh, ?_, ?_, ?_, fun g => ⟨hw g, (hl g).1⟩, ?_⟩
 · intro z e; subst e; exact b1
 · intro e; subst e; exact b1
 · intro z e; subst e; exact b2
 · rw [e1]
   exact ⟨⟨i, j, ht, hs, hj, fun g => (hl g).2⟩, fun e => by subst e; exact b2, rfl⟩
theorem k_sl_own [Glb] {t : TypeId} {y : Operand} {lo hi : Option Operand} {u : AV} {L H : Option AV} {o M : Nat} {ty : TypeId} {sz n l hh : Nat} {f : Nat → List CV} {i j : TI} (h1 : ev s y = u) (e1 : u.strip = .own o M) (hb : h o = .row ty sz n f) (h2 : bndOf s lo = L) (h3 : bndOf s hi = H) (ht : tinfo P t = some i) (hs : i.slice = true) (hj : tinfo P i.elem = some j)
   (b1 : bnd G 0 l L) (b2 : bnd G n hh H) (hw : G = true → u.wh = true) (hl : G = true → l ≤ hh ∧ M = n ∧ sz = j.size ∧ hh ≤ n) : aop1 P (.slice t y lo hi none) (ev s) h G (.osub o M l (hh - l)) := by
 subst h1 h2 h3
 refine ⟨l, hh, ?_, ?_, ?_, fun g => ⟨hw g, (hl g).1⟩, ?_⟩
 · intro z e; subst e; exact b1
 · intro e; subst e; exact b1
 · intro z e; subst e; exact b2
 · rw [e1]
   exact ⟨ty, sz, n, f, hb, ⟨i, j, ht, hs, hj, fun g => (hl g).2.2⟩, fun g => (hl g).2.1, fun e => by subst e; exact b2, rfl⟩
theorem k_sl_osub [Glb] {t : TypeId} {y : Operand} {lo hi : Option Operand} {u : AV} {L H : Option AV} {o M off k : Nat} {ty : TypeId} {sz n l hh : Nat} {f : Nat → List CV} {i j : TI} (h1 : ev s y = u) (e1 : u.strip = .osub o M off k) (hb : h o = .row ty sz n f) (h2 : bndOf s lo = L) (h3 : bndOf s hi = H) (ht : tinfo P t = some i) (hs : i.slice = true) (hj : tinfo P i.elem = some j)
   (b1 : bnd G 0 l L) (b2 : bnd G k hh H) (hw : G = true → u.wh = true) (hl : G = true → l ≤ hh ∧ M = n ∧ sz = j.size ∧ hh ≤ k) : aop1 P (.slice t y lo hi none) (ev s) h G (.osub o M (off + l) (hh - l)) := by
 subst h1 h2 h3
 refine ⟨l, hh, ?_, ?_, ?_, fun g => ⟨hw g, (hl g).1⟩, ?_⟩
 · intro z e; subst e; exact b1
 · intro e; subst e; exact b1
 · intro z e; subst e; exact b2
 · rw [e1]
   exact ⟨ty, sz, n, f, hb, ⟨i, j, ht, hs, hj, fun g => (hl g).2.2⟩, fun g => (hl g).2.1, fun e => by subst e; exact b2, rfl⟩
theorem k_sl_emp [Glb] {t : TypeId} {y : Operand} {lo hi : Option Operand} {u : AV} {L H : Option AV} {i j : TI} (h1 : ev s y = u) (e1 : u.strip = .emp) (h2 : bndOf s lo = L) (h3 : bndOf s hi = H) (ht : tinfo P t = some i) (hs : i.slice = true) (hj : tinfo P i.elem = some j)
   (b1 : bnd G 0 0 L) (b2 : bnd G 0 0 H) (hw : G = true → u.wh = true) : aop1 P (.slice t y lo hi none) (ev s) h G .emp := by
 subst h1 h2 h3
 refine ⟨0, 0, ?_, ?_, ?_, fun g => ⟨hw g, Nat.le_refl _⟩, ?_⟩
 · intro z e; subst e; exact b1
 · intro e; rfl
 · intro z e; subst e; exact b2
 · rw [e1]
   exact ⟨⟨i, j, ht, hs, hj⟩, rfl, rfl⟩
theorem k_call [Glb] {f : FuncId} {args : Array Operand} {ats : Array TypeId} {us : List AV} {vs cs : List CV} {r : CV} (h1 : args.toList.map (ev s) = us) (h2 : (us.all fun u => u.strip.live h) = true) (h3 : (us.map fun u => u.strip.view h) = vs) (hw : G = true → (us.all AV.wh) = true)
   (hc : (r.flat || us.all fun u => u.strip.closedA) = true) (hs : Subs vs cs) (hp : G = true → APure P f cs r) : aop1 P (.call { callee := .value (.func f), args := args, argTypes := ats }) (ev s) h G (.c r) := by
 subst h1 h3
 rw [List.map_map] at hs
 refine ⟨cs, r, ?_, hs, ?_, hp, ?_, rfl⟩
 · intro y hy
   rw [List.all_eq_true] at h2
   exact h2 _ (List.mem_map_of_mem hy)
 · intro g y hy
   have := hw g
   rw [List.all_eq_true] at this
   exact this _ (List.mem_map_of_mem hy)
 · rw [Bool.or_eq_true] at hc
   rcases hc with hc | hc
   · exact .inl hc
   · refine .inr fun y hy => ?_
     rw [List.all_eq_true] at hc
     exact hc _ (List.mem_map_of_mem hy)
theorem k_callV [Glb] {f : FuncId} {tt : Tmp} {ut : AV} {args : Array Operand} {ats : Array TypeId} {us : List AV} {vs cs : List CV} {r : CV} (ht : ev s (.tmp tt) = ut) (htw : G = true → ut.wh = true) (hte : ut.strip = .c (.raw (.func (.func f) #[] #[]))) (h1 : args.toList.map (ev s) = us) (h2 : (us.all fun u => u.strip.live h) = true) (h3 : (us.map fun u => u.strip.view h) = vs) (hw : G = true → (us.all AV.wh) = true)
   (hc : (r.flat || us.all fun u => u.strip.closedA) = true) (hs : Subs vs cs) (hp : G = true → APure P f cs r) : aop1 P (.call { callee := .value (.tmp tt), args := args, argTypes := ats }) (ev s) h G (.c r) := by
 subst h1 h3 ht
 rw [List.map_map] at hs
 refine ⟨f, [], htw, .inl ⟨hte, rfl⟩, cs, r, ?_, by rw [List.append_nil]; exact hs, ?_, hp, ?_, rfl⟩
 · intro y hy
   rw [List.all_eq_true] at h2
   exact h2 _ (List.mem_map_of_mem hy)
 · intro g y hy
   have := hw g
   rw [List.all_eq_true] at this
   exact this _ (List.mem_map_of_mem hy)
 · rw [Bool.or_eq_true] at hc
   rcases hc with hc | hc
   · exact .inl hc
   · refine .inr fun y hy => ?_
     rw [List.all_eq_true] at hc
     exact hc _ (List.mem_map_of_mem hy)
theorem k_store_ptr {t : TypeId} {y z : Operand} {u v : AV} {i : TI} {o off : Nat} {ty : TypeId} {cells l cells' : List AV} (h1 : ev s y = u) (h2 : ev s z = v) (ht : tinfo P t = some i) (w1 : u.wh = true) (w2 : v.wh = true) (e1 : u.strip = .ptr o off) (hb : h o = .box ty cells) (hl : v.strip.cells = some l) (hn : l.length = i.size)
   (hx : setL cells off l = cells') (hle : off + i.size ≤ cells.length) : aop2 P (.store t y z) (ev s) h none o (.box ty cells') x := by
 subst h1 h2
 refine ⟨rfl, i, ht, w1, w2, ?_⟩
 rw [e1]
 exact ⟨rfl, ty, cells, l, hb, hl, hn, hle, by rw [hx]⟩
theorem k_store_rp {t : TypeId} {y z : Operand} {u v : AV} {i : TI} {o L k off : Nat} {ty : TypeId} {sz n : Nat} {f : Nat → List CV} {l : List CV} (h1 : ev s y = u) (h2 : ev s z = v) (ht : tinfo P t = some i) (w1 : u.wh = true) (w2 : v.wh = true) (e1 : u.strip = .rp o L k off) (hb : h o = .row ty sz n f) (hl : v.strip.closedCells = some l) (hn : l.length = i.size)
   (hle : L = n ∧ k < n ∧ off + i.size ≤ sz) : aop2 P (.store t y z) (ev s) h none o (.row ty sz n (upd f k (setLC (f k) off l))) x := by
 subst h1 h2
 refine ⟨rfl, i, ht, w1, w2, ?_⟩
 rw [e1]
 exact ⟨rfl, ty, sz, n, f, l, hb, hle.1, hle.2.1, hl, hn, hle.2.2, rfl⟩
theorem k_app_own {y z : Operand} {t : TypeId} {u v : AV} {i j : TI} {sz m n o L : Nat} {g f : Nat → List CV} {ty : TypeId} {d : Option Tmp} (h1 : ev s y = u) (h2 : ev s z = v) (ht : tinfo P t = some i) (hsl : i.slice = true) (hj : tinfo P i.elem = some j) (hz : (decide (0 < j.size) && j.zero.length == j.size) = true)
   (w1 : u.wh = true) (w2 : v.wh = true) (hsrc : srcOf h v.strip = some (sz, m, g)) (e1 : u.strip = .own o L) (hb : h o = .row ty j.size n f) (hc : (m = 0 ∨ sz = j.size) ∧ ty = i.elem ∧ L = n) (hle : n + m ≤ maxLen ∧ (n + m) * j.bytes ≤ 140737488355328) :
   aop2 P (.call { callee := .builtin .append, args := #[y, z], argTypes := #[t, t] }) (ev s) h d o (.row ty j.size (n + m) (fun q => if q < n then f q else g (q - n))) (.own o (n + m)) := by
 subst h1 h2
 rw [Bool.and_eq_true, decide_eq_true_eq, beq_iff_eq] at hz
 refine ⟨y, z, t, i, j, sz, m, g, rfl, rfl, ht, hsl, hj, hz.1, hz.2, w1, w2, hsrc, hc.1, ?_⟩
 rw [e1]
 exact ⟨rfl, ty, n, f, hb, hc.2.1, hc.2.2, hle.1, hle.2, rfl, rfl⟩
theorem k_app_emp {y z : Operand} {t : TypeId} {u v : AV} {i j : TI} {sz m d : Nat} {e0 : Option Tmp} {g : Nat → List CV} (h1 : ev s y = u) (h2 : ev s z = v) (ht : tinfo P t = some i) (hsl : i.slice = true) (hj : tinfo P i.elem = some j) (hz : (decide (0 < j.size) && j.zero.length == j.size) = true)
   (w1 : u.wh = true) (w2 : v.wh = true) (hsrc : srcOf h v.strip = some (sz, m, g)) (e1 : u.strip = .emp) (hgo : h d = .gone) (hc : m = 0 ∨ sz = j.size) (hle : m ≤ maxLen ∧ m * j.bytes ≤ 140737488355328) :
   aop2 P (.call { callee := .builtin .append, args := #[y, z], argTypes := #[t, t] }) (ev s) h e0 d (.row i.elem j.size m g) (.own d m) := by
 subst h1 h2
 rw [Bool.and_eq_true, decide_eq_true_eq, beq_iff_eq] at hz
 refine ⟨y, z, t, i, j, sz, m, g, rfl, rfl, ht, hsl, hj, hz.1, hz.2, w1, w2, hsrc, hc, ?_⟩
 rw [e1]
 exact ⟨hgo, hle.1, hle.2, rfl, rfl⟩
theorem k_box {t : TypeId} {y : Operand} {u : AV} {d : Nat} {l : List AV} (h1 : ev s y = u) (w1 : u.wh = true) (hl : u.strip.cells = some l) : aop3 P (.box t y) (ev s) d (.box t l) (.ptr d 0) := by
 subst h1
 exact ⟨l, w1, hl, rfl, rfl⟩
theorem k_alloc {t : TypeId} {d : Nat} {i : TI} {l : List AV} (ht : tinfo P t = some i) (hz : i.zero.isEmpty = false) (hl : i.zero.map constAV1 = l) : aop3 P (.alloc t) (ev s) d (.box t l) (.ptr d 0) := by
 subst hl
 exact ⟨i, ht, fun e => by simp [e] at hz, rfl, rfl⟩
end
theorem cond_and (b p : Bool) : (bif b then p else false) = (b && p) := by cases b <;> rfl
theorem cond_or (b p : Bool) : (bif b then true else p) = (b || p) := by cases b <;> rfl
attribute [go_sem] List.set_cons_zero List.set_cons_succ frzS_apply frzH_apply frz_c frz_ptr frz_emp frz_own frz_agg frz_box frz_row Bool.and_false Bool.false_and Bool.or_false Bool.false_or Bool.or_true Bool.true_or ofL_nil ofH_nil bndOf AV.one cond_and cond_or List.cons_append List.nil_append List.append_nil bfill partsC AV.closedCells srcOf
attribute [go_sem] ne_eq not_false_eq_true not_true_eq_false true_and and_true forall_const imp_self implies_true Bool.true_and Bool.and_true Bool.false_eq_true false_implies List.getElem?_cons_zero List.getElem?_cons_succ List.drop_zero List.drop_succ_cons
attribute [go_sem] List.length_cons List.length_nil List.headD_cons List.take_succ_cons List.take_zero List.map_cons List.map_nil Nat.add_zero Nat.zero_add List.all_cons List.all_nil Bool.and_self or_self Int.toNat_natCast decide_eq_true_eq List.getElem?_toArray Option.bind_some List.getD_cons_zero List.getD_cons_succ List.toList_toArray
attribute [go_sem] List.mem_cons List.not_mem_nil or_false false_or or_true true_or forall_eq_or_imp forall_eq eq_self and_self
end Go.Am
namespace Go.Am
open Go.RowKit
structure HeapOk (w : World) (Z : Nat → Prop) (h : AH) (gs : Gs) : Prop where
 fresh : ∀ o b K, gs o = some (b, K) → b < w.heap.size ∧ ¬ Z b
 inj : ∀ o o' b K K', gs o = some (b, K) → gs o' = some (b, K') → o = o'
 objs : ∀ o, RObj w (Zf Z gs) h gs o (h o)
inductive Out where
 | ret (x : AV)
 | pan (chain : List PanicEntry)
def outOk (R : Value → AV → Prop) : Ending → Out → Prop
 | .returned v, .ret x => R v x
 | .panicked c, .pan c' => c = c'
 | _, _ => False
def AFun [Glb] (P : Program) (f : FuncId) (xs : List AV) (h : AH) (Q : Out → AH → Prop) : Prop := Enters P f ∧
 ∀ (Z : Nat → Prop) (w : World) (gs : Gs) (vs : List Value), (∀ b, Z b → b < w.heap.size) → (∀ b, Glb.A b → Z b ∧ w.heap[b]? = Glb.M b) → HeapOk w Z h gs → vs.length = xs.length → (∀ i, i < xs.length → RA w (Zf Z gs) h gs (vs.getD i undef) (xs.getD i default)) →
   Calls P f vs.toArray w fun e w' => ∃ out h' gs', Q out h' ∧ outOk (RA w' (Zf Z gs') h' gs') e out ∧ HeapOk w' Z h' gs' ∧ BelowX (fun b => ∃ o K, gs o = some (b, K)) w w' ∧ Refs h gs h' gs' ∧
     ∀ o b K, gs' o = some (b, K) → w.heap.size ≤ b ∨ ∃ o' K', gs o' = some (b, K')
theorem AFun.mono [Glb] {P : Program} {f : FuncId} {xs : List AV} {h : AH} {Q Q' : Out → AH → Prop} (hf : AFun P f xs h Q) (hq : ∀ o h, Q o h → Q' o h) : AFun P f xs h Q' :=
 ⟨hf.1, fun Z w gs vs h1 h2 h3 h4 h5 => (hf.2 Z w gs vs h1 h2 h3 h4 h5).mono fun _ _ ⟨out, h', gs', q, r⟩ => ⟨out, h', gs', hq _ _ q, r⟩⟩
def AV.ren0 (ρ : Nat → Nat) : AV → AV
 | .ptr o off => .ptr (ρ o) off
 | .rp o L i off => .rp (ρ o) L i off
 | .own o L => .own (ρ o) L
 | .osub o L off n => .osub (ρ o) L off n
 | .mref o => .mref (ρ o)
 | x => x
def AV.ren1 (ρ : Nat → Nat) : AV → AV
 | .mref o => .mref (ρ o)
 | .iref o => .iref (ρ o)
 | .bs o n => .bs (ρ o) n
 | .ptr o off => .ptr (ρ o) off
 | .rp o L i off => .rp (ρ o) L i off
 | .own o L => .own (ρ o) L
 | .osub o L off n => .osub (ρ o) L off n
 | .fn f ps => .fn f (ps.map (AV.ren0 ρ))
 | .when b x => .when b (x.ren1 ρ)
 | x => x
def AV.ren (ρ : Nat → Nat) : AV → AV
 | .agg xs => .agg (xs.map (AV.ren1 ρ))
 | .when b x => .when b (x.ren ρ)
 | x => x.ren1 ρ
def AObj.ren (ρ : Nat → Nat) : AObj → AObj
 | .box ty cells => .box ty (cells.map (AV.ren ρ))
 | .map es c => .map (es.map fun e => (e.1, e.2.1, e.2.2.ren ρ)) c
 | .iter m s l t => .iter (ρ m) s l t
 | x => x
theorem ren0_eq (ρ : Nat → Nat) {x : AV} (hp : x.flatP = true) : x.ren0 ρ = x.ren1 ρ := by cases x <;> first | rfl | cases hp
theorem ren0_flat (ρ : Nat → Nat) (x : AV) : (x.ren0 ρ).flatP = x.flatP := by cases x <;> rfl
theorem ren_row {ρ : Nat → Nat} {x : AObj} {ty : TypeId} {sz n : Nat} {f : Nat → List CV} (h : x.ren ρ = .row ty sz n f) : x = .row ty sz n f := by
 cases x <;> simp_all [AObj.ren]
theorem ren_box {ρ : Nat → Nat} {x : AObj} {ty : TypeId} {cells : List AV} (h : x.ren ρ = .box ty cells) : ∃ cs, x = .box ty cs ∧ cells = cs.map (AV.ren ρ) := by
 cases x with
 | box t c =>
   simp only [AObj.ren, AObj.box.injEq] at h
   exact ⟨c, by rw [h.1], h.2.symm⟩
 | _ => simp [AObj.ren] at h
theorem ren_map {ρ : Nat → Nat} {x : AObj} {es : List (Value × Nat × AV)} {c : Nat} (h : x.ren ρ = .map es c) : ∃ es', x = .map es' c ∧ es = es'.map fun e => (e.1, e.2.1, e.2.2.ren ρ) := by
 cases x with
 | map e c' =>
   simp only [AObj.ren, AObj.map.injEq] at h
   exact ⟨e, by rw [h.2], h.1.symm⟩
 | _ => simp [AObj.ren] at h
theorem ren_iter {ρ : Nat → Nat} {x : AObj} {m s t : Nat} {l : List Nat} (h : x.ren ρ = .iter m s l t) : ∃ m', x = .iter m' s l t ∧ m = ρ m' := by
 cases x with
 | iter m' s' l' t' =>
   simp only [AObj.ren, AObj.iter.injEq] at h
   exact ⟨m', by rw [h.2.1, h.2.2.1, h.2.2.2], h.1.symm⟩
 | _ => simp [AObj.ren] at h
section
variable {w : World} {Z Z' : Nat → Prop} {h h1 : AH} {gs g1 : Gs} {ρ : Nat → Nat}
theorem RA.unren0 (hz : ∀ b, Z' b → Z b) (x : AV) {v : Value} (hp : x.flatP = true) (hk : ∀ k ∈ x.ref1w, h (ρ k) = (h1 k).ren ρ ∧ g1 k = gs (ρ k)) (hn : v.oneCell' = true) (hx : RA w Z h gs v (x.ren1 ρ)) : RA w Z' h1 g1 v x := by
 have hl : Later w w Z Z' := ⟨Nat.le_refl _, fun _ _ _ => rfl, fun b hb _ => hz b hb⟩
 cases x with
 | c y => cases hx with | c _ _ hx => exact .c _ _ (hx.later hl)
 | pim xs => cases hx with | pim a _ g hb hlt hc ho hh => exact .pim a xs g (fun q => hb (hz _ q)) hlt hc ho fun j hj => (hh j hj).later hl
 | ptr o off =>
   obtain ⟨e1, e2⟩ := hk o (by simp [AV.ref1w])
   cases hx with
   | ptr _ _ b K ty cells ho hg =>
     rw [e1] at ho
     obtain ⟨cs, e3, _⟩ := ren_box ho
     exact .ptr o off b K ty cs e3 (e2.trans hg)
 | rp o L i off =>
   obtain ⟨e1, e2⟩ := hk o (by simp [AV.ref1w])
   cases hx with
   | rp ad _ _ _ _ ty sz n f ho hL hv => exact .rp ad o L i off ty sz n f (ren_row (e1 ▸ ho)) hL (by rw [e2]; exact hv)
 | own o L =>
   obtain ⟨e1, e2⟩ := hk o (by simp [AV.ref1w])
   cases hx with
   | own A k c _ _ ty sz n f ho hL hv => exact .own A k c o L ty sz n f (ren_row (e1 ▸ ho)) hL (by rw [e2]; exact hv)
 | osub o L off n =>
   obtain ⟨e1, e2⟩ := hk o (by simp [AV.ref1w])
   cases hx with
   | osub A k' c _ _ _ _ ty sz n f ho hL hv => exact .osub A k' c o L off _ ty sz n f (ren_row (e1 ▸ ho)) hL (by rw [e2]; exact hv)
 | emp => cases hx with | emp A => exact .emp A
 | mref o =>
   obtain ⟨e1, e2⟩ := hk o (by simp [AV.ref1w])
   cases hx with
   | mref _ b K es clock ho hg =>
     rw [e1] at ho
     obtain ⟨es', e3, _⟩ := ren_map ho
     exact .mref o b K es' clock e3 (e2.trans hg)
 | _ => cases hp
theorem RA.unren1 (hz : ∀ b, Z' b → Z b) (x : AV) {v : Value} (hk : ∀ k ∈ x.ref1w, h (ρ k) = (h1 k).ren ρ ∧ g1 k = gs (ρ k)) (hn : v.oneCell' = true) (hx : RA w Z h gs v (x.ren1 ρ)) : RA w Z' h1 g1 v x := by
 have hl : Later w w Z Z' := ⟨Nat.le_refl _, fun _ _ _ => rfl, fun b hb _ => hz b hb⟩
 cases x with
 | c y => cases hx with | c _ _ hx => exact .c _ _ (hx.later hl)
 | agg xs => cases hx with | agg cs _ _ _ _ => simp [Value.oneCell'] at hn
 | pim xs => cases hx with | pim a _ g hb hlt hc ho hh => exact .pim a xs g (fun q => hb (hz _ q)) hlt hc ho fun j hj => (hh j hj).later hl
 | ptr o off =>
   obtain ⟨e1, e2⟩ := hk o (by simp [AV.ref1w])
   cases hx with
   | ptr _ _ b K ty cells ho hg =>
     rw [e1] at ho
     obtain ⟨cs, e3, _⟩ := ren_box ho
     exact .ptr o off b K ty cs e3 (e2.trans hg)
 | rp o L i off =>
   obtain ⟨e1, e2⟩ := hk o (by simp [AV.ref1w])
   cases hx with
   | rp ad _ _ _ _ ty sz n f ho hL hv => exact .rp ad o L i off ty sz n f (ren_row (e1 ▸ ho)) hL (by rw [e2]; exact hv)
 | own o L =>
   obtain ⟨e1, e2⟩ := hk o (by simp [AV.ref1w])
   cases hx with
   | own A k c _ _ ty sz n f ho hL hv => exact .own A k c o L ty sz n f (ren_row (e1 ▸ ho)) hL (by rw [e2]; exact hv)
 | osub o L off n =>
   obtain ⟨e1, e2⟩ := hk o (by simp [AV.ref1w])
   cases hx with
   | osub A k' c _ _ _ _ ty sz n f ho hL hv => exact .osub A k' c o L off _ ty sz n f (ren_row (e1 ▸ ho)) hL (by rw [e2]; exact hv)
 | emp => cases hx with | emp A => exact .emp A
 | fn f ps =>
   cases hx with
   | fn _ cs _ hl' hp hh =>
     have hg : ∀ i, i < ps.length → (ps.map (AV.ren0 ρ)).getD i default = (ps.getD i default).ren0 ρ := fun i hi => by rw [getD_lt (by simpa using hi), getD_lt hi, List.getElem_map]
     have hfl : ∀ i, i < ps.length → (ps.getD i default).flatP = true ∧ (cs.getD i undef).oneCell' = true := fun i hi => by
       have := hp i (by simpa using hi)
       rw [hg i hi, ren0_flat] at this
       exact this
     refine .fn f cs ps (by simpa using hl') hfl fun i hi => ?_
     have h2 := hh i (by simpa using hi)
     rw [hg i hi, ren0_eq ρ (hfl i hi).1] at h2
     have hmem : ps.getD i default ∈ ps := by rw [getD_lt hi]; exact List.getElem_mem hi
     exact RA.unren0 hz _ (hfl i hi).1 (fun k hk' => hk k (List.mem_flatMap.2 ⟨_, hmem, by rw [ref0_w (hfl i hi).1]; exact hk'⟩)) (hfl i hi).2 h2
 | mref o =>
   obtain ⟨e1, e2⟩ := hk o (by simp [AV.ref1w])
   cases hx with
   | mref _ b K es clock ho hg =>
     rw [e1] at ho
     obtain ⟨es', e3, _⟩ := ren_map ho
     exact .mref o b K es' clock e3 (e2.trans hg)
 | iref o =>
   obtain ⟨e1, e2⟩ := hk o (by simp [AV.ref1w])
   cases hx with
   | iref _ b K m since seen last ho hg =>
     rw [e1] at ho
     obtain ⟨m', e3, _⟩ := ren_iter ho
     exact .iref o b K m' since seen last e3 (e2.trans hg)
 | bs o n =>
   obtain ⟨e1, e2⟩ := hk o (by simp [AV.ref1w])
   cases hx with
   | bs _ _ b K ty cells ho hg =>
     rw [e1] at ho
     obtain ⟨cs, e3, _⟩ := ren_box ho
     exact .bs o n b K ty cs e3 (e2.trans hg)
 | «when» b x =>
   cases hx with
   | «when» _ _ _ hx hu => exact .when v b x (fun e => RA.unren1 hz x hk hn (hx e)) hu
theorem RA.unren (hz : ∀ b, Z' b → Z b) (x : AV) {v : Value} (hk : ∀ k ∈ x.refsw, h (ρ k) = (h1 k).ren ρ ∧ g1 k = gs (ρ k)) (hx : RA w Z h gs v (x.ren ρ)) : RA w Z' h1 g1 v x := by
 cases x with
 | agg xs =>
   cases hx with
   | agg cs _ hl' ho hh =>
     have hl2 : cs.size = xs.length := by simpa using hl'
     refine .agg cs xs hl2 (fun i hi => ho i (by simpa using hi)) fun i hi => ?_
     have h2 := hh i (by simpa using hi)
     rw [getD_lt (by simpa using hi), List.getElem_map] at h2
     rw [getD_lt hi]
     exact RA.unren1 hz _ (fun k hm => hk k (List.mem_flatMap.2 ⟨_, List.getElem_mem hi, hm⟩)) (ho i (by simpa using hi)) h2
 | «when» b x =>
   cases hx with
   | «when» _ _ _ hx hu => exact .when v b x (fun e => RA.unren hz x hk (hx e)) hu
 | c y => cases hx with | c _ _ hx => exact .c _ _ (hx.later ⟨Nat.le_refl _, fun _ _ _ => rfl, fun b hb _ => hz b hb⟩)
 | pim xs => exact RA.unren1 hz _ hk (by cases hx; rfl) hx
 | ptr o off => exact RA.unren1 hz _ hk (by cases hx; rfl) hx
 | rp o L i off => exact RA.unren1 hz _ hk (by cases hx; rfl) hx
 | own o L => exact RA.unren1 hz _ hk (by cases hx; rfl) hx
 | osub o L off n => exact RA.unren1 hz _ hk (by cases hx; rfl) hx
 | emp => exact RA.unren1 hz _ hk (by cases hx; rfl) hx
 | fn f os => exact RA.unren1 hz _ hk (by cases hx; rfl) hx
 | mref o => exact RA.unren1 hz _ hk (by cases hx; rfl) hx
 | iref o => exact RA.unren1 hz _ hk (by cases hx; rfl) hx
 | bs o n => exact RA.unren1 hz _ hk (by cases hx; rfl) hx
theorem RA.reren0 (hz : ∀ b, Z b → Z' b) (x : AV) {v : Value} (hp : x.flatP = true) (hk : ∀ k ∈ x.ref1w, h (ρ k) = (h1 k).ren ρ ∧ gs (ρ k) = g1 k) (hn : v.oneCell' = true) (hx : RA w Z' h1 g1 v x) : RA w Z h gs v (x.ren1 ρ) := by
 have hl : Later w w Z' Z := ⟨Nat.le_refl _, fun _ _ _ => rfl, fun b hb _ => hz b hb⟩
 cases x with
 | c y => cases hx with | c _ _ hx => exact .c _ _ (hx.later hl)
 | pim xs => cases hx with | pim a _ g hb hlt hc ho hh => exact .pim a xs g (fun q => hb (hz _ q)) hlt hc ho fun j hj => (hh j hj).later hl
 | ptr o off =>
   obtain ⟨e1, e2⟩ := hk o (by simp [AV.ref1w])
   cases hx with
   | ptr _ _ b K ty cells ho hg => exact .ptr (ρ o) off b K ty (cells.map (AV.ren ρ)) (by rw [e1, ho]; rfl) (e2.trans hg)
 | rp o L i off =>
   obtain ⟨e1, e2⟩ := hk o (by simp [AV.ref1w])
   cases hx with
   | rp ad _ _ _ _ ty sz n f ho hL hv => exact .rp ad (ρ o) L i off ty sz n f (by rw [e1, ho]; rfl) hL (by rw [e2]; exact hv)
 | own o L =>
   obtain ⟨e1, e2⟩ := hk o (by simp [AV.ref1w])
   cases hx with
   | own A k c _ _ ty sz n f ho hL hv => exact .own A k c (ρ o) L ty sz n f (by rw [e1, ho]; rfl) hL (by rw [e2]; exact hv)
 | osub o L off n =>
   obtain ⟨e1, e2⟩ := hk o (by simp [AV.ref1w])
   cases hx with
   | osub A k' c _ _ _ _ ty sz n f ho hL hv => exact .osub A k' c (ρ o) L off _ ty sz n f (by rw [e1, ho]; rfl) hL (by rw [e2]; exact hv)
 | emp => cases hx with | emp A => exact .emp A
 | mref o =>
   obtain ⟨e1, e2⟩ := hk o (by simp [AV.ref1w])
   cases hx with
   | mref _ b K es clock ho hg => exact .mref (ρ o) b K _ clock (by rw [e1, ho]; rfl) (e2.trans hg)
 | _ => cases hp
theorem RA.reren1 (hz : ∀ b, Z b → Z' b) (x : AV) {v : Value} (hk : ∀ k ∈ x.ref1w, h (ρ k) = (h1 k).ren ρ ∧ gs (ρ k) = g1 k) (hn : v.oneCell' = true) (hx : RA w Z' h1 g1 v x) : RA w Z h gs v (x.ren1 ρ) := by
 have hl : Later w w Z' Z := ⟨Nat.le_refl _, fun _ _ _ => rfl, fun b hb _ => hz b hb⟩
 cases x with
 | c y => cases hx with | c _ _ hx => exact .c _ _ (hx.later hl)
 | agg xs => cases hx with | agg cs _ _ _ _ => simp [Value.oneCell'] at hn
 | pim xs => cases hx with | pim a _ g hb hlt hc ho hh => exact .pim a xs g (fun q => hb (hz _ q)) hlt hc ho fun j hj => (hh j hj).later hl
 | ptr o off =>
   obtain ⟨e1, e2⟩ := hk o (by simp [AV.ref1w])
   cases hx with
   | ptr _ _ b K ty cells ho hg => exact .ptr (ρ o) off b K ty (cells.map (AV.ren ρ)) (by rw [e1, ho]; rfl) (e2.trans hg)
 | rp o L i off =>
   obtain ⟨e1, e2⟩ := hk o (by simp [AV.ref1w])
   cases hx with
   | rp ad _ _ _ _ ty sz n f ho hL hv => exact .rp ad (ρ o) L i off ty sz n f (by rw [e1, ho]; rfl) hL (by rw [e2]; exact hv)
 | own o L =>
   obtain ⟨e1, e2⟩ := hk o (by simp [AV.ref1w])
   cases hx with
   | own A k c _ _ ty sz n f ho hL hv => exact .own A k c (ρ o) L ty sz n f (by rw [e1, ho]; rfl) hL (by rw [e2]; exact hv)
 | osub o L off n =>
   obtain ⟨e1, e2⟩ := hk o (by simp [AV.ref1w])
   cases hx with
   | osub A k' c _ _ _ _ ty sz n f ho hL hv => exact .osub A k' c (ρ o) L off _ ty sz n f (by rw [e1, ho]; rfl) hL (by rw [e2]; exact hv)
 | emp => cases hx with | emp A => exact .emp A
 | fn f ps =>
   cases hx with
   | fn _ cs _ hl' hp hh =>
     have hg : ∀ i, i < ps.length → (ps.map (AV.ren0 ρ)).getD i default = (ps.getD i default).ren0 ρ := fun i hi => by rw [getD_lt (by simpa using hi), getD_lt hi, List.getElem_map]
     refine .fn f cs _ (by simpa using hl') (fun i hi => ?_) fun i hi => ?_
     · have hi' : i < ps.length := by simpa using hi
       rw [hg i hi', ren0_flat]
       exact hp i hi'
     · have hi' : i < ps.length := by simpa using hi
       rw [hg i hi', ren0_eq ρ (hp i hi').1]
       have hmem : ps.getD i default ∈ ps := by rw [getD_lt hi']; exact List.getElem_mem hi'
       exact RA.reren0 hz _ (hp i hi').1 (fun k hk' => hk k (List.mem_flatMap.2 ⟨_, hmem, by rw [ref0_w (hp i hi').1]; exact hk'⟩)) (hp i hi').2 (hh i hi')
 | mref o =>
   obtain ⟨e1, e2⟩ := hk o (by simp [AV.ref1w])
   cases hx with
   | mref _ b K es clock ho hg => exact .mref (ρ o) b K _ clock (by rw [e1, ho]; rfl) (e2.trans hg)
 | iref o =>
   obtain ⟨e1, e2⟩ := hk o (by simp [AV.ref1w])
   cases hx with
   | iref _ b K m since seen last ho hg => exact .iref (ρ o) b K (ρ m) since seen last (by rw [e1, ho]; rfl) (e2.trans hg)
 | bs o n =>
   obtain ⟨e1, e2⟩ := hk o (by simp [AV.ref1w])
   cases hx with
   | bs _ _ b K ty cells ho hg => exact .bs (ρ o) n b K ty (cells.map (AV.ren ρ)) (by rw [e1, ho]; rfl) (e2.trans hg)
 | «when» b x =>
   cases hx with
   | «when» _ _ _ hx hu => exact .when v b _ (fun e => RA.reren1 hz x hk hn (hx e)) hu
theorem RA.reren (hz : ∀ b, Z b → Z' b) (x : AV) {v : Value} (hk : ∀ k ∈ x.refsw, h (ρ k) = (h1 k).ren ρ ∧ gs (ρ k) = g1 k) (hx : RA w Z' h1 g1 v x) : RA w Z h gs v (x.ren ρ) := by
 cases x with
 | agg xs =>
   cases hx with
   | agg cs _ hl' ho hh =>
     refine .agg cs _ (by simpa using hl') (fun i hi => ho i (by simpa using hi)) fun i hi => ?_
     have hi' : i < xs.length := by simpa using hi
     have h2 := hh i hi'
     rw [getD_lt hi'] at h2
     rw [getD_lt hi, List.getElem_map]
     exact RA.reren1 hz _ (fun k hm => hk k (List.mem_flatMap.2 ⟨_, List.getElem_mem hi', hm⟩)) (ho i hi') h2
 | «when» b x =>
   cases hx with
   | «when» _ _ _ hx hu => exact .when v b _ (fun e => RA.reren hz x hk (hx e)) hu
 | c y => cases hx with | c _ _ hx => exact .c _ _ (hx.later ⟨Nat.le_refl _, fun _ _ _ => rfl, fun b hb _ => hz b hb⟩)
 | pim xs => exact RA.reren1 hz _ hk (by cases hx; rfl) hx
 | ptr o off => exact RA.reren1 hz _ hk (by cases hx; rfl) hx
 | rp o L i off => exact RA.reren1 hz _ hk (by cases hx; rfl) hx
 | own o L => exact RA.reren1 hz _ hk (by cases hx; rfl) hx
 | osub o L off n => exact RA.reren1 hz _ hk (by cases hx; rfl) hx
 | emp => exact RA.reren1 hz _ hk (by cases hx; rfl) hx
 | fn f os => exact RA.reren1 hz _ hk (by cases hx; rfl) hx
 | mref o => exact RA.reren1 hz _ hk (by cases hx; rfl) hx
 | iref o => exact RA.reren1 hz _ hk (by cases hx; rfl) hx
 | bs o n => exact RA.reren1 hz _ hk (by cases hx; rfl) hx
end
end Go.Am
namespace Go.Am
open Go.RowKit
def appL {α β : Type} (ρ : Nat → Nat) (g : α → β) (x : Nat → α) : List Nat → (Nat → β) → Nat → β
 | [], h => h
 | k :: ks, h => appL ρ g x ks (upd h (ρ k) (g (x k)))
theorem appL_out {α β : Type} {ρ : Nat → Nat} {g : α → β} {x : Nat → α} : ∀ {ks : List Nat} {h : Nat → β} {o : Nat}, (∀ k ∈ ks, ρ k ≠ o) → appL ρ g x ks h o = h o
 | [], h, o, _ => rfl
 | k :: ks, h, o, hn => by
   rw [appL, appL_out fun k' hk' => hn k' (List.mem_cons_of_mem _ hk'), upd_ne _ _ _ _ (Ne.symm (hn k (List.mem_cons_self ..)))]
theorem appL_in {α β : Type} {ρ : Nat → Nat} {g : α → β} {x : Nat → α} : ∀ {ks : List Nat} {h : Nat → β} {k : Nat}, k ∈ ks → (∀ a ∈ ks, ∀ b ∈ ks, ρ a = ρ b → a = b) → appL ρ g x ks h (ρ k) = g (x k)
 | k0 :: ks, h, k, hk, hi => by
   rw [appL]
   by_cases hm : k ∈ ks
   · exact appL_in hm fun a ha b hb => hi a (List.mem_cons_of_mem _ ha) b (List.mem_cons_of_mem _ hb)
   · have e : k = k0 := (List.mem_cons.1 hk).resolve_right hm
     subst e
     rw [appL_out fun k' hk' e => hm (hi k' (List.mem_cons_of_mem _ hk') k (List.mem_cons_self ..) e ▸ hk'), upd_same]
structure Foot (ks : List Nat) (h : AH) : Prop where
 out : ∀ k, k ∉ ks → h k = .gone
 closed : ∀ k ∈ ks, ∀ ty cells, h k = .box ty cells → ∀ x ∈ cells, ∀ k' ∈ x.refsw, k' ∈ ks
 maps : ∀ k ∈ ks, ∀ k' ∈ (h k).refsM, k' ∈ ks
section
variable {E : Env} {w w' : World} {nt : Nat} {s : Slots} {h h1 h1' : AH} {gs g1' : Gs} {a : Act} {ρ : Nat → Nat} {ks : List Nat}
def gsub (ks : List Nat) (ρ : Nat → Nat) (gs : Gs) : Gs := fun k => if k ∈ ks then gs (ρ k) else none
def zsub (ks : List Nat) (ρ : Nat → Nat) (Z : Nat → Prop) (gs : Gs) : Nat → Prop := fun b => Zf Z gs b ∧ ¬ ∃ k ∈ ks, ∃ K, gs (ρ k) = some (b, K)
theorem gsub_in {k : Nat} (h : k ∈ ks) : gsub ks ρ gs k = gs (ρ k) := by simp [gsub, h]
theorem gsub_some {k b K : Nat} (e : gsub ks ρ gs k = some (b, K)) : k ∈ ks ∧ gs (ρ k) = some (b, K) := by
 unfold gsub at e
 split at e
 · exact ⟨by assumption, e⟩
 · cases e
theorem zf_sub {Z : Nat → Prop} (b : Nat) : Zf (zsub ks ρ Z gs) (gsub ks ρ gs) b ↔ Zf Z gs b := by
 constructor
 · rintro (hb | ⟨k, K, e⟩)
   · exact hb.1
   · exact .inr ⟨ρ k, K, (gsub_some e).2⟩
 · intro hb
   by_cases hk : ∃ k ∈ ks, ∃ K, gs (ρ k) = some (b, K)
   · obtain ⟨k, h1, K, e⟩ := hk
     exact .inr ⟨k, K, by rw [gsub_in h1]; exact e⟩
   · exact .inl ⟨hb, hk⟩
theorem heap_sub [Glb] (R : RelG E nt s h gs a w) (hi : ∀ a ∈ ks, ∀ b ∈ ks, ρ a = ρ b → a = b) (hf : Foot ks h1) (hh : ∀ k ∈ ks, h (ρ k) = (h1 k).ren ρ) : HeapOk w (zsub ks ρ E.Z gs) h1 (gsub ks ρ gs) := by
 have hz : ∀ b, Zf (zsub ks ρ E.Z gs) (gsub ks ρ gs) b → Zf E.Z gs b := fun b => (zf_sub b).1
 have hl : Later w w (Zf E.Z gs) (Zf (zsub ks ρ E.Z gs) (gsub ks ρ gs)) := ⟨Nat.le_refl _, fun _ _ _ => rfl, fun b hb _ => hz b hb⟩
 refine ⟨fun k b K e => ?_, fun k k' b K K' e e' => ?_, fun k => ?_⟩
 · obtain ⟨q1, q2⟩ := gsub_some e
   exact ⟨(R.fresh _ _ _ q2).2, fun hb => hb.2 ⟨k, q1, K, q2⟩⟩
 · obtain ⟨q1, q2⟩ := gsub_some e
   obtain ⟨q3, q4⟩ := gsub_some e'
   exact hi k q1 k' q3 (R.inj _ _ _ _ _ q2 q4)
 · by_cases hk : k ∈ ks
   · have hob := R.objs (ρ k)
     rw [hh k hk] at hob
     have hg := gsub_in (ρ := ρ) (gs := gs) hk
     cases hx : h1 k with
     | gone =>
       rw [hx] at hob
       exact hg.trans hob
     | blk b ob =>
       rw [hx] at hob
       obtain ⟨K, q1, q2⟩ := hob
       exact ⟨K, hg.trans q1, q2⟩
     | box ty cells =>
       rw [hx] at hob
       obtain ⟨b, K, cur, q1, q2, q3, q4, q5⟩ := hob
       refine ⟨b, K, cur, hg.trans q1, q2, by simpa using q3, fun j hj => q4 j (by simpa using hj), fun j hj => ?_⟩
       have h5 := q5 j (by simpa using hj)
       rw [getD_lt (by simpa using hj), List.getElem_map] at h5
       rw [getD_lt hj]
       exact RA.unren hz _ (fun k' hk' => by
         have hm := hf.closed k hk ty cells hx _ (List.getElem_mem hj) k' hk'
         exact ⟨hh k' hm, gsub_in hm⟩) h5
     | map es c =>
       rw [hx] at hob
       obtain ⟨b, K, ents, q1, q2, q3, q4, q5⟩ := hob
       have hgt : ∀ i, i < es.length → (es.map fun e => (e.1, e.2.1, e.2.2.ren ρ)).getD i (undef, 0, default) = ((es.getD i (undef, 0, default)).1, (es.getD i (undef, 0, default)).2.1, (es.getD i (undef, 0, default)).2.2.ren ρ) := fun i hi => by
         rw [getD_lt (by simpa using hi), getD_lt hi, List.getElem_map]
       refine ⟨b, K, ents, hg.trans q1, q2, by simpa using q3, fun j hj => ?_, fun j hj => ?_⟩
       · have := q4 j (by simpa using hj)
         rw [hgt j hj] at this
         exact this
       · have h5 := q5 j (by simpa using hj)
         rw [hgt j hj] at h5
         refine RA.unren hz _ (fun k' hk' => ?_) h5
         have hm := hf.maps k hk k' (by rw [hx]; rw [getD_lt hj] at hk'; exact List.mem_flatMap.2 ⟨_, List.getElem_mem hj, hk'⟩)
         exact ⟨hh k' hm, gsub_in hm⟩
     | iter m s l t =>
       rw [hx] at hob
       obtain ⟨b, K, bm, Km, es, c, q1, q2, q3, q4⟩ := hob
       have hm := hf.maps k hk m (by rw [hx]; simp [AObj.refsM])
       rw [hh m hm] at q2
       obtain ⟨es', e1, _⟩ := ren_map q2
       exact ⟨b, K, bm, Km, es', c, hg.trans q1, e1, (gsub_in hm).trans q3, q4⟩
     | row ty sz n f =>
       rw [hx] at hob
       rcases hob with q1 | ⟨b', K', cur, q1, q2, q3, q4, q5, q6, q7, q8⟩
       · exact .inl (hg.trans q1)
       · exact .inr ⟨b', K', cur, hg.trans q1, q2, q3, q4, q5, q6, q7, fun i j hi hj => (q8 i j hi hj).later hl⟩
   · rw [hf.out k hk]
     show gsub ks ρ gs k = none
     simp [gsub, hk]
theorem heap_back [Glb] (R : RelG E nt s h gs a w) (hi : ∀ a ∈ ks, ∀ b ∈ ks, ρ a = ρ b → a = b) (hf : Foot ks h1) (hh : ∀ k ∈ ks, h (ρ k) = (h1 k).ren ρ) (hf' : Foot ks h1')
   (hok : HeapOk w' (zsub ks ρ E.Z gs) h1' g1') (hb : BelowX (fun b => ∃ o K, gsub ks ρ gs o = some (b, K)) w w') (hr : Refs h1 (gsub ks ρ gs) h1' g1')
   (hnew : ∀ o b K, g1' o = some (b, K) → w.heap.size ≤ b ∨ ∃ o' K', gsub ks ρ gs o' = some (b, K')) :
   RelG E nt s (appL ρ (AObj.ren ρ) h1' ks h) (appL ρ id g1' ks gs) a w' ∧ ∀ v x, (∀ k ∈ x.refsw, k ∈ ks) → RA w' (Zf (zsub ks ρ E.Z gs) g1') h1' g1' v x → RA w' (Zf E.Z (appL ρ id g1' ks gs)) (appL ρ (AObj.ren ρ) h1' ks h) (appL ρ id g1' ks gs) v (x.ren ρ) := by
 have hH : ∀ k ∈ ks, appL ρ (AObj.ren ρ) h1' ks h (ρ k) = (h1' k).ren ρ := fun k hk => appL_in hk hi
 have hG : ∀ k ∈ ks, appL ρ id g1' ks gs (ρ k) = g1' k := fun k hk => appL_in hk hi
 have hHo : ∀ o, (∀ k ∈ ks, ρ k ≠ o) → appL ρ (AObj.ren ρ) h1' ks h o = h o := fun o ho => appL_out ho
 have hGo : ∀ o, (∀ k ∈ ks, ρ k ≠ o) → appL ρ id g1' ks gs o = gs o := fun o ho => appL_out ho
 generalize appL ρ (AObj.ren ρ) h1' ks h = hN at *
 generalize appL ρ id g1' ks gs = gN at *
 have dec : ∀ o, (∃ k ∈ ks, ρ k = o) ∨ ∀ k ∈ ks, ρ k ≠ o := fun o => by
   by_cases q : ∃ k ∈ ks, ρ k = o
   · exact .inl q
   · exact .inr fun k hk e => q ⟨k, hk, e⟩
 have gout : ∀ k, k ∉ ks → g1' k = none := fun k hk => by
   have := hok.objs k
   rw [hf'.out k hk] at this
   exact this
 have foot : ∀ k b K, g1' k = some (b, K) → k ∈ ks := fun k b K e => by
   by_cases hk : k ∈ ks
   · exact hk
   · rw [gout k hk] at e; cases e
 have hz : ∀ b, Zf E.Z gN b → Zf (zsub ks ρ E.Z gs) g1' b := by
   rintro b (hb' | ⟨o, K, e⟩)
   · refine .inl ⟨.inl hb', ?_⟩
     rintro ⟨k, _, K, e⟩
     have h1 := R.zlt b hb'
     rcases (R.fresh _ _ _ e).1 with h2 | h2
     · omega
     · exact (R.zd b h2).1 hb'
   · rcases dec o with ⟨k, hk, rfl⟩ | hno
     · rw [hG k hk] at e
       exact .inr ⟨k, K, e⟩
     · rw [hGo o hno] at e
       refine .inl ⟨.inr ⟨o, K, e⟩, ?_⟩
       rintro ⟨k, hk, K', e'⟩
       exact hno k hk (R.inj _ _ _ _ _ e' e)
 have hL : Later w w' (Zf E.Z gs) (Zf E.Z gN) := by
   refine ⟨hb.size, fun b hb' hlt => hb.block b hlt ?_, fun b hb' hlt => ?_⟩
   · rintro ⟨k, K, e⟩
     exact hb' (.inr ⟨ρ k, K, (gsub_some e).2⟩)
   · rcases hb' with hb' | ⟨o, K, e⟩
     · exact .inl hb'
     · rcases dec o with ⟨k, hk, rfl⟩ | hno
       · rw [hG k hk] at e
         rcases hnew k b K e with q | ⟨k', K', q⟩
         · omega
         · exact .inr ⟨ρ k', K', (gsub_some q).2⟩
       · rw [hGo o hno] at e
         exact .inr ⟨o, K, e⟩
 have hrefs : Refs h gs hN gN := by
   refine ⟨fun o ty cells e => ?_, fun o ty sz n f e => ?_, fun o es c e => ?_, fun o m s l t e => ?_⟩
   · rcases dec o with ⟨k, hk, rfl⟩ | hno
     · rw [hh k hk] at e
       obtain ⟨cs, e1, _⟩ := ren_box e
       obtain ⟨⟨ty', cs', e2⟩, e3⟩ := hr.box k ty cs e1
       rw [hH k hk, hG k hk, e3, gsub_in hk, e2]
       exact ⟨⟨ty', _, rfl⟩, rfl⟩
     · rw [hHo o hno, hGo o hno]
       exact ⟨⟨ty, cells, e⟩, rfl⟩
   · rcases dec o with ⟨k, hk, rfl⟩ | hno
     · rw [hh k hk] at e
       obtain ⟨n', f', e1, e2, e3⟩ := hr.row k ty sz n f (ren_row e)
       rw [hH k hk, hG k hk, e1]
       exact ⟨n', f', rfl, e2, fun q => by rw [e3 q, gsub_in hk]⟩
     · rw [hHo o hno, hGo o hno]
       exact ⟨n, f, e, Nat.le_refl _, fun _ => rfl⟩
   · rcases dec o with ⟨k, hk, rfl⟩ | hno
     · rw [hh k hk] at e
       obtain ⟨es', e1, _⟩ := ren_map e
       obtain ⟨⟨es2, c2, e2⟩, e3⟩ := hr.map k es' c e1
       rw [hH k hk, hG k hk, e3, gsub_in hk, e2]
       exact ⟨⟨_, c2, rfl⟩, rfl⟩
     · rw [hHo o hno, hGo o hno]
       exact ⟨⟨es, c, e⟩, rfl⟩
   · rcases dec o with ⟨k, hk, rfl⟩ | hno
     · rw [hh k hk] at e
       obtain ⟨m', e1, _⟩ := ren_iter e
       obtain ⟨⟨m2, s2, l2, t2, e2⟩, e3⟩ := hr.iter k m' s l t e1
       rw [hH k hk, hG k hk, e3, gsub_in hk, e2]
       exact ⟨⟨_, s2, l2, t2, rfl⟩, rfl⟩
     · rw [hHo o hno, hGo o hno]
       exact ⟨⟨m, s, l, t, e⟩, rfl⟩
 have hl' : Later w' w' (Zf (zsub ks ρ E.Z gs) g1') (Zf E.Z gN) := ⟨Nat.le_refl _, fun _ _ _ => rfl, fun b hb' _ => hz b hb'⟩
 refine ⟨⟨?_, R.zlt, R.zd, R.glob, ?_, ?_, ?_, fun t => (R.slots t).later hL hrefs, R.size, R.defers, R.refs.trans hrefs⟩, fun v x hx hv => RA.reren hz _ (fun k hk => ⟨hH k (hx k hk), hG k (hx k hk)⟩) hv⟩
 · refine ⟨hb.os.trans R.below.os, hb.tape.trans R.below.tape, hb.output.trans R.below.output, Nat.le_trans R.below.size hb.size, fun k hk hd => ?_, fun d => Nat.le_trans (R.below.drawn d) (hb.drawn d)⟩
   refine (hb.block k (Nat.lt_of_lt_of_le hk R.below.size) ?_).trans (R.below.block k hk hd)
   rintro ⟨o, K, e⟩
   rcases (R.fresh _ _ _ (gsub_some e).2).1 with q | q
   · omega
   · exact hd q
 · intro o b K e
   rcases dec o with ⟨k, hk, rfl⟩ | hno
   · rw [hG k hk] at e
     refine ⟨?_, (hok.fresh k b K e).1⟩
     rcases hnew k b K e with q | ⟨k', K', q⟩
     · exact .inl (Nat.le_trans R.below.size q)
     · exact (R.fresh _ _ _ (gsub_some q).2).1
   · rw [hGo o hno] at e
     have := R.fresh o b K e
     exact ⟨this.1, Nat.lt_of_lt_of_le this.2 hb.size⟩
 · intro o o' b K K' e e'
   have cross : ∀ k o' b K K', k ∈ ks → (∀ k ∈ ks, ρ k ≠ o') → g1' k = some (b, K) → gs o' = some (b, K') → False := by
     intro k o' b K K' hk hno e1 e2
     rcases hnew k b K e1 with q | ⟨k', K'', q⟩
     · have := (R.fresh _ _ _ e2).2
       omega
     · obtain ⟨q1, q2⟩ := gsub_some q
       exact hno k' q1 (R.inj _ _ _ _ _ q2 e2)
   rcases dec o with ⟨k, hk, rfl⟩ | hno <;> rcases dec o' with ⟨k', hk', rfl⟩ | hno'
   · rw [hG k hk] at e
     rw [hG k' hk'] at e'
     rw [hok.inj k k' b K K' e e']
   · rw [hG k hk] at e
     rw [hGo o' hno'] at e'
     exact (cross k o' b K K' hk hno' e e').elim
   · rw [hGo o hno] at e
     rw [hG k' hk'] at e'
     exact (cross k' o b K' K hk' hno e' e).elim
   · rw [hGo o hno] at e
     rw [hGo o' hno'] at e'
     exact R.inj o o' b K K' e e'
 · intro o
   rcases dec o with ⟨k, hk, rfl⟩ | hno
   · have hob := hok.objs k
     rw [hH k hk]
     cases hx : h1' k with
     | gone =>
       rw [hx] at hob
       exact (hG k hk).trans hob
     | blk b ob =>
       rw [hx] at hob
       obtain ⟨K, q1, q2⟩ := hob
       exact ⟨K, (hG k hk).trans q1, q2⟩
     | box ty cells =>
       rw [hx] at hob
       obtain ⟨b, K, cur, q1, q2, q3, q4, q5⟩ := hob
       refine ⟨b, K, cur, (hG k hk).trans q1, q2, by simpa using q3, fun j hj => q4 j (by simpa using hj), fun j hj => ?_⟩
       have hj' : j < cells.length := by simpa using hj
       have h5 := q5 j hj'
       rw [getD_lt hj'] at h5
       rw [getD_lt hj, List.getElem_map]
       exact RA.reren hz _ (fun k' hk' => by
         have hm := hf'.closed k hk ty cells hx _ (List.getElem_mem hj') k' hk'
         exact ⟨hH k' hm, hG k' hm⟩) h5
     | map es c =>
       rw [hx] at hob
       obtain ⟨b, K, ents, q1, q2, q3, q4, q5⟩ := hob
       have hgt : ∀ i, i < es.length → (es.map fun e => (e.1, e.2.1, e.2.2.ren ρ)).getD i (undef, 0, default) = ((es.getD i (undef, 0, default)).1, (es.getD i (undef, 0, default)).2.1, (es.getD i (undef, 0, default)).2.2.ren ρ) := fun i hi => by
         rw [getD_lt (by simpa using hi), getD_lt hi, List.getElem_map]
       refine ⟨b, K, ents, (hG k hk).trans q1, q2, by simpa using q3, fun j hj => ?_, fun j hj => ?_⟩
       · have hj' : j < es.length := by simpa using hj
         rw [hgt j hj']
         exact q4 j hj'
       · have hj' : j < es.length := by simpa using hj
         rw [hgt j hj']
         refine RA.reren hz _ (fun k' hk' => ?_) (q5 j hj')
         have hm := hf'.maps k hk k' (by rw [hx]; rw [getD_lt hj'] at hk'; exact List.mem_flatMap.2 ⟨_, List.getElem_mem hj', hk'⟩)
         exact ⟨hH k' hm, hG k' hm⟩
     | iter m s l t =>
       rw [hx] at hob
       obtain ⟨b, K, bm, Km, es, c, q1, q2, q3, q4⟩ := hob
       have hm := hf'.maps k hk m (by rw [hx]; simp [AObj.refsM])
       exact ⟨b, K, bm, Km, _, c, (hG k hk).trans q1, by rw [hH m hm, q2]; rfl, (hG m hm).trans q3, q4⟩
     | row ty sz n f =>
       rw [hx] at hob
       rcases hob with q1 | ⟨b', K', cur, q1, q2, q3, q4, q5, q6, q7, q8⟩
       · exact .inl ((hG k hk).trans q1)
       · exact .inr ⟨b', K', cur, (hG k hk).trans q1, q2, q3, q4, q5, q6, q7, fun i j hi hj => (q8 i j hi hj).later hl'⟩
   · rw [hHo o hno]
     refine (R.objs o).later hL hrefs (hGo o hno) fun b K e => hb.block b (R.fresh o b K e).2 ?_
     rintro ⟨k, K', e'⟩
     obtain ⟨q1, q2⟩ := gsub_some e'
     exact hno k q1 (R.inj _ _ _ _ _ q2 e)
end
end Go.Am
namespace Go.Am
open Go.RowKit
section
variable {P : Program} {E : Env} {w : World} {nt : Nat} {s : Slots} {h : AH} {gs : Gs} {a : Act} {fo : List Nat}
def gkeep (fo : List Nat) (gs : Gs) : Gs := fun o => if o ∈ fo then gs o else none
theorem refs_sub {x : AV} {o : Nat} (h : o ∈ x.refs) : o ∈ x.refsw := by
 have h1 : ∀ {y : AV}, o ∈ y.ref1 → o ∈ y.ref1w := fun {y} hy => by
   cases y <;> first | exact hy | (simp only [AV.ref1, AV.ref0, List.not_mem_nil] at hy)
 cases x with
 | agg xs =>
   simp only [AV.refs, AV.refsw, List.mem_flatMap] at h ⊢
   obtain ⟨y, hy, ho⟩ := h
   exact ⟨y, hy, h1 ho⟩
 | «when» b x => simp [AV.refs, AV.ref1, AV.ref0] at h
 | _ => exact h1 h
theorem view_gen [Glb] (R : RelG E nt s h gs a w) {Z : Nat → Prop} (hz : ∀ b, Z b → Zf E.Z gs b) {v : Value} {x : AV} (hnz : ∀ o ∈ x.refsw, ∀ b K, gs o = some (b, K) → ¬ Z b) (hx : RA w (Zf E.Z gs) h gs v x) : RC w Z v (x.view h) :=
 view_genR R hz (fun o ho => hnz o (refs_sub ho)) hx
theorem rets_gen [Glb] (R : RelG E nt s h gs a w) {Z : Nat → Prop} (hz : ∀ b, Z b → Zf E.Z gs b) {fn : Func} {xs : List AV} (hnz : ∀ x ∈ xs, ∀ o ∈ x.refsw, ∀ b K, gs o = some (b, K) → ¬ Z b) (hr : retAll P s h fn.results.toList xs) :
   ∃ v, (results fn a.tmps).run P w = .ok v w ∧ RC w Z v (tupled (xs.map fun x => x.view h)) ∧ ∀ x, xs = [x] → RA w (Zf E.Z gs) h gs v x := by
 obtain ⟨vs, h1, h2, h3⟩ := rets_run R _ xs hr
 have hm : (results fn a.tmps).run P w = .ok (if hh : vs.toArray.size = 1 then vs.toArray[0] else .tuple vs.toArray) w := by
   rw [results_eq, ← Array.toArray_toList (xs := fn.results), List.mapM_toArray]
   simp only [Sem.run_bind, Sem.run_map, h1, Result.andThen_ok, Sem.run_pure]
 refine ⟨_, hm, ?_⟩
 clear hm h1 hr
 match vs, xs, h2, h3, hnz with
 | [v], [x], _, h3, hnz => exact ⟨view_gen R hz (hnz x (by simp)) (h3 0 (by simp)), fun y e => by injection e with e; subst e; exact h3 0 (by simp)⟩
 | [], [], _, _, _ => exact ⟨.tup #[] [] rfl fun i hi => by simp at hi, fun y e => by cases e⟩
 | v1 :: v2 :: vs, x1 :: x2 :: xs, h2, h3, hnz =>
   have hne : ¬ (v1 :: v2 :: vs).toArray.size = 1 := by simp
   rw [dif_neg hne]
   refine ⟨.tup _ _ (by simpa using h2) fun i hi => ?_, fun y e => by cases e⟩
   have hi' : i < (x1 :: x2 :: xs).length := by simpa using hi
   have hiv : i < (v1 :: v2 :: vs).length := by rw [h2]; exact hi'
   have h5 := h3 i hi'
   rw [getD_lt hiv, getD_lt hi'] at h5
   have h4 := view_gen R hz (hnz _ (List.getElem_mem hi')) h5
   have e1 : (v1 :: v2 :: vs).toArray.getD i undef = (v1 :: v2 :: vs)[i] := by
     have : i < (v1 :: v2 :: vs).toArray.size := by simpa using hiv
     simp only [Array.getD, this, dite_true, Array.getInternal_eq_getElem, List.getElem_toArray]
   rw [e1, getD_lt hi]
   simp only [← List.map_cons, List.getElem_map]
   exact h4
end
def FRetQ [Glb] (P : Program) (fn : Func) (fo : List Nat) (Q : Out → AH → Prop) : APost
 | .ret, s, h | .normal, s, h => (fo.all fun o => boxIn fo (h o)) = true ∧ ∃ xs, retAll P s h fn.results.toList xs ∧
     ((∃ r, (∀ x ∈ xs, ∀ o ∈ x.refsw, o ∉ fo) ∧ CV.Sub (tupled (xs.map fun x => x.view h)) r ∧ Q (.ret (.c r)) (keepH fo h)) ∨ ∃ x, xs = [x] ∧ (∀ o ∈ x.refsw, o ∈ fo) ∧ Q (.ret x) (keepH fo h))
 | .panic c, _, h => (fo.all fun o => boxIn fo (h o)) = true ∧ Q (.pan c) (keepH fo h)
 | _, _, _ => False
def entryA (xs : List AV) : Slots := fun t => xs.getD t (.c .any)
theorem keep_of_boxIn {fo : List Nat} {s : Slots} {h : AH} (hb : (fo.all fun o => boxIn fo (h o)) = true) : Keep [] fo s h := by
 rw [List.all_eq_true] at hb
 refine ⟨fun t ht => by simp at ht, fun o ho ty cells e x hx o' ho' => ?_, fun o ho o' ho' => ?_⟩
 · have := hb o ho
   rw [e] at this
   unfold boxIn refsIn at this
   rw [List.all_eq_true] at this
   have := this x hx
   rw [List.all_eq_true] at this
   simpa using this o' ho'
 · have := hb o ho
   cases e : h o with
   | map es c =>
     rw [e] at this ho'
     unfold boxIn refsIn at this
     simp only [AObj.refsM, List.mem_flatMap] at ho'
     obtain ⟨x, hx, hxo⟩ := ho'
     rw [List.all_eq_true] at this
     have := this x.2.2 (List.mem_map.2 ⟨x, hx, rfl⟩)
     rw [List.all_eq_true] at this
     simpa using this o' hxo
   | iter m s l t =>
     rw [e] at this ho'
     simp only [AObj.refsM, List.mem_singleton] at ho'
     subst ho'
     simpa [boxIn] using this
   | _ => rw [e] at ho'; simp [AObj.refsM] at ho'
def FEnd [Glb] (Z : Nat → Prop) (w : World) (h : AH) (gs : Gs) (Q : Out → AH → Prop) (e : Ending) (w' : World) : Prop := ∃ out h' gs', Q out h' ∧ outOk (RA w' (Zf Z gs') h' gs') e out ∧ HeapOk w' Z h' gs' ∧ BelowX (fun b => ∃ o K, gs o = some (b, K)) w w' ∧ Refs h gs h' gs' ∧
     ∀ o b K, gs' o = some (b, K) → w.heap.size ≤ b ∨ ∃ o' K', gs o' = some (b, K')
theorem frame_wp0 [Glb] {P : Program} {fn : Func} {c : Code} {s0 : Slots} {h : AH} {fo0 fo : List Nat} {Q : Out → AH → Prop} (hfo0 : ∀ o, h o ≠ .gone → o ∈ fo0) (hfo : ∀ o, h o ≠ .gone → o ∈ fo) (hc : AWp P fn.ntmps fo0 c (FRetQ P fn fo Q) s0 h) {Z : Nat → Prop} {w : World} {gs : Gs} {a0 : Act} (hR : Rel ⟨w, Z, h, gs, []⟩ fn.ntmps s0 h a0 w) :
   c.wp P (bodyPost P fn (FEnd Z w h gs Q)) a0 w := by
 have key : ∀ (a' : Act) (w' : World) (s' : Slots) (h' : AH) (gs' : Gs), RelG ⟨w, Z, h, gs, []⟩ fn.ntmps s' h' gs' a' w' → (fo.all fun o => boxIn fo (h' o)) = true →
     HeapOk w' Z (keepH fo h') (gkeep fo gs') ∧ BelowX (fun b => ∃ o K, gs o = some (b, K)) w w' ∧ Refs h gs (keepH fo h') (gkeep fo gs') ∧ ∀ o b K, gkeep fo gs' o = some (b, K) → w.heap.size ≤ b ∨ ∃ o' K', gs o' = some (b, K') := by
   intro a' w' s' h' gs' R' hbx
   have sub : ∀ o b K, gkeep fo gs' o = some (b, K) → gs' o = some (b, K) := fun o b K e => by
     unfold gkeep at e
     split at e
     · exact e
     · cases e
   have hK := keep_of_boxIn (s := s') hbx
   have hz : ∀ b, Zf Z (gkeep fo gs') b → Zf Z gs' b := by
     rintro b (hb | ⟨o, K, e⟩)
     · exact .inl hb
     · exact .inr ⟨o, K, sub _ _ _ e⟩
   have hl : Later w' w' (Zf Z gs') (Zf Z (gkeep fo gs')) := ⟨Nat.le_refl _, fun _ _ _ => rfl, fun b hb _ => hz b hb⟩
   have hk : ∀ o, o ∈ fo → keepH fo h' o = h' o ∧ gkeep fo gs' o = gs' o := fun o ho => ⟨by simp [keepH, ho], by simp [gkeep, ho]⟩
   refine ⟨⟨fun o b K e => ?_, fun o o' b K K' e e' => R'.inj _ _ _ _ _ (sub _ _ _ e) (sub _ _ _ e'), fun o => ?_⟩, R'.below, ?_, fun o b K e => (R'.fresh _ _ _ (sub _ _ _ e)).1⟩
   · have h1 := R'.fresh _ _ _ (sub _ _ _ e)
     refine ⟨h1.2, fun hZ => ?_⟩
     rcases h1.1 with q | q
     · have := R'.zlt b hZ
       dsimp only at this q
       omega
     · exact (R'.zd b q).1 hZ
   · by_cases ho : o ∈ fo
     · have hob := R'.objs o
       rw [(hk o ho).1]
       cases hx : h' o with
       | gone =>
         rw [hx] at hob
         exact (hk o ho).2.trans hob
       | blk b ob =>
         rw [hx] at hob
         obtain ⟨K', g1, g2⟩ := hob
         exact ⟨K', (hk o ho).2.trans g1, g2⟩
       | box ty cells =>
         rw [hx] at hob
         obtain ⟨b, K', cur, g1, g2, g3, g4, g5⟩ := hob
         refine ⟨b, K', cur, (hk o ho).2.trans g1, g2, g3, g4, fun j hj => (g5 j hj).kept hz fun o' ho' => hk o' (hK.boxes o ho ty cells hx _ ?_ o' ho')⟩
         rw [getD_lt hj]
         exact List.getElem_mem hj
       | map es c =>
         rw [hx] at hob
         obtain ⟨b, K', ents, g1, g2, g3, g4, g5⟩ := hob
         refine ⟨b, K', ents, (hk o ho).2.trans g1, g2, g3, g4, fun j hj => (g5 j hj).kept hz fun o' ho' => hk o' (hK.maps o ho o' ?_)⟩
         rw [hx]
         rw [getD_lt hj] at ho'
         exact List.mem_flatMap.2 ⟨_, List.getElem_mem hj, ho'⟩
       | iter m s l t =>
         rw [hx] at hob
         obtain ⟨b, K', bm, Km, es, c, g1, g2, g3, g4⟩ := hob
         have hm := hk m (hK.maps o ho m (by rw [hx]; simp [AObj.refsM]))
         exact ⟨b, K', bm, Km, es, c, (hk o ho).2.trans g1, hm.1.trans g2, hm.2.trans g3, g4⟩
       | row ty sz n f =>
         rw [hx] at hob
         rcases hob with q1 | ⟨b', K', cur, q1, q2, q3, q4, q5, q6, q7, q8⟩
         · exact .inl ((hk o ho).2.trans q1)
         · exact .inr ⟨b', K', cur, (hk o ho).2.trans q1, q2, q3, q4, q5, q6, q7, fun i j hi hj => (q8 i j hi hj).later hl⟩
     · have : keepH fo h' o = .gone := by simp [keepH, ho]
       rw [this]
       show gkeep fo gs' o = none
       simp [gkeep, ho]
   · refine ⟨fun o ty cells e => ?_, fun o ty sz n f e => ?_, fun o es c e => ?_, fun o m s l t e => ?_⟩
     · have hm := hk o (hfo o (by rw [e]; simp))
       rw [hm.1, hm.2]
       exact R'.refs.box o ty cells e
     · have hm := hk o (hfo o (by rw [e]; simp))
       rw [hm.1, hm.2]
       exact R'.refs.row o ty sz n f e
     · have hm := hk o (hfo o (by rw [e]; simp))
       rw [hm.1, hm.2]
       exact R'.refs.map o es c e
     · have hm := hk o (hfo o (by rw [e]; simp))
       rw [hm.1, hm.2]
       exact R'.refs.iter o m s l t e
 refine wp_mono (hc ⟨w, Z, h, gs, []⟩ _ w hfo0 hR) fun e a' w' ⟨s', h', q, gs', R'⟩ => ?_
 have done : FRetQ P fn fo Q .ret s' h' → a'.defers = [] ∧ ∃ v, (results fn a'.tmps).run P w' = .ok v w' ∧ ∃ out h' gs', Q out h' ∧ outOk (RA w' (Zf Z gs') h' gs') (.returned v) out ∧ HeapOk w' Z h' gs' ∧ BelowX (fun b => ∃ o K, gs o = some (b, K)) w w' ∧ Refs h gs h' gs' ∧
     ∀ o b K, gs' o = some (b, K) → w.heap.size ≤ b ∨ ∃ o' K', gs o' = some (b, K') := by
   rintro ⟨hbx, ys, q1, q2⟩
   obtain ⟨k1, k2, k3, k4⟩ := key a' w' s' h' gs' R' hbx
   have hz : ∀ b, Zf Z (gkeep fo gs') b → Zf Z gs' b := by
     rintro b (hb | ⟨o, K, e⟩)
     · exact .inl hb
     · unfold gkeep at e
       split at e
       · exact .inr ⟨o, K, e⟩
       · cases e
   rcases q2 with ⟨r, hno, hsub, hq⟩ | ⟨x, rfl, hin, hq⟩
   · obtain ⟨v, h1, h2, _⟩ := rets_gen R' (Z := Zf Z (gkeep fo gs')) hz (fun x hx o ho b K e hb => by
       rcases hb with hb | ⟨o', K', e'⟩
       · have h1 := R'.fresh _ _ _ e
         rcases h1.1 with q | q
         · have := R'.zlt b hb
           dsimp only at this q
           omega
         · exact (R'.zd b q).1 hb
       · unfold gkeep at e'
         split at e'
         · rename_i hm
           have := R'.inj _ _ _ _ _ e e'
           subst this
           exact hno x hx o ho hm
         · cases e') q1
     exact ⟨R'.defers, v, h1, _, _, _, hq, .c _ _ (hsub _ _ _ h2), k1, k2, k3, k4⟩
   · obtain ⟨v, h1, _, h3⟩ := rets_gen R' (Z := fun _ => False) (fun _ hb => hb.elim) (fun _ _ _ _ _ _ _ hb => hb) q1
     exact ⟨R'.defers, v, h1, _, _, _, hq, (h3 x rfl).kept hz (fun o ho => ⟨by simp [keepH, hin o ho], by simp [gkeep, hin o ho]⟩), k1, k2, k3, k4⟩
 cases e with
 | normal => exact done q
 | ret => exact done q
 | panic ch =>
   obtain ⟨hbx, hq⟩ := q
   obtain ⟨k1, k2, k3, k4⟩ := key a' w' s' h' gs' R' hbx
   exact ⟨R'.defers, _, _, _, hq, rfl, k1, k2, k3, k4⟩
 | _ => exact q.elim
theorem afun_of0 [Glb] {P : Program} {f : FuncId} {fn : Func} {c : Code} {xs : List AV} {h : AH} {fo0 fo : List Nat} {Q : Out → AH → Prop} (hf : P.funcs[f]? = some fn) (hb : fn.body = some c) (hn : (fn.name == "runtime.NumGoroutine") = false) (hl : xs.length ≤ fn.ntmps)
   (hfo0 : ∀ o, h o ≠ .gone → o ∈ fo0) (hfo : ∀ o, h o ≠ .gone → o ∈ fo) (hc : AWp P fn.ntmps fo0 c (FRetQ P fn fo Q) (entryA xs) h) : AFun P f xs h Q := by
 refine ⟨⟨fn, hf, hn, by rw [hb]; rfl⟩, fun Z w gs vs hz hgl hok hlen hx => ?_⟩
 have hR : Rel ⟨w, Z, h, gs, []⟩ fn.ntmps (entryA xs) h { tmps := vs.toArray ++ Array.replicate (fn.ntmps - vs.toArray.size) undef, defers := [] } w := by
   refine ⟨gs, BelowX.refl _ _, hz, fun b hb => (by obtain ⟨o, K, e⟩ := hb; exact ⟨(hok.fresh o b K e).2, (hok.fresh o b K e).1⟩), hgl, fun o b K e => ⟨.inr ⟨o, K, e⟩, (hok.fresh o b K e).1⟩, hok.inj, hok.objs, fun t => ?_, by simp; omega, rfl, Refs.refl _ _⟩
   by_cases ht : t < xs.length
   · have e : (vs.toArray ++ Array.replicate (fn.ntmps - vs.toArray.size) undef).getD t undef = vs.getD t undef := by
       simp only [Array.getD_eq_getD_getElem?, List.getD_eq_getElem?_getD]
       rw [Array.getElem?_append_left (by simp; omega)]
       simp
     have e2 : entryA xs t = xs.getD t default := by unfold entryA; rw [getD_lt ht, getD_lt ht]
     simp only [e, e2]
     exact hx t ht
   · have : entryA xs t = .c .any := by
       unfold entryA
       rw [List.getD_eq_getElem?_getD, List.getElem?_eq_none (by omega)]
       rfl
     rw [this]
     exact .c _ _ (.any _)
 exact calls_of_wp hf hb (frame_wp0 hfo0 hfo hc hR)
theorem afun_of [Glb] {P : Program} {f : FuncId} {fn : Func} {c : Code} {xs : List AV} {h : AH} {fo : List Nat} {Q : Out → AH → Prop} (hf : P.funcs[f]? = some fn) (hb : fn.body = some c) (hn : (fn.name == "runtime.NumGoroutine") = false) (hl : xs.length ≤ fn.ntmps)
   (hfo : ∀ o, h o ≠ .gone → o ∈ fo) (hc : AWp P fn.ntmps fo c (FRetQ P fn fo Q) (entryA xs) h) : AFun P f xs h Q := afun_of0 hf hb hn hl hfo hfo hc
end Go.Am
namespace Go.Am
open Go.RowKit
def AWpL [Glb] (P : Program) (nt : Nat) (fo : List Nat) (ops : Array Oper) (l : List Oper) (Q : APost) (s : Slots) (h : AH) : Prop :=
 ∀ (E : Env) (a : Act) (w : World), E.In fo → Rel E nt s h a w → wpList P ops (fun e a' w' => ∃ s' h', Q e s' h' ∧ Rel E nt s' h' a' w') l a w
def dOk (nt : Nat) : Option Tmp → Bool
 | some d => decide (d < nt)
 | none => true
section
variable {P : Program} {nt : Nat} {fo : List Nat} {ops : Array Oper} {l : List Oper} {Q : APost} {s : Slots} {h : AH}
theorem awpl_end [Glb] (hq : Q .normal s h) : AWpL P nt fo ops [] Q s h := fun _ _ _ _ R => ⟨s, h, hq, R⟩
theorem run_nil [Glb] {K : Slots → AH → Prop} (hk : K s h) : aRun P ops K [] s h := hk
theorem awpl_op [Glb] {o : Oper} (hd : (match o.dst with | some d => decide (d < nt) | none => true) = true) (hg : (match o.guard with | some (j, _) => (match (ops[j]?).bind (·.dst) with | some t => decide (t < nt) | none => true) | none => true) = true)
   (hr : aRun P ops (AWpL P nt fo ops l Q) [o] s h) : AWpL P nt fo ops (o :: l) Q s h := by
 intro E a w I ⟨gs, R⟩
 obtain ⟨x, eff, h1, h2⟩ := hr
 have hd' : ∀ t, o.dst = some t → t < nt := fun t e => by rw [e] at hd; simpa using hd
 have hg' : ∀ j b t, o.guard = some (j, b) → (ops[j]?).bind (·.dst) = some t → t < nt := fun j b t e1 e2 => by rw [e1] at hg; simp only [e2] at hg; simpa using hg
 unfold wpList
 rcases step_ok (Q := fun e a' w' => ∃ s' h', Q e s' h' ∧ Rel E nt s' h' a' w') R hd' hg' h1 with ⟨hw, hp⟩ | ⟨hw, hp⟩
 · rw [if_pos hw]
   exact .inl (Oper.wp_mono (fun a' w' R' => h2 E a' w' I R') hp)
 · rw [if_neg (by simp [hw])]
   exact h2 E _ w I hp
theorem awp_regL [Glb] {id : Nat} {ops : List Oper} (hr : AWpL P nt fo ops.toArray ops Q s h) : AWp P nt fo (.region id ops.toArray false) Q s h := fun E a w I R => wp_region_list (by simpa using hr E a w I R)
theorem awp_seqL [Glb] {id : Nat} {ops : List Oper} {y : Code} (hr : AWpL P nt fo ops.toArray ops (thenQ (AWp P nt fo y Q) Q) s h) : AWp P nt fo (.seq (.region id ops.toArray false) y) Q s h := awp_seq (awp_regL hr)
def CallQ [Glb] (P : Program) (nt : Nat) (fo : List Nat) (ops : Array Oper) (l : List Oper) (Q : APost) (d : Option Tmp) (ks : List Nat) (ρ : Nat → Nat) (s : Slots) (h : AH) : Out → AH → Prop
 | .ret x, h1 => (∀ k ∈ x.refsw, k ∈ ks) ∧ Foot ks h1 ∧ AWpL P nt fo ops l Q (updO s d (x.ren ρ)) (appL ρ (AObj.ren ρ) h1 ks h)
 | .pan c, h1 => Foot ks h1 ∧ Q (.panic c) s (appL ρ (AObj.ren ρ) h1 ks h)
theorem enter_core [Glb] {o : Oper} {f : FuncId} {xs : List AV} {h1 : AH} {ks : List Nat} {ρ : Nat → Nat} (hgd : o.guard = none) (hd : ∀ t, o.dst = some t → t < nt)
   (hf : AFun P f xs h1 (CallQ P nt fo ops l Q o.dst ks ρ s h)) (hi : ∀ a ∈ ks, ∀ b ∈ ks, ρ a = ρ b → a = b) (hft : Foot ks h1) (hh : ∀ k ∈ ks, h (ρ k) = (h1 k).ren ρ) (hx : ∀ x ∈ xs, ∀ k ∈ x.refsw, k ∈ ks)
   (hrun : ∀ (E : Env) (a : Act) (w : World) (gs : Gs), RelG E nt s h gs a w → Enters P f → ∃ vs : List Value, (execOp a.eval o).run P w = .ok (.enter f vs.toArray) w ∧ vs.length = xs.length ∧ ∀ i, i < xs.length → RA w (Zf E.Z gs) h gs (vs.getD i undef) ((xs.getD i default).ren ρ)) :
   AWpL P nt fo ops (o :: l) Q s h := by
 intro E a w I ⟨gs, R⟩
 obtain ⟨vs, hr, hlen, hv⟩ := hrun E a w gs R hf.1
 unfold wpList
 rw [if_pos (by simp [Region.wanted, hgd])]
 refine .inl ?_
 unfold Oper.wp
 rw [hr]
 have hz : ∀ b, Zf (zsub ks ρ E.Z gs) (gsub ks ρ gs) b → Zf E.Z gs b := fun b => (zf_sub b).1
 have hcall := hf.2 (zsub ks ρ E.Z gs) w (gsub ks ρ gs) vs (fun b hb => by
     rcases hb.1 with q | ⟨o, K, q⟩
     · exact Nat.lt_of_lt_of_le (R.zlt b q) R.below.size
     · exact (R.fresh o b K q).2) (fun b hb => by
     have hg := R.glb b hb
     refine ⟨⟨.inl hg.1, ?_⟩, hg.2⟩
     rintro ⟨k, _, K, e⟩
     rcases (R.fresh _ _ _ e).1 with q | q
     · have := R.zlt b hg.1
       omega
     · exact (R.zd b q).1 hg.1) (heap_sub R hi hft hh) hlen (fun i hi' => by
     refine RA.unren hz _ (fun k hk => ?_) (hv i hi')
     have hm : k ∈ ks := hx _ (by rw [getD_lt hi']; exact List.getElem_mem hi') k hk
     exact ⟨hh k hm, gsub_in hm⟩)
 refine hcall.mono fun e w' ⟨out, h1', g1', q, hout, hok, hb, hrf, hnew⟩ => ?_
 cases e with
 | returned v =>
   cases out with
   | pan c => exact hout.elim
   | ret x =>
     obtain ⟨q1, q2, q3⟩ := q
     obtain ⟨R', hval⟩ := heap_back R hi hft hh q2 hok hb hrf hnew
     exact q3 E _ w' I ⟨_, R'.putO hd (hval v x q1 hout)⟩
 | panicked c =>
   cases out with
   | ret x => exact hout.elim
   | pan c' =>
     obtain ⟨q2, q3⟩ := q
     obtain ⟨R', _⟩ := heap_back R hi hft hh q2 hok hb hrf hnew
     have : c = c' := hout
     subst this
     exact ⟨_, _, q3, _, R'⟩
 | outgrown => cases out <;> exact hout.elim
theorem awpl_call [Glb] {d : Option Tmp} {f : FuncId} {args : Array Operand} {ats : Array TypeId} {ty : TypeId} {pos : String} {af : Array Edge} {xs : List AV} {h1 : AH} (ks : List Nat) (ρ : Nat → Nat)
   (hf : AFun P f xs h1 (CallQ P nt fo ops l Q d ks ρ s h)) (hd : dOk nt d = true) (hx : args.toList.map (ev s) = xs.map (AV.ren ρ))
   (hi : ∀ a ∈ ks, ∀ b ∈ ks, ρ a = ρ b → a = b) (hft : Foot ks h1) (hh : ∀ k ∈ ks, h (ρ k) = (h1 k).ren ρ) (hxr : ∀ x ∈ xs, ∀ k ∈ x.refsw, k ∈ ks) :
   AWpL P nt fo ops (⟨d, .call ⟨.value (.func f), args, ats⟩, ty, pos, af, none⟩ :: l) Q s h := by
 refine enter_core (o := ⟨d, .call ⟨.value (.func f), args, ats⟩, ty, pos, af, none⟩) rfl (fun t e => by simp only at e; subst e; simpa [dOk] using hd) hf hi hft hh hxr fun E a w gs R hen => ?_
 obtain ⟨fn, f1, f2, f3⟩ := hen
 have f2' : ¬ fn.name = "runtime.NumGoroutine" := by simpa using f2
 have f3' : ¬ fn.body = none := fun e => by rw [e] at f3; simp at f3
 refine ⟨args.toList.map a.eval, ?_, ?_, fun i hi' => ?_⟩
 · have hvs : (args.toList.map a.eval).toArray = args.map a.eval := Array.ext' (by simp)
   rw [hvs]
   simp [execOp, resolve, Deferred.ofValue, Act.eval, invoke, callFunc, f1, f2', f3']
 · have := congrArg List.length hx
   simpa using this
 · have hl : args.toList.length = xs.length := by simpa using congrArg List.length hx
   have hia : i < args.toList.length := by omega
   have e1 : (args.toList.map a.eval).getD i undef = a.eval args.toList[i] := by rw [getD_lt (by simpa using hia), List.getElem_map]
   have e2 : (xs.getD i default).ren ρ = ev s args.toList[i] := by
     have h3 : (args.toList.map (ev s))[i]'(by simpa using hia) = (xs.map (AV.ren ρ))[i]'(by simpa using hi') := by simp only [hx]
     rw [List.getElem_map, List.getElem_map] at h3
     rw [getD_lt hi', h3]
   rw [e1, e2]
   exact ev_ok R _
theorem awpl_callV [Glb] {d : Option Tmp} {t : Tmp} {f : FuncId} {ps : List AV} {args : Array Operand} {ats : Array TypeId} {ty : TypeId} {pos : String} {af : Array Edge} {xs : List AV} {h1 : AH} (ks : List Nat) (ρ : Nat → Nat)
   (hf : AFun P f xs h1 (CallQ P nt fo ops l Q d ks ρ s h)) (hs : s t = .fn f ps) (hd : dOk nt d = true) (hx : args.toList.map (ev s) ++ ps = xs.map (AV.ren ρ))
   (hi : ∀ a ∈ ks, ∀ b ∈ ks, ρ a = ρ b → a = b) (hft : Foot ks h1) (hh : ∀ k ∈ ks, h (ρ k) = (h1 k).ren ρ) (hxr : ∀ x ∈ xs, ∀ k ∈ x.refsw, k ∈ ks) :
   AWpL P nt fo ops (⟨d, .call ⟨.value (.tmp t), args, ats⟩, ty, pos, af, none⟩ :: l) Q s h := by
 refine enter_core (o := ⟨d, .call ⟨.value (.tmp t), args, ats⟩, ty, pos, af, none⟩) rfl (fun t e => by simp only at e; subst e; simpa [dOk] using hd) hf hi hft hh hxr fun E a w gs R hen => ?_
 obtain ⟨fn, f1, f2, f3⟩ := hen
 have f2' : ¬ fn.name = "runtime.NumGoroutine" := by simpa using f2
 have f3' : ¬ fn.body = none := fun e => by rw [e] at f3; simp at f3
 have hv := R.slots t
 rw [hs] at hv
 generalize hvt : a.tmps.getD t undef = v at hv
 cases hv with
 | fn _ cs _ hl' _ hh' =>
   have hlen : args.size + ps.length = xs.length := by simpa using congrArg List.length hx
   refine ⟨args.toList.map a.eval ++ cs.toList, ?_, by simp; omega, fun i hi' => ?_⟩
   · have hvs : (args.toList.map a.eval ++ cs.toList).toArray = args.map a.eval ++ cs := Array.ext' (by simp)
     have het : a.eval (.tmp t) = .func (.func f) #[] cs := hvt
     rw [hvs]
     simp [execOp, resolve, Deferred.ofValue, het, invoke, callFunc, f1, f2', f3']
   · have e2 : (xs.getD i default).ren ρ = (args.toList.map (ev s) ++ ps)[i]'(by simp; omega) := by
       have h3 : (args.toList.map (ev s) ++ ps)[i]'(by simp; omega) = (xs.map (AV.ren ρ))[i]'(by simpa using hi') := by simp only [hx]
       rw [h3, List.getElem_map, getD_lt hi']
     rw [e2]
     by_cases hia : i < args.size
     · have e1 : (args.toList.map a.eval ++ cs.toList).getD i undef = a.eval (args.toList[i]'(by simpa using hia)) := by
         rw [List.getD_eq_getElem?_getD, List.getElem?_append_left (by simpa using hia)]
         rw [List.getElem?_map, List.getElem?_eq_getElem (by simpa using hia)]
         rfl
       rw [e1, List.getElem_append_left (by simpa using hia), List.getElem_map]
       exact ev_ok R _
     · have hio : i - args.size < ps.length := by omega
       have q := hh' _ hio
       have e1 : (args.toList.map a.eval ++ cs.toList).getD i undef = cs.getD (i - args.size) undef := by
         rw [List.getD_eq_getElem?_getD, List.getElem?_append_right (by simpa using Nat.le_of_not_lt hia)]
         simp [Array.getD_eq_getD_getElem?]
       rw [e1, List.getElem_append_right (by simpa using Nat.le_of_not_lt hia)]
       rw [getD_lt hio] at q
       simpa using q
end
end Go.Am
namespace Go.Am
open Go.RowKit
set_option linter.unusedVariables false
section
variable {P : Program} {ops : Array Oper} {K : Slots → AH → Prop} {r : List Oper} {s : Slots} {h : AH} {d : Nat} {ty : TypeId} {pos : String} {af : Array Edge} {x : AV}
theorem m_move [Glb] {y : Operand}  (hn : aRun P ops K r (upd s d (x)) h) (h1 : ev s y = x := by simp only [go_sem, reduceIte, Nat.reduceEqDiff, FF] <;> rfl) : aRun P ops K (⟨some d, .move y, ty, pos, af, none⟩ :: r) s h := st0 rfl (k_move h1) hn
theorem g_move [Glb] {j0 t0 : Nat} {want g0 G : Bool} {u0 : AV} {y : Operand}  (hn : aRun P ops K r (upd s d (.when G (x))) h) (ht : (ops[j0]?).bind (·.dst) = some t0 := by rfl) (hs : s t0 = u0 := by simp only [go_sem, reduceIte, Nat.reduceEqDiff, FF] <;> rfl) (hu : u0.strip = .bool g0 := by rfl) (hG : (u0.wh && g0 == want) = G := by simp only [go_sem, reduceIte, Nat.reduceEqDiff, FF] <;> rfl) (h1 : ev s y = x := by simp only [go_sem, reduceIte, Nat.reduceEqDiff, FF] <;> rfl) : aRun P ops K (⟨some d, .move y, ty, pos, af, some (j0, want)⟩ :: r) s h := sg0 rfl ht hs hu hG (k_move h1) hn
theorem m_assign [Glb] {y : Operand}  (hn : aRun P ops K r (upd s d (x)) h) (h1 : ev s y = x := by simp only [go_sem, reduceIte, Nat.reduceEqDiff, FF] <;> rfl) : aRun P ops K (⟨some d, .assign y, ty, pos, af, none⟩ :: r) s h := st0 rfl (k_assign h1) hn
theorem m_pick [Glb] {c y z : Operand} {u1 u2 u3 : AV} {q1 q2 q3 q4 : Bool}  (hn : aRun P ops K r (upd s d (.bool q4)) h) (h1 : ev s c = u1 := by simp only [go_sem, reduceIte, Nat.reduceEqDiff, FF] <;> rfl) (h2 : ev s y = u2 := by simp only [go_sem, reduceIte, Nat.reduceEqDiff, FF] <;> rfl) (h3 : ev s z = u3 := by simp only [go_sem, reduceIte, Nat.reduceEqDiff, FF] <;> rfl) (e1 : u1.strip = .bool q1 := by rfl) (e2 : u2.strip = .bool q2 := by rfl) (e3 : u3.strip = .bool q3 := by rfl) (hw : true = true → u1.wh = true ∧ (q1 = true → u2.wh = true) ∧ (q1 = false → u3.wh = true) := by intro hG; first | (simp only [go_sem, reduceIte, Nat.reduceEqDiff, FF]; done) | (simp [go_sem]; done) | (simp [go_sem] at hG ⊢ <;> simp [hG] <;> (intros; simp_all); done) | (simp [go_sem] <;> (intros; simp_all); done) | (refine ⟨?_, ?_, ?_⟩ <;> intros <;> simp_all [go_sem])) (hr : (bif q1 then q2 else q3) = q4 := by first | (simp only [go_sem, reduceIte, Nat.reduceEqDiff, FF] <;> rfl) | rfl) : aRun P ops K (⟨some d, .pick c y z, ty, pos, af, none⟩ :: r) s h := st0 rfl (k_pick h1 h2 h3 e1 e2 e3 hw hr) hn
theorem g_pick [Glb] {j0 t0 : Nat} {want g0 G : Bool} {u0 : AV} {c y z : Operand} {u1 u2 u3 : AV} {q1 q2 q3 q4 : Bool}  (hn : aRun P ops K r (upd s d (.when G (.bool q4))) h) (ht : (ops[j0]?).bind (·.dst) = some t0 := by rfl) (hs : s t0 = u0 := by simp only [go_sem, reduceIte, Nat.reduceEqDiff, FF] <;> rfl) (hu : u0.strip = .bool g0 := by rfl) (hG : (u0.wh && g0 == want) = G := by simp only [go_sem, reduceIte, Nat.reduceEqDiff, FF] <;> rfl) (h1 : ev s c = u1 := by simp only [go_sem, reduceIte, Nat.reduceEqDiff, FF] <;> rfl) (h2 : ev s y = u2 := by simp only [go_sem, reduceIte, Nat.reduceEqDiff, FF] <;> rfl) (h3 : ev s z = u3 := by simp only [go_sem, reduceIte, Nat.reduceEqDiff, FF] <;> rfl) (e1 : u1.strip = .bool q1 := by rfl) (e2 : u2.strip = .bool q2 := by rfl) (e3 : u3.strip = .bool q3 := by rfl) (hw : G = true → u1.wh = true ∧ (q1 = true → u2.wh = true) ∧ (q1 = false → u3.wh = true) := by intro hG; first | (simp only [go_sem, reduceIte, Nat.reduceEqDiff, FF]; done) | (simp [go_sem]; done) | (simp [go_sem] at hG ⊢ <;> simp [hG] <;> (intros; simp_all); done) | (simp [go_sem] <;> (intros; simp_all); done) | (refine ⟨?_, ?_, ?_⟩ <;> intros <;> simp_all [go_sem])) (hr : (bif q1 then q2 else q3) = q4 := by first | (simp only [go_sem, reduceIte, Nat.reduceEqDiff, FF] <;> rfl) | rfl) : aRun P ops K (⟨some d, .pick c y z, ty, pos, af, some (j0, want)⟩ :: r) s h := sg0 rfl ht hs hu hG (k_pick h1 h2 h3 e1 e2 e3 hw hr) hn
theorem m_bin [Glb] {op : BinOp} {t t2 : TypeId} {y z : Operand} {u v : AV} {v1 v2 res : Value}  (hn : aRun P ops K r (upd s d (.c (.raw res))) h) (h1 : ev s y = u := by simp only [go_sem, reduceIte, Nat.reduceEqDiff, FF] <;> rfl) (h2 : ev s z = v := by simp only [go_sem, reduceIte, Nat.reduceEqDiff, FF] <;> rfl) (e1 : u.strip = .c (.raw v1) := by rfl) (e2 : v.strip = .c (.raw v2) := by rfl) (hb : bin op v1 v2 = some res := by simp only [go_sem, reduceIte, Nat.reduceEqDiff, FF] <;> rfl) (hw : true = true → u.wh = true ∧ v.wh = true := by intro hG; simp only [go_sem]) : aRun P ops K (⟨some d, .binOp op t y z t2, ty, pos, af, none⟩ :: r) s h := st0 rfl (k_bin h1 h2 e1 e2 hb hw) hn
theorem g_bin [Glb] {j0 t0 : Nat} {want g0 G : Bool} {u0 : AV} {op : BinOp} {t t2 : TypeId} {y z : Operand} {u v : AV} {v1 v2 res : Value}  (hn : aRun P ops K r (upd s d (.when G (.c (.raw res)))) h) (ht : (ops[j0]?).bind (·.dst) = some t0 := by rfl) (hs : s t0 = u0 := by simp only [go_sem, reduceIte, Nat.reduceEqDiff, FF] <;> rfl) (hu : u0.strip = .bool g0 := by rfl) (hG : (u0.wh && g0 == want) = G := by simp only [go_sem, reduceIte, Nat.reduceEqDiff, FF] <;> rfl) (h1 : ev s y = u := by simp only [go_sem, reduceIte, Nat.reduceEqDiff, FF] <;> rfl) (h2 : ev s z = v := by simp only [go_sem, reduceIte, Nat.reduceEqDiff, FF] <;> rfl) (e1 : u.strip = .c (.raw v1) := by rfl) (e2 : v.strip = .c (.raw v2) := by rfl) (hb : bin op v1 v2 = some res := by simp only [go_sem, reduceIte, Nat.reduceEqDiff, FF] <;> rfl) (hw : G = true → u.wh = true ∧ v.wh = true := by intro hG; simp only [go_sem, hG]) : aRun P ops K (⟨some d, .binOp op t y z t2, ty, pos, af, some (j0, want)⟩ :: r) s h := sg0 rfl ht hs hu hG (k_bin h1 h2 e1 e2 hb hw) hn
theorem m_binA [Glb] {op : BinOp} {t t2 : TypeId} {y z : Operand} {u v : AV} {us vs : List Value} {res : Value} (hb : AggBin P op t us vs res) (hn : aRun P ops K r (upd s d (.c (.raw res))) h) (h1 : ev s y = u := by simp only [go_sem, reduceIte, Nat.reduceEqDiff, FF] <;> rfl) (h2 : ev s z = v := by simp only [go_sem, reduceIte, Nat.reduceEqDiff, FF] <;> rfl) (e1 : u.strip.rawAgg = some us := by simp only [go_sem, reduceIte, Nat.reduceEqDiff, FF] <;> rfl) (e2 : v.strip.rawAgg = some vs := by simp only [go_sem, reduceIte, Nat.reduceEqDiff, FF] <;> rfl) (hw : true = true → u.wh = true ∧ v.wh = true := by intro hG; simp only [go_sem]) : aRun P ops K (⟨some d, .binOp op t y z t2, ty, pos, af, none⟩ :: r) s h := st0 rfl (k_binA h1 h2 e1 e2 hb hw) hn
theorem g_binA [Glb] {j0 t0 : Nat} {want g0 G : Bool} {u0 : AV} {op : BinOp} {t t2 : TypeId} {y z : Operand} {u v : AV} {us vs : List Value} {res : Value} (hb : AggBin P op t us vs res) (hn : aRun P ops K r (upd s d (.when G (.c (.raw res)))) h) (ht : (ops[j0]?).bind (·.dst) = some t0 := by rfl) (hs : s t0 = u0 := by simp only [go_sem, reduceIte, Nat.reduceEqDiff, FF] <;> rfl) (hu : u0.strip = .bool g0 := by rfl) (hG : (u0.wh && g0 == want) = G := by simp only [go_sem, reduceIte, Nat.reduceEqDiff, FF] <;> rfl) (h1 : ev s y = u := by simp only [go_sem, reduceIte, Nat.reduceEqDiff, FF] <;> rfl) (h2 : ev s z = v := by simp only [go_sem, reduceIte, Nat.reduceEqDiff, FF] <;> rfl) (e1 : u.strip.rawAgg = some us := by simp only [go_sem, reduceIte, Nat.reduceEqDiff, FF] <;> rfl) (e2 : v.strip.rawAgg = some vs := by simp only [go_sem, reduceIte, Nat.reduceEqDiff, FF] <;> rfl) (hw : G = true → u.wh = true ∧ v.wh = true := by intro hG; simp only [go_sem, hG]) : aRun P ops K (⟨some d, .binOp op t y z t2, ty, pos, af, some (j0, want)⟩ :: r) s h := sg0 rfl ht hs hu hG (k_binA h1 h2 e1 e2 hb hw) hn
theorem m_not [Glb] {t : TypeId} {y : Operand} {u : AV} {q1 q2 : Bool}  (hn : aRun P ops K r (upd s d (.bool q2)) h) (h1 : ev s y = u := by simp only [go_sem, reduceIte, Nat.reduceEqDiff, FF] <;> rfl) (e1 : u.strip = .bool q1 := by rfl) (hw : true = true → u.wh = true := by intro hG; simp only [go_sem]) (hr : (!q1) = q2 := by first | (simp only [go_sem, reduceIte, Nat.reduceEqDiff, FF] <;> rfl) | rfl) : aRun P ops K (⟨some d, .unOp .not t y, ty, pos, af, none⟩ :: r) s h := st0 rfl (k_not h1 e1 hw hr) hn
theorem g_not [Glb] {j0 t0 : Nat} {want g0 G : Bool} {u0 : AV} {t : TypeId} {y : Operand} {u : AV} {q1 q2 : Bool}  (hn : aRun P ops K r (upd s d (.when G (.bool q2))) h) (ht : (ops[j0]?).bind (·.dst) = some t0 := by rfl) (hs : s t0 = u0 := by simp only [go_sem, reduceIte, Nat.reduceEqDiff, FF] <;> rfl) (hu : u0.strip = .bool g0 := by rfl) (hG : (u0.wh && g0 == want) = G := by simp only [go_sem, reduceIte, Nat.reduceEqDiff, FF] <;> rfl) (h1 : ev s y = u := by simp only [go_sem, reduceIte, Nat.reduceEqDiff, FF] <;> rfl) (e1 : u.strip = .bool q1 := by rfl) (hw : G = true → u.wh = true := by intro hG; simp only [go_sem, hG]) (hr : (!q1) = q2 := by first | (simp only [go_sem, reduceIte, Nat.reduceEqDiff, FF] <;> rfl) | rfl) : aRun P ops K (⟨some d, .unOp .not t y, ty, pos, af, some (j0, want)⟩ :: r) s h := sg0 rfl ht hs hu hG (k_not h1 e1 hw hr) hn
theorem m_field [Glb] {t : TypeId} {y : Operand} {f : Nat} {u : AV} {i : TI} {off sz : Nat}  (hn : aRun P ops K r (upd s d (x)) h) (h1 : ev s y = u := by simp only [go_sem, reduceIte, Nat.reduceEqDiff, FF] <;> rfl) (ht1 : tinfo P t = some i := by simp only [go_sem] <;> rfl) (hf : i.fields[f]? = some (off, sz) := by rfl) (hz : (sz == 0) = false := by rfl) (hx : addOff off u.strip = some x := by simp only [go_sem, reduceIte, Nat.reduceEqDiff, FF, Nat.reduceAdd, Nat.reduceSub, Nat.reduceMul, Nat.reduceLeDiff] <;> rfl) (hw : true = true → u.wh = true := by intro hG; simp only [go_sem]) : aRun P ops K (⟨some d, .fieldAddr t y f, ty, pos, af, none⟩ :: r) s h := st0 rfl (k_field h1 ht1 hf hz hx hw) hn
theorem g_field [Glb] {j0 t0 : Nat} {want g0 G : Bool} {u0 : AV} {t : TypeId} {y : Operand} {f : Nat} {u : AV} {i : TI} {off sz : Nat}  (hn : aRun P ops K r (upd s d (.when G (x))) h) (ht : (ops[j0]?).bind (·.dst) = some t0 := by rfl) (hs : s t0 = u0 := by simp only [go_sem, reduceIte, Nat.reduceEqDiff, FF] <;> rfl) (hu : u0.strip = .bool g0 := by rfl) (hG : (u0.wh && g0 == want) = G := by simp only [go_sem, reduceIte, Nat.reduceEqDiff, FF] <;> rfl) (h1 : ev s y = u := by simp only [go_sem, reduceIte, Nat.reduceEqDiff, FF] <;> rfl) (ht1 : tinfo P t = some i := by simp only [go_sem] <;> rfl) (hf : i.fields[f]? = some (off, sz) := by rfl) (hz : (sz == 0) = false := by rfl) (hx : addOff off u.strip = some x := by simp only [go_sem, reduceIte, Nat.reduceEqDiff, FF, Nat.reduceAdd, Nat.reduceSub, Nat.reduceMul, Nat.reduceLeDiff] <;> rfl) (hw : G = true → u.wh = true := by intro hG; simp only [go_sem, hG]) : aRun P ops K (⟨some d, .fieldAddr t y f, ty, pos, af, some (j0, want)⟩ :: r) s h := sg0 rfl ht hs hu hG (k_field h1 ht1 hf hz hx hw) hn
theorem m_extract [Glb] {y : Operand} {j : Nat} {u : AV} {xs : List CV} {c : CV}  (hn : aRun P ops K r (upd s d (.c c)) h) (h1 : ev s y = u := by simp only [go_sem, reduceIte, Nat.reduceEqDiff, FF] <;> rfl) (e1 : u.strip = .c (.tup xs) := by rfl) (hw : true = true → u.wh = true := by intro hG; simp only [go_sem]) (hl : (decide (j < xs.length)) = true := by rfl) (hx : xs.getD j .any = c := by rfl) : aRun P ops K (⟨some d, .extract y j, ty, pos, af, none⟩ :: r) s h := st0 rfl (k_extract h1 e1 hw hl hx) hn
theorem m_build [Glb] {t : TypeId} {parts : Array (Nat × Operand)} {i : TI} {ps : List (Nat × AV)} {cs : List AV}  (hn : aRun P ops K r (upd s d (.agg cs)) h) (ht1 : tinfo P t = some i := by simp only [go_sem] <;> rfl) (h1 : i.agg = true := by rfl) (h2 : i.zero.isEmpty = false := by rfl) (h3 : i.fields.isEmpty = false := by rfl) (h4 : (i.fields.all fun p => p.2 != 0) = true := by rfl) (hp : (parts.toList.map fun p => (p.1, ev s p.2)) = ps := by simp only [go_sem, reduceIte, Nat.reduceEqDiff, FF] <;> rfl) (hf : bfill i.fields (i.zero.map constAV1) (ps.map fun p => (p.1, p.2.strip)) = some cs := by simp only [go_sem, reduceIte, Nat.reduceEqDiff, FF, Nat.reduceAdd, Nat.reduceSub, Nat.reduceMul, Nat.reduceLeDiff] <;> rfl) (hw : true = true → (ps.all fun p => p.2.wh) = true := by intro hG; simp only [go_sem, reduceIte, Nat.reduceEqDiff, FF]) : aRun P ops K (⟨some d, .build t parts, ty, pos, af, none⟩ :: r) s h := st0 rfl (k_build ht1 h1 h2 h3 h4 hp hf hw) hn
theorem g_build [Glb] {j0 t0 : Nat} {want g0 G : Bool} {u0 : AV} {t : TypeId} {parts : Array (Nat × Operand)} {i : TI} {ps : List (Nat × AV)} {cs : List AV}  (hn : aRun P ops K r (upd s d (.when G (.agg cs))) h) (ht : (ops[j0]?).bind (·.dst) = some t0 := by rfl) (hs : s t0 = u0 := by simp only [go_sem, reduceIte, Nat.reduceEqDiff, FF] <;> rfl) (hu : u0.strip = .bool g0 := by rfl) (hG : (u0.wh && g0 == want) = G := by simp only [go_sem, reduceIte, Nat.reduceEqDiff, FF] <;> rfl) (ht1 : tinfo P t = some i := by simp only [go_sem] <;> rfl) (h1 : i.agg = true := by rfl) (h2 : i.zero.isEmpty = false := by rfl) (h3 : i.fields.isEmpty = false := by rfl) (h4 : (i.fields.all fun p => p.2 != 0) = true := by rfl) (hp : (parts.toList.map fun p => (p.1, ev s p.2)) = ps := by simp only [go_sem, reduceIte, Nat.reduceEqDiff, FF] <;> rfl) (hf : bfill i.fields (i.zero.map constAV1) (ps.map fun p => (p.1, p.2.strip)) = some cs := by simp only [go_sem, reduceIte, Nat.reduceEqDiff, FF, Nat.reduceAdd, Nat.reduceSub, Nat.reduceMul, Nat.reduceLeDiff] <;> rfl) (hw : G = true → (ps.all fun p => p.2.wh) = true := by intro hG; simp only [go_sem, reduceIte, Nat.reduceEqDiff, FF]) : aRun P ops K (⟨some d, .build t parts, ty, pos, af, some (j0, want)⟩ :: r) s h := sg0 rfl ht hs hu hG (k_build ht1 h1 h2 h3 h4 hp hf hw) hn
theorem m_buildA [Glb] {t el : TypeId} {parts : Array (Nat × Operand)} {i j : TI} {m : Nat} {ps : List (Nat × AV)} {cs : List AV}  (hn : aRun P ops K r (upd s d (.agg cs)) h) (ht1 : tinfo P t = some i := by simp only [go_sem] <;> rfl) (hua : P.underlying t = some (.array m el) := by simp only [go_sem] <;> rfl) (hj : tinfo P el = some j := by simp only [go_sem] <;> rfl) (hj1 : j.size = 1 := by rfl) (h2 : i.zero.isEmpty = false := by rfl) (hp : (parts.toList.map fun p => (p.1, ev s p.2)) = ps := by simp only [go_sem, reduceIte, Nat.reduceEqDiff, FF] <;> rfl) (hf : bfill ((List.range m).map fun q => (q, 1)) (i.zero.map constAV1) (ps.map fun p => (p.1, p.2.strip)) = some cs := by simp only [go_sem, reduceIte, Nat.reduceEqDiff, FF, Nat.reduceAdd, Nat.reduceSub, Nat.reduceMul, Nat.reduceLeDiff] <;> rfl) (hw : true = true → (ps.all fun p => p.2.wh) = true := by intro hG; simp only [go_sem, reduceIte, Nat.reduceEqDiff, FF]) : aRun P ops K (⟨some d, .build t parts, ty, pos, af, none⟩ :: r) s h := st0 rfl (k_buildA ht1 hua hj hj1 h2 hp hf hw) hn
theorem g_buildA [Glb] {j0 t0 : Nat} {want g0 G : Bool} {u0 : AV} {t el : TypeId} {parts : Array (Nat × Operand)} {i j : TI} {m : Nat} {ps : List (Nat × AV)} {cs : List AV}  (hn : aRun P ops K r (upd s d (.when G (.agg cs))) h) (ht : (ops[j0]?).bind (·.dst) = some t0 := by rfl) (hs : s t0 = u0 := by simp only [go_sem, reduceIte, Nat.reduceEqDiff, FF] <;> rfl) (hu : u0.strip = .bool g0 := by rfl) (hG : (u0.wh && g0 == want) = G := by simp only [go_sem, reduceIte, Nat.reduceEqDiff, FF] <;> rfl) (ht1 : tinfo P t = some i := by simp only [go_sem] <;> rfl) (hua : P.underlying t = some (.array m el) := by simp only [go_sem] <;> rfl) (hj : tinfo P el = some j := by simp only [go_sem] <;> rfl) (hj1 : j.size = 1 := by rfl) (h2 : i.zero.isEmpty = false := by rfl) (hp : (parts.toList.map fun p => (p.1, ev s p.2)) = ps := by simp only [go_sem, reduceIte, Nat.reduceEqDiff, FF] <;> rfl) (hf : bfill ((List.range m).map fun q => (q, 1)) (i.zero.map constAV1) (ps.map fun p => (p.1, p.2.strip)) = some cs := by simp only [go_sem, reduceIte, Nat.reduceEqDiff, FF, Nat.reduceAdd, Nat.reduceSub, Nat.reduceMul, Nat.reduceLeDiff] <;> rfl) (hw : G = true → (ps.all fun p => p.2.wh) = true := by intro hG; simp only [go_sem, reduceIte, Nat.reduceEqDiff, FF]) : aRun P ops K (⟨some d, .build t parts, ty, pos, af, some (j0, want)⟩ :: r) s h := sg0 rfl ht hs hu hG (k_buildA ht1 hua hj hj1 h2 hp hf hw) hn
theorem m_slice0 [Glb] {t : TypeId} {i j : TI}  (hn : aRun P ops K r (upd s d (.emp)) h) (ht1 : tinfo P t = some i := by simp only [go_sem] <;> rfl) (h1 : i.slice = true := by rfl) (hj : tinfo P i.elem = some j := by simp only [go_sem] <;> rfl) : aRun P ops K (⟨some d, .buildSlice t 0 #[], ty, pos, af, none⟩ :: r) s h := st0 rfl (k_slice0 ht1 h1 hj) hn
theorem m_sliceN [Glb] {t : TypeId} {n : Nat} {parts : Array (Nat × Operand)} {i j : TI} {l : List (List CV)}  (hn : aRun P ops K r (upd s d (.c (.im j.size n fun i => l.getD i []))) h) (ht1 : tinfo P t = some i := by simp only [go_sem] <;> rfl) (h1 : i.slice = true := by rfl) (hj : tinfo P i.elem = some j := by simp only [go_sem] <;> rfl) (hn1 : n = parts.size := by rfl) (h0 : (n == 0) = false := by rfl) (hz : j.zero.isEmpty = false := by rfl) (hb : decide (n * j.size ≤ 2 ^ 24) = true := by rfl) (hp : partsC (ev s) parts.toList 0 j.size = some l := by simp only [go_sem, reduceIte, Nat.reduceEqDiff, FF, Nat.reduceAdd, Nat.reduceSub, Nat.reduceMul, Nat.reduceLeDiff] <;> rfl) (hw : true = true → ∀ p ∈ parts.toList, (ev s p.2).wh = true := by intro hG; simp only [go_sem, reduceIte, Nat.reduceEqDiff, FF]) : aRun P ops K (⟨some d, .buildSlice t n parts, ty, pos, af, none⟩ :: r) s h := st0 rfl (k_sliceN ht1 h1 hj hn1 h0 hz hb hp hw) hn
theorem g_sliceN [Glb] {j0 t0 : Nat} {want g0 G : Bool} {u0 : AV} {t : TypeId} {n : Nat} {parts : Array (Nat × Operand)} {i j : TI} {l : List (List CV)}  (hn : aRun P ops K r (upd s d (.when G (.c (.im j.size n fun i => l.getD i [])))) h) (ht : (ops[j0]?).bind (·.dst) = some t0 := by rfl) (hs : s t0 = u0 := by simp only [go_sem, reduceIte, Nat.reduceEqDiff, FF] <;> rfl) (hu : u0.strip = .bool g0 := by rfl) (hG : (u0.wh && g0 == want) = G := by simp only [go_sem, reduceIte, Nat.reduceEqDiff, FF] <;> rfl) (ht1 : tinfo P t = some i := by simp only [go_sem] <;> rfl) (h1 : i.slice = true := by rfl) (hj : tinfo P i.elem = some j := by simp only [go_sem] <;> rfl) (hn1 : n = parts.size := by rfl) (h0 : (n == 0) = false := by rfl) (hz : j.zero.isEmpty = false := by rfl) (hb : decide (n * j.size ≤ 2 ^ 24) = true := by rfl) (hp : partsC (ev s) parts.toList 0 j.size = some l := by simp only [go_sem, reduceIte, Nat.reduceEqDiff, FF, Nat.reduceAdd, Nat.reduceSub, Nat.reduceMul, Nat.reduceLeDiff] <;> rfl) (hw : G = true → ∀ p ∈ parts.toList, (ev s p.2).wh = true := by intro hG; simp only [go_sem, reduceIte, Nat.reduceEqDiff, FF]) : aRun P ops K (⟨some d, .buildSlice t n parts, ty, pos, af, some (j0, want)⟩ :: r) s h := sg0 rfl ht hs hu hG (k_sliceN ht1 h1 hj hn1 h0 hz hb hp hw) hn
theorem m_nil [Glb] {y : Operand} {u : AV}  (hn : aRun P ops K r (upd s d (u.strip)) h) (h1 : ev s y = u := by simp only [go_sem, reduceIte, Nat.reduceEqDiff, FF] <;> rfl) (hw : true = true → u.wh = true := by intro hG; simp only [go_sem]) (hm : u.strip.isPtr = true := by rfl) : aRun P ops K (⟨some d, .nilCheck y, ty, pos, af, none⟩ :: r) s h := st0 rfl (k_nil h1 hw hm) hn
theorem m_idx [Glb] {t : TypeId} {y z : Operand} {u v : AV} {b : ByteArray} {k : IntKind} {n m : Int}  (hn : aRun P ops K r (upd s d (.c (.raw (.int .u8 m)))) h) (ht1 : P.underlying t = some .string := by simp only [go_sem] <;> rfl) (h1 : ev s y = u := by simp only [go_sem, reduceIte, Nat.reduceEqDiff, FF] <;> rfl) (h2 : ev s z = v := by simp only [go_sem, reduceIte, Nat.reduceEqDiff, FF] <;> rfl) (e1 : u.strip = .c (.raw (.string b)) := by rfl) (e2 : v.strip = .c (.raw (.int k n)) := by rfl) (hw : true = true → u.wh = true ∧ v.wh = true := by intro hG; simp only [go_sem]) (hn1 : true = true → 0 ≤ n ∧ n < (b.size : Int) := by intro hG; (repeat' apply And.intro) <;> first | rfl | omega | (dsimp only; omega) | (simp; done)) (hr : byteAt b n.toNat = m := by first | (simp only [go_sem, reduceIte, Nat.reduceEqDiff, FF, Nat.reduceAdd, Nat.reduceSub, Nat.reduceMul, Nat.reduceLeDiff, Int.reduceToNat] <;> rfl) | rfl) : aRun P ops K (⟨some d, .index t y z, ty, pos, af, none⟩ :: r) s h := st0 rfl (k_idx ht1 h1 h2 e1 e2 hw hn1 hr) hn
theorem g_idx [Glb] {j0 t0 : Nat} {want g0 G : Bool} {u0 : AV} {t : TypeId} {y z : Operand} {u v : AV} {b : ByteArray} {k : IntKind} {n m : Int}  (hn : aRun P ops K r (upd s d (.when G (.c (.raw (.int .u8 m))))) h) (ht : (ops[j0]?).bind (·.dst) = some t0 := by rfl) (hs : s t0 = u0 := by simp only [go_sem, reduceIte, Nat.reduceEqDiff, FF] <;> rfl) (hu : u0.strip = .bool g0 := by rfl) (hG : (u0.wh && g0 == want) = G := by simp only [go_sem, reduceIte, Nat.reduceEqDiff, FF] <;> rfl) (ht1 : P.underlying t = some .string := by simp only [go_sem] <;> rfl) (h1 : ev s y = u := by simp only [go_sem, reduceIte, Nat.reduceEqDiff, FF] <;> rfl) (h2 : ev s z = v := by simp only [go_sem, reduceIte, Nat.reduceEqDiff, FF] <;> rfl) (e1 : u.strip = .c (.raw (.string b)) := by rfl) (e2 : v.strip = .c (.raw (.int k n)) := by rfl) (hw : G = true → u.wh = true ∧ v.wh = true := by intro hG; simp only [go_sem, hG]) (hn1 : G = true → 0 ≤ n ∧ n < (b.size : Int) := by intro hG; (repeat' apply And.intro) <;> first | rfl | omega | (simp only [Bool.not_eq_true', Bool.or_eq_false_iff, Bool.and_eq_true, decide_eq_true_eq, decide_eq_false_iff_not, beq_iff_eq] at hG; omega) | (dsimp only; omega) | (simp; done)) (hr : byteAt b n.toNat = m := by first | (simp only [go_sem, reduceIte, Nat.reduceEqDiff, FF, Nat.reduceAdd, Nat.reduceSub, Nat.reduceMul, Nat.reduceLeDiff, Int.reduceToNat] <;> rfl) | rfl) : aRun P ops K (⟨some d, .index t y z, ty, pos, af, some (j0, want)⟩ :: r) s h := sg0 rfl ht hs hu hG (k_idx ht1 h1 h2 e1 e2 hw hn1 hr) hn
theorem m_mkF [Glb] {f : FuncId} {caps : Array Operand} {us os : List AV}  (hn : aRun P ops K r (upd s d (.fn f os)) h) (h1 : (caps.toList.map (ev s)) = us := by simp only [go_sem, reduceIte, Nat.reduceEqDiff, FF] <;> rfl) (hw : true = true → (us.all AV.wh) = true := by intro hG; simp only [go_sem]) (hm : (us.map AV.strip) = os := by rfl) (hpp : (os.all fun x => x.flatP && x.one) = true := by rfl) : aRun P ops K (⟨some d, .makeFunc (.func f) #[] caps, ty, pos, af, none⟩ :: r) s h := st0 rfl (k_mkF h1 hw hm hpp) hn
theorem m_binR [Glb] {op : BinOp} {t t2 : TypeId} {y z : Operand} {u v : AV} {v1 v2 res : Value} (hb : RawBin P op t v1 v2 res) (hn : aRun P ops K r (upd s d (.c (.raw res))) h) (h1 : ev s y = u := by simp only [go_sem, reduceIte, Nat.reduceEqDiff, FF] <;> rfl) (h2 : ev s z = v := by simp only [go_sem, reduceIte, Nat.reduceEqDiff, FF] <;> rfl) (e1 : u.strip = .c (.raw v1) := by rfl) (e2 : v.strip = .c (.raw v2) := by rfl) (hw : true = true → u.wh = true ∧ v.wh = true := by intro hG; simp only [go_sem]) : aRun P ops K (⟨some d, .binOp op t y z t2, ty, pos, af, none⟩ :: r) s h := st0 rfl (k_binR h1 h2 e1 e2 hb hw) hn
theorem m_load [Glb] {t : TypeId} {y : Operand} {u : AV} {i : TI}  (hn : aRun P ops K r (upd s d (x)) h) (h1 : ev s y = u := by simp only [go_sem, reduceIte, Nat.reduceEqDiff, FF] <;> rfl) (ht1 : tinfo P t = some i := by simp only [go_sem] <;> rfl) (hs1 : (i.agg || i.size == 1) = true := by rfl) (hw : true = true → u.wh = true := by intro hG; simp only [go_sem]) (hx : loadM h i true u.strip x := by first | exact lm_ptr (by simp only [go_sem, reduceIte, Nat.reduceEqDiff, FF] <;> rfl) (by simp only [go_sem, reduceIte, Nat.reduceEqDiff, FF, Nat.reduceAdd, Nat.reduceSub, Nat.reduceMul, Nat.reduceLeDiff] <;> rfl) (fun _ => Nat.le_of_ble_eq_true rfl) | exact lm_pim (by simp only [go_sem, reduceIte, Nat.reduceEqDiff, FF, Nat.reduceAdd, Nat.reduceSub, Nat.reduceMul, Nat.reduceLeDiff] <;> rfl) (fun _ => Nat.le_of_ble_eq_true rfl) | exact lm_rp (by simp only [go_sem, reduceIte, Nat.reduceEqDiff, FF] <;> rfl) (by simp only [go_sem, reduceIte, Nat.reduceEqDiff, FF, Nat.reduceAdd, Nat.reduceSub, Nat.reduceMul, Nat.reduceLeDiff] <;> rfl) (by intro hG; (repeat' apply And.intro) <;> first | rfl | omega | (dsimp only; omega) | (simp; done)) | exact lm_cptr (by simp only [go_sem, reduceIte, Nat.reduceEqDiff, FF, Nat.reduceAdd, Nat.reduceSub, Nat.reduceMul, Nat.reduceLeDiff] <;> rfl) (fun _ => Nat.le_of_ble_eq_true rfl)) : aRun P ops K (⟨some d, .load t y, ty, pos, af, none⟩ :: r) s h := st1 rfl (k_load h1 ht1 hs1 hw hx) hn
theorem g_load [Glb] {j0 t0 : Nat} {want g0 G : Bool} {u0 : AV} {t : TypeId} {y : Operand} {u : AV} {i : TI}  (hn : aRun P ops K r (upd s d (.when G (x))) h) (ht : (ops[j0]?).bind (·.dst) = some t0 := by rfl) (hs : s t0 = u0 := by simp only [go_sem, reduceIte, Nat.reduceEqDiff, FF] <;> rfl) (hu : u0.strip = .bool g0 := by rfl) (hG : (u0.wh && g0 == want) = G := by simp only [go_sem, reduceIte, Nat.reduceEqDiff, FF] <;> rfl) (h1 : ev s y = u := by simp only [go_sem, reduceIte, Nat.reduceEqDiff, FF] <;> rfl) (ht1 : tinfo P t = some i := by simp only [go_sem] <;> rfl) (hs1 : (i.agg || i.size == 1) = true := by rfl) (hw : G = true → u.wh = true := by intro hG; simp only [go_sem, hG]) (hx : loadM h i G u.strip x := by first | exact lm_ptr (by simp only [go_sem, reduceIte, Nat.reduceEqDiff, FF] <;> rfl) (by simp only [go_sem, reduceIte, Nat.reduceEqDiff, FF, Nat.reduceAdd, Nat.reduceSub, Nat.reduceMul, Nat.reduceLeDiff] <;> rfl) (fun _ => Nat.le_of_ble_eq_true rfl) | exact lm_pim (by simp only [go_sem, reduceIte, Nat.reduceEqDiff, FF, Nat.reduceAdd, Nat.reduceSub, Nat.reduceMul, Nat.reduceLeDiff] <;> rfl) (fun _ => Nat.le_of_ble_eq_true rfl) | exact lm_rp (by simp only [go_sem, reduceIte, Nat.reduceEqDiff, FF] <;> rfl) (by simp only [go_sem, reduceIte, Nat.reduceEqDiff, FF, Nat.reduceAdd, Nat.reduceSub, Nat.reduceMul, Nat.reduceLeDiff] <;> rfl) (by intro hG; (repeat' apply And.intro) <;> first | rfl | omega | (simp only [Bool.not_eq_true', Bool.or_eq_false_iff, Bool.and_eq_true, decide_eq_true_eq, decide_eq_false_iff_not, beq_iff_eq] at hG; omega) | (dsimp only; omega) | (simp; done)) | exact lm_cptr (by simp only [go_sem, reduceIte, Nat.reduceEqDiff, FF, Nat.reduceAdd, Nat.reduceSub, Nat.reduceMul, Nat.reduceLeDiff] <;> rfl) (fun _ => Nat.le_of_ble_eq_true rfl)) : aRun P ops K (⟨some d, .load t y, ty, pos, af, some (j0, want)⟩ :: r) s h := sg1 rfl ht hs hu hG (k_load h1 ht1 hs1 hw hx) hn
theorem m_index [Glb] {t : TypeId} {y z : Operand} {u v : AV} {i j : TI} {k : IntKind} {n : Int}  (hn : aRun P ops K r (upd s d (x)) h) (h1 : ev s y = u := by simp only [go_sem, reduceIte, Nat.reduceEqDiff, FF] <;> rfl) (h2 : ev s z = v := by simp only [go_sem, reduceIte, Nat.reduceEqDiff, FF] <;> rfl) (ht1 : tinfo P t = some i := by simp only [go_sem] <;> rfl) (hs1 : i.slice = true := by rfl) (hj : tinfo P i.elem = some j := by simp only [go_sem] <;> rfl) (e2 : v.strip = .c (.raw (.int k n)) := by rfl) (hw : true = true → u.wh = true ∧ v.wh = true := by intro hG; simp only [go_sem]) (hx : idxM h j n true u.strip x := by first | exact im_im (by first | (simp only [go_sem, reduceIte, Nat.reduceEqDiff, FF, Nat.reduceAdd, Nat.reduceSub, Nat.reduceMul, Nat.reduceLeDiff, Int.reduceToNat] <;> rfl) | rfl) (by intro hG; (repeat' apply And.intro) <;> first | rfl | omega | (dsimp only; omega) | (simp; done)) | exact im_own (by simp only [go_sem, reduceIte, Nat.reduceEqDiff, FF] <;> rfl) (by first | (simp only [go_sem, reduceIte, Nat.reduceEqDiff, FF, Nat.reduceAdd, Nat.reduceSub, Nat.reduceMul, Nat.reduceLeDiff, Int.reduceToNat] <;> rfl) | rfl) (by intro hG; (repeat' apply And.intro) <;> first | rfl | omega | (dsimp only; omega) | (simp; done)) | exact im_osub (by simp only [go_sem, reduceIte, Nat.reduceEqDiff, FF] <;> rfl) (by first | (simp only [go_sem, reduceIte, Nat.reduceEqDiff, FF, Nat.reduceAdd, Nat.reduceSub, Nat.reduceMul, Nat.reduceLeDiff, Int.reduceToNat] <;> rfl) | rfl) (by intro hG; (repeat' apply And.intro) <;> first | rfl | omega | (dsimp only; omega) | (simp; done)) | exact im_bs (by first | (simp only [go_sem, reduceIte, Nat.reduceEqDiff, FF, Nat.reduceAdd, Nat.reduceSub, Nat.reduceMul, Nat.reduceLeDiff, Int.reduceToNat] <;> rfl) | rfl) (by intro hG; (repeat' apply And.intro) <;> first | rfl | omega | (dsimp only; omega) | (simp; done))) : aRun P ops K (⟨some d, .indexAddr t y z, ty, pos, af, none⟩ :: r) s h := st1 rfl (k_index h1 h2 ht1 hs1 hj e2 hw hx) hn
theorem g_index [Glb] {j0 t0 : Nat} {want g0 G : Bool} {u0 : AV} {t : TypeId} {y z : Operand} {u v : AV} {i j : TI} {k : IntKind} {n : Int}  (hn : aRun P ops K r (upd s d (.when G (x))) h) (ht : (ops[j0]?).bind (·.dst) = some t0 := by rfl) (hs : s t0 = u0 := by simp only [go_sem, reduceIte, Nat.reduceEqDiff, FF] <;> rfl) (hu : u0.strip = .bool g0 := by rfl) (hG : (u0.wh && g0 == want) = G := by simp only [go_sem, reduceIte, Nat.reduceEqDiff, FF] <;> rfl) (h1 : ev s y = u := by simp only [go_sem, reduceIte, Nat.reduceEqDiff, FF] <;> rfl) (h2 : ev s z = v := by simp only [go_sem, reduceIte, Nat.reduceEqDiff, FF] <;> rfl) (ht1 : tinfo P t = some i := by simp only [go_sem] <;> rfl) (hs1 : i.slice = true := by rfl) (hj : tinfo P i.elem = some j := by simp only [go_sem] <;> rfl) (e2 : v.strip = .c (.raw (.int k n)) := by rfl) (hw : G = true → u.wh = true ∧ v.wh = true := by intro hG; simp only [go_sem, hG]) (hx : idxM h j n G u.strip x := by first | exact im_im (by first | (simp only [go_sem, reduceIte, Nat.reduceEqDiff, FF, Nat.reduceAdd, Nat.reduceSub, Nat.reduceMul, Nat.reduceLeDiff, Int.reduceToNat] <;> rfl) | rfl) (by intro hG; (repeat' apply And.intro) <;> first | rfl | omega | (simp only [Bool.not_eq_true', Bool.or_eq_false_iff, Bool.and_eq_true, decide_eq_true_eq, decide_eq_false_iff_not, beq_iff_eq] at hG; omega) | (dsimp only; omega) | (simp; done)) | exact im_own (by simp only [go_sem, reduceIte, Nat.reduceEqDiff, FF] <;> rfl) (by first | (simp only [go_sem, reduceIte, Nat.reduceEqDiff, FF, Nat.reduceAdd, Nat.reduceSub, Nat.reduceMul, Nat.reduceLeDiff, Int.reduceToNat] <;> rfl) | rfl) (by intro hG; (repeat' apply And.intro) <;> first | rfl | omega | (simp only [Bool.not_eq_true', Bool.or_eq_false_iff, Bool.and_eq_true, decide_eq_true_eq, decide_eq_false_iff_not, beq_iff_eq] at hG; omega) | (dsimp only; omega) | (simp; done)) | exact im_osub (by simp only [go_sem, reduceIte, Nat.reduceEqDiff, FF] <;> rfl) (by first | (simp only [go_sem, reduceIte, Nat.reduceEqDiff, FF, Nat.reduceAdd, Nat.reduceSub, Nat.reduceMul, Nat.reduceLeDiff, Int.reduceToNat] <;> rfl) | rfl) (by intro hG; (repeat' apply And.intro) <;> first | rfl | omega | (simp only [Bool.not_eq_true', Bool.or_eq_false_iff, Bool.and_eq_true, decide_eq_true_eq, decide_eq_false_iff_not, beq_iff_eq] at hG; omega) | (dsimp only; omega) | (simp; done)) | exact im_bs (by first | (simp only [go_sem, reduceIte, Nat.reduceEqDiff, FF, Nat.reduceAdd, Nat.reduceSub, Nat.reduceMul, Nat.reduceLeDiff, Int.reduceToNat] <;> rfl) | rfl) (by intro hG; (repeat' apply And.intro) <;> first | rfl | omega | (simp only [Bool.not_eq_true', Bool.or_eq_false_iff, Bool.and_eq_true, decide_eq_true_eq, decide_eq_false_iff_not, beq_iff_eq] at hG; omega) | (dsimp only; omega) | (simp; done))) : aRun P ops K (⟨some d, .indexAddr t y z, ty, pos, af, some (j0, want)⟩ :: r) s h := sg1 rfl ht hs hu hG (k_index h1 h2 ht1 hs1 hj e2 hw hx) hn
theorem m_idxA [Glb] {t el : TypeId} {y z : Operand} {u v : AV} {j : TI} {k : IntKind} {n : Int} {m : Nat} {xs c : List CV}  (hn : aRun P ops K r (upd s d (.pim c)) h) (h1 : ev s y = u := by simp only [go_sem, reduceIte, Nat.reduceEqDiff, FF] <;> rfl) (h2 : ev s z = v := by simp only [go_sem, reduceIte, Nat.reduceEqDiff, FF] <;> rfl) (ht1 : P.underlying t = some (.array m el) := by simp only [go_sem] <;> rfl) (hj : tinfo P el = some j := by simp only [go_sem] <;> rfl) (hj1 : j.size = 1 := by rfl) (e2 : v.strip = .c (.raw (.int k n)) := by rfl) (hw : true = true → u.wh = true ∧ v.wh = true := by intro hG; simp only [go_sem]) (e1 : u.strip = .pim xs := by rfl) (hn1 : true = true → 0 ≤ n ∧ n < (m : Int) := by intro hG; (repeat' apply And.intro) <;> first | rfl | omega | (dsimp only; omega) | (simp; done)) (hc : xs.drop n.toNat = c := by first | (simp only [go_sem, reduceIte, Nat.reduceEqDiff, FF, Nat.reduceAdd, Nat.reduceSub, Nat.reduceMul, Nat.reduceLeDiff, Int.reduceToNat] <;> rfl) | rfl) : aRun P ops K (⟨some d, .indexAddr t y z, ty, pos, af, none⟩ :: r) s h := st1 rfl (k_idxA h1 h2 ht1 hj hj1 e2 hw e1 hn1 hc) hn
theorem g_idxA [Glb] {j0 t0 : Nat} {want g0 G : Bool} {u0 : AV} {t el : TypeId} {y z : Operand} {u v : AV} {j : TI} {k : IntKind} {n : Int} {m : Nat} {xs c : List CV}  (hn : aRun P ops K r (upd s d (.when G (.pim c))) h) (ht : (ops[j0]?).bind (·.dst) = some t0 := by rfl) (hs : s t0 = u0 := by simp only [go_sem, reduceIte, Nat.reduceEqDiff, FF] <;> rfl) (hu : u0.strip = .bool g0 := by rfl) (hG : (u0.wh && g0 == want) = G := by simp only [go_sem, reduceIte, Nat.reduceEqDiff, FF] <;> rfl) (h1 : ev s y = u := by simp only [go_sem, reduceIte, Nat.reduceEqDiff, FF] <;> rfl) (h2 : ev s z = v := by simp only [go_sem, reduceIte, Nat.reduceEqDiff, FF] <;> rfl) (ht1 : P.underlying t = some (.array m el) := by simp only [go_sem] <;> rfl) (hj : tinfo P el = some j := by simp only [go_sem] <;> rfl) (hj1 : j.size = 1 := by rfl) (e2 : v.strip = .c (.raw (.int k n)) := by rfl) (hw : G = true → u.wh = true ∧ v.wh = true := by intro hG; simp only [go_sem, hG]) (e1 : u.strip = .pim xs := by rfl) (hn1 : G = true → 0 ≤ n ∧ n < (m : Int) := by intro hG; (repeat' apply And.intro) <;> first | rfl | omega | (simp only [Bool.not_eq_true', Bool.or_eq_false_iff, Bool.and_eq_true, decide_eq_true_eq, decide_eq_false_iff_not, beq_iff_eq] at hG; omega) | (dsimp only; omega) | (simp; done)) (hc : xs.drop n.toNat = c := by first | (simp only [go_sem, reduceIte, Nat.reduceEqDiff, FF, Nat.reduceAdd, Nat.reduceSub, Nat.reduceMul, Nat.reduceLeDiff, Int.reduceToNat] <;> rfl) | rfl) : aRun P ops K (⟨some d, .indexAddr t y z, ty, pos, af, some (j0, want)⟩ :: r) s h := sg1 rfl ht hs hu hG (k_idxA h1 h2 ht1 hj hj1 e2 hw e1 hn1 hc) hn
theorem m_len [Glb] {y : Operand} {t : TypeId} {u : AV}  (hn : aRun P ops K r (upd s d (x)) h) (h1 : ev s y = u := by simp only [go_sem, reduceIte, Nat.reduceEqDiff, FF] <;> rfl) (hw : true = true → u.wh = true := by intro hG; simp only [go_sem]) (hx : lenM P h t true u.strip x := by first | exact nm_im (by simp only [go_sem] <;> rfl) | exact nm_own (by simp only [go_sem] <;> rfl) (by simp only [go_sem, reduceIte, Nat.reduceEqDiff, FF] <;> rfl) (by intro hG; (repeat' apply And.intro) <;> first | rfl | omega | (dsimp only; omega) | (simp; done)) | exact nm_emp (by simp only [go_sem] <;> rfl) | exact nm_osub (by simp only [go_sem] <;> rfl) (by simp only [go_sem, reduceIte, Nat.reduceEqDiff, FF] <;> rfl) (by intro hG; (repeat' apply And.intro) <;> first | rfl | omega | (dsimp only; omega) | (simp; done)) | exact nm_str (by simp only [go_sem] <;> rfl) | exact nm_cemp (by simp only [go_sem] <;> rfl) | exact nm_mref (by simp only [go_sem] <;> rfl) (by simp only [go_sem, reduceIte, Nat.reduceEqDiff, FF] <;> rfl) | exact nm_mp (by simp only [go_sem] <;> rfl) | exact nm_bs (by simp only [go_sem] <;> rfl)) : aRun P ops K (⟨some d, .call { callee := .builtin .len, args := #[y], argTypes := #[t] }, ty, pos, af, none⟩ :: r) s h := st1 rfl (k_len h1 hw hx) hn
theorem g_len [Glb] {j0 t0 : Nat} {want g0 G : Bool} {u0 : AV} {y : Operand} {t : TypeId} {u : AV}  (hn : aRun P ops K r (upd s d (.when G (x))) h) (ht : (ops[j0]?).bind (·.dst) = some t0 := by rfl) (hs : s t0 = u0 := by simp only [go_sem, reduceIte, Nat.reduceEqDiff, FF] <;> rfl) (hu : u0.strip = .bool g0 := by rfl) (hG : (u0.wh && g0 == want) = G := by simp only [go_sem, reduceIte, Nat.reduceEqDiff, FF] <;> rfl) (h1 : ev s y = u := by simp only [go_sem, reduceIte, Nat.reduceEqDiff, FF] <;> rfl) (hw : G = true → u.wh = true := by intro hG; simp only [go_sem, hG]) (hx : lenM P h t G u.strip x := by first | exact nm_im (by simp only [go_sem] <;> rfl) | exact nm_own (by simp only [go_sem] <;> rfl) (by simp only [go_sem, reduceIte, Nat.reduceEqDiff, FF] <;> rfl) (by intro hG; (repeat' apply And.intro) <;> first | rfl | omega | (simp only [Bool.not_eq_true', Bool.or_eq_false_iff, Bool.and_eq_true, decide_eq_true_eq, decide_eq_false_iff_not, beq_iff_eq] at hG; omega) | (dsimp only; omega) | (simp; done)) | exact nm_emp (by simp only [go_sem] <;> rfl) | exact nm_osub (by simp only [go_sem] <;> rfl) (by simp only [go_sem, reduceIte, Nat.reduceEqDiff, FF] <;> rfl) (by intro hG; (repeat' apply And.intro) <;> first | rfl | omega | (simp only [Bool.not_eq_true', Bool.or_eq_false_iff, Bool.and_eq_true, decide_eq_true_eq, decide_eq_false_iff_not, beq_iff_eq] at hG; omega) | (dsimp only; omega) | (simp; done)) | exact nm_str (by simp only [go_sem] <;> rfl) | exact nm_cemp (by simp only [go_sem] <;> rfl) | exact nm_mref (by simp only [go_sem] <;> rfl) (by simp only [go_sem, reduceIte, Nat.reduceEqDiff, FF] <;> rfl) | exact nm_mp (by simp only [go_sem] <;> rfl) | exact nm_bs (by simp only [go_sem] <;> rfl)) : aRun P ops K (⟨some d, .call { callee := .builtin .len, args := #[y], argTypes := #[t] }, ty, pos, af, some (j0, want)⟩ :: r) s h := sg1 rfl ht hs hu hG (k_len h1 hw hx) hn
theorem m_call [Glb] {f : FuncId} {args : Array Operand} {ats : Array TypeId} {us : List AV} {vs : List CV} {res : CV} (hp : true = true → APure P f vs res) (hn : aRun P ops K r (upd s d (.c res)) h) (h1 : args.toList.map (ev s) = us := by simp only [go_sem, reduceIte, Nat.reduceEqDiff, FF] <;> rfl) (h2 : (us.all fun u => u.strip.live h) = true := by rfl) (h3 : (us.map fun u => u.strip.view h) = vs := by simp only [go_sem, reduceIte, Nat.reduceEqDiff, FF] <;> rfl) (hw : true = true → (us.all AV.wh) = true := by intro hG; simp only [go_sem]) (hc : (res.flat || us.all fun u => u.strip.closedA) = true := by rfl) : aRun P ops K (⟨some d, .call { callee := .value (.func f), args := args, argTypes := ats }, ty, pos, af, none⟩ :: r) s h := st1 rfl (k_call h1 h2 h3 hw hc (Subs.refl _) hp) hn
theorem g_call [Glb] {j0 t0 : Nat} {want g0 G : Bool} {u0 : AV} {f : FuncId} {args : Array Operand} {ats : Array TypeId} {us : List AV} {vs : List CV} {res : CV} (hp : G = true → APure P f vs res) (hn : aRun P ops K r (upd s d (.when G (.c res))) h) (ht : (ops[j0]?).bind (·.dst) = some t0 := by rfl) (hs : s t0 = u0 := by simp only [go_sem, reduceIte, Nat.reduceEqDiff, FF] <;> rfl) (hu : u0.strip = .bool g0 := by rfl) (hG : (u0.wh && g0 == want) = G := by simp only [go_sem, reduceIte, Nat.reduceEqDiff, FF] <;> rfl) (h1 : args.toList.map (ev s) = us := by simp only [go_sem, reduceIte, Nat.reduceEqDiff, FF] <;> rfl) (h2 : (us.all fun u => u.strip.live h) = true := by rfl) (h3 : (us.map fun u => u.strip.view h) = vs := by simp only [go_sem, reduceIte, Nat.reduceEqDiff, FF] <;> rfl) (hw : G = true → (us.all AV.wh) = true := by intro hG; simp only [go_sem, hG]) (hc : (res.flat || us.all fun u => u.strip.closedA) = true := by rfl) : aRun P ops K (⟨some d, .call { callee := .value (.func f), args := args, argTypes := ats }, ty, pos, af, some (j0, want)⟩ :: r) s h := sg1 rfl ht hs hu hG (k_call h1 h2 h3 hw hc (Subs.refl _) hp) hn
theorem m_callV [Glb] {f : FuncId} {tt : Tmp} {ut : AV} {args : Array Operand} {ats : Array TypeId} {us : List AV} {vs : List CV} {res : CV} (hp : true = true → APure P f vs res) (hn : aRun P ops K r (upd s d (.c res)) h) (ht9 : ev s (.tmp tt) = ut := by simp only [go_sem, reduceIte, Nat.reduceEqDiff, FF] <;> rfl) (htw : true = true → ut.wh = true := by intro hG; simp only [go_sem]) (hte : ut.strip = .c (.raw (.func (.func f) #[] #[])) := by rfl) (h1 : args.toList.map (ev s) = us := by simp only [go_sem, reduceIte, Nat.reduceEqDiff, FF] <;> rfl) (h2 : (us.all fun u => u.strip.live h) = true := by rfl) (h3 : (us.map fun u => u.strip.view h) = vs := by simp only [go_sem, reduceIte, Nat.reduceEqDiff, FF] <;> rfl) (hw : true = true → (us.all AV.wh) = true := by intro hG; simp only [go_sem]) (hc : (res.flat || us.all fun u => u.strip.closedA) = true := by rfl) : aRun P ops K (⟨some d, .call { callee := .value (.tmp tt), args := args, argTypes := ats }, ty, pos, af, none⟩ :: r) s h := st1 rfl (k_callV ht9 htw hte h1 h2 h3 hw hc (Subs.refl _) hp) hn
theorem g_callV [Glb] {j0 t0 : Nat} {want g0 G : Bool} {u0 : AV} {f : FuncId} {tt : Tmp} {ut : AV} {args : Array Operand} {ats : Array TypeId} {us : List AV} {vs : List CV} {res : CV} (hp : G = true → APure P f vs res) (hn : aRun P ops K r (upd s d (.when G (.c res))) h) (ht : (ops[j0]?).bind (·.dst) = some t0 := by rfl) (hs : s t0 = u0 := by simp only [go_sem, reduceIte, Nat.reduceEqDiff, FF] <;> rfl) (hu : u0.strip = .bool g0 := by rfl) (hG : (u0.wh && g0 == want) = G := by simp only [go_sem, reduceIte, Nat.reduceEqDiff, FF] <;> rfl) (ht9 : ev s (.tmp tt) = ut := by simp only [go_sem, reduceIte, Nat.reduceEqDiff, FF] <;> rfl) (htw : G = true → ut.wh = true := by intro hG; simp only [go_sem, hG]) (hte : ut.strip = .c (.raw (.func (.func f) #[] #[])) := by rfl) (h1 : args.toList.map (ev s) = us := by simp only [go_sem, reduceIte, Nat.reduceEqDiff, FF] <;> rfl) (h2 : (us.all fun u => u.strip.live h) = true := by rfl) (h3 : (us.map fun u => u.strip.view h) = vs := by simp only [go_sem, reduceIte, Nat.reduceEqDiff, FF] <;> rfl) (hw : G = true → (us.all AV.wh) = true := by intro hG; simp only [go_sem, hG]) (hc : (res.flat || us.all fun u => u.strip.closedA) = true := by rfl) : aRun P ops K (⟨some d, .call { callee := .value (.tmp tt), args := args, argTypes := ats }, ty, pos, af, some (j0, want)⟩ :: r) s h := sg1 rfl ht hs hu hG (k_callV ht9 htw hte h1 h2 h3 hw hc (Subs.refl _) hp) hn
theorem m_ptrNil [Glb] {op : BinOp} {t t2 t' : TypeId} {y z : Operand} {u v : AV} {q : Bool}  (hn : aRun P ops K r (upd s d (.bool q)) h) (h1 : ev s y = u := by simp only [go_sem, reduceIte, Nat.reduceEqDiff, FF] <;> rfl) (h2 : ev s z = v := by simp only [go_sem, reduceIte, Nat.reduceEqDiff, FF] <;> rfl) (ha : u.strip.isAddr = true := by rfl) (e2 : v.strip = .c (.raw (.pointer none)) := by rfl) (hb : nilCmp op = some q := by rfl) (hpu : P.underlying t = some (.pointer t') := by simp only [go_sem] <;> rfl) (hw : true = true → u.wh = true ∧ v.wh = true := by intro hG; simp only [go_sem]) : aRun P ops K (⟨some d, .binOp op t y z t2, ty, pos, af, none⟩ :: r) s h := st0 rfl (k_ptrNil h1 h2 ha e2 hb hpu hw) hn
theorem m_slOwn [Glb] {t : TypeId} {y : Operand} {lo hi : Option Operand} {u : AV} {L H : Option AV} {o M : Nat} {ty0 : TypeId} {sz n l hh : Nat} {f : Nat → List CV} {i j : TI} (hn : aRun P ops K r (upd s d (.osub o M l (hh - l))) h) (h1 : ev s y = u := by simp only [go_sem, reduceIte, Nat.reduceEqDiff, FF] <;> rfl) (e1 : u.strip = .own o M := by rfl) (hb : h o = .row ty0 sz n f := by simp only [go_sem, reduceIte, Nat.reduceEqDiff, FF] <;> rfl) (h2 : bndOf s lo = L := by simp only [go_sem, reduceIte, Nat.reduceEqDiff, FF] <;> rfl) (h3 : bndOf s hi = H := by simp only [go_sem, reduceIte, Nat.reduceEqDiff, FF] <;> rfl) (ht1 : tinfo P t = some i := by simp only [go_sem] <;> rfl) (hs : i.slice = true := by rfl) (hj : tinfo P i.elem = some j := by simp only [go_sem] <;> rfl) (b1 : bnd true 0 l L := by first | exact bd_no | exact bd_one | exact bd_nat | exact bd_yes (by rfl) (by omega) (fun _ => rfl)) (b2 : bnd true n hh H := by first | exact bd_no | exact bd_one | exact bd_nat | exact bd_yes (by rfl) (by omega) (fun _ => rfl)) (hw : true = true → u.wh = true := by exact fun _ => rfl) (hl : true = true → l ≤ hh ∧ M = n ∧ sz = j.size ∧ hh ≤ n := by intro hG; (repeat' apply And.intro) <;> first | rfl | omega | (dsimp only; omega) | (simp; done)) : aRun P ops K (⟨some d, .slice t y lo hi none, ty, pos, af, none⟩ :: r) s h := st1 rfl (k_sl_own h1 e1 hb h2 h3 ht1 hs hj b1 b2 hw hl) hn
theorem m_slOsub [Glb] {t : TypeId} {y : Operand} {lo hi : Option Operand} {u : AV} {L H : Option AV} {o M off k : Nat} {ty0 : TypeId} {sz n l hh : Nat} {f : Nat → List CV} {i j : TI} (hn : aRun P ops K r (upd s d (.osub o M (off + l) (hh - l))) h) (h1 : ev s y = u := by simp only [go_sem, reduceIte, Nat.reduceEqDiff, FF] <;> rfl) (e1 : u.strip = .osub o M off k := by rfl) (hb : h o = .row ty0 sz n f := by simp only [go_sem, reduceIte, Nat.reduceEqDiff, FF] <;> rfl) (h2 : bndOf s lo = L := by simp only [go_sem, reduceIte, Nat.reduceEqDiff, FF] <;> rfl) (h3 : bndOf s hi = H := by simp only [go_sem, reduceIte, Nat.reduceEqDiff, FF] <;> rfl) (ht1 : tinfo P t = some i := by simp only [go_sem] <;> rfl) (hs : i.slice = true := by rfl) (hj : tinfo P i.elem = some j := by simp only [go_sem] <;> rfl) (b1 : bnd true 0 l L := by first | exact bd_no | exact bd_one | exact bd_nat | exact bd_yes (by rfl) (by omega) (fun _ => rfl)) (b2 : bnd true k hh H := by first | exact bd_no | exact bd_one | exact bd_nat | exact bd_yes (by rfl) (by omega) (fun _ => rfl)) (hw : true = true → u.wh = true := by exact fun _ => rfl) (hl : true = true → l ≤ hh ∧ M = n ∧ sz = j.size ∧ hh ≤ k := by intro hG; (repeat' apply And.intro) <;> first | rfl | omega | (dsimp only; omega) | (simp; done)) : aRun P ops K (⟨some d, .slice t y lo hi none, ty, pos, af, none⟩ :: r) s h := st1 rfl (k_sl_osub h1 e1 hb h2 h3 ht1 hs hj b1 b2 hw hl) hn
theorem m_slEmp [Glb] {t : TypeId} {y : Operand} {lo hi : Option Operand} {u : AV} {L H : Option AV} {i j : TI} (hn : aRun P ops K r (upd s d .emp) h) (h1 : ev s y = u := by simp only [go_sem, reduceIte, Nat.reduceEqDiff, FF] <;> rfl) (e1 : u.strip = .emp := by rfl) (h2 : bndOf s lo = L := by simp only [go_sem, reduceIte, Nat.reduceEqDiff, FF] <;> rfl) (h3 : bndOf s hi = H := by simp only [go_sem, reduceIte, Nat.reduceEqDiff, FF] <;> rfl) (ht1 : tinfo P t = some i := by simp only [go_sem] <;> rfl) (hs : i.slice = true := by rfl) (hj : tinfo P i.elem = some j := by simp only [go_sem] <;> rfl) (b1 : bnd true 0 0 L := by first | exact bd_no | exact bd_one | exact bd_nat | exact bd_yes (by rfl) (by omega) (fun _ => rfl)) (b2 : bnd true 0 0 H := by first | exact bd_no | exact bd_one | exact bd_nat | exact bd_yes (by rfl) (by omega) (fun _ => rfl)) (hw : true = true → u.wh = true := by exact fun _ => rfl) : aRun P ops K (⟨some d, .slice t y lo hi none, ty, pos, af, none⟩ :: r) s h := st1 rfl (k_sl_emp h1 e1 h2 h3 ht1 hs hj b1 b2 hw) hn
theorem m_slIm [Glb] {t : TypeId} {y : Operand} {lo hi : Option Operand} {u : AV} {L H : Option AV} {sz n l hh : Nat} {f : Nat → List CV} {i j : TI} (hn : aRun P ops K r (upd s d (.c (.im sz (hh - l) fun q => f (l + q)))) h) (h1 : ev s y = u := by simp only [go_sem, reduceIte, Nat.reduceEqDiff, FF] <;> rfl) (e1 : u.strip = .c (.im sz n f) := by rfl) (h2 : bndOf s lo = L := by simp only [go_sem, reduceIte, Nat.reduceEqDiff, FF] <;> rfl) (h3 : bndOf s hi = H := by simp only [go_sem, reduceIte, Nat.reduceEqDiff, FF] <;> rfl) (ht1 : tinfo P t = some i := by simp only [go_sem] <;> rfl) (hs : i.slice = true := by rfl) (hj : tinfo P i.elem = some j := by simp only [go_sem] <;> rfl) (b1 : bnd true 0 l L := by first | exact bd_no | exact bd_one | exact bd_nat | exact bd_yes (by rfl) (by omega) (fun _ => rfl)) (b2 : bnd true n hh H := by first | exact bd_no | exact bd_one | exact bd_nat | exact bd_yes (by rfl) (by omega) (fun _ => rfl)) (hw : true = true → u.wh = true := by exact fun _ => rfl) (hl : true = true → l ≤ hh ∧ sz = j.size ∧ hh ≤ n := by intro hG; (repeat' apply And.intro) <;> first | rfl | omega | (dsimp only; omega) | (simp; done)) : aRun P ops K (⟨some d, .slice t y lo hi none, ty, pos, af, none⟩ :: r) s h := st1 rfl (k_sl_im h1 e1 h2 h3 ht1 hs hj b1 b2 hw hl) hn
theorem m_appOwn [Glb] {y z : Operand} {t : TypeId} {u v : AV} {i j : TI} {sz m n o L : Nat} {g f : Nat → List CV} {ty0 : TypeId} (hn : aRun P ops K r (upd s d (.own o (n + m))) (upd h o (.row ty0 j.size (n + m) (fun q => if q < n then f q else g (q - n))))) (h1 : ev s y = u := by simp only [go_sem, reduceIte, Nat.reduceEqDiff, FF] <;> rfl) (h2 : ev s z = v := by simp only [go_sem, reduceIte, Nat.reduceEqDiff, FF] <;> rfl) (ht1 : tinfo P t = some i := by simp only [go_sem] <;> rfl) (hsl : i.slice = true := by rfl) (hj : tinfo P i.elem = some j := by simp only [go_sem] <;> rfl) (hz : (decide (0 < j.size) && j.zero.length == j.size) = true := by rfl) (w1 : u.wh = true := by rfl) (w2 : v.wh = true := by rfl) (hsrc : srcOf h v.strip = some (sz, m, g) := by simp only [go_sem, reduceIte, Nat.reduceEqDiff, FF] <;> rfl) (e1 : u.strip = .own o L := by rfl) (hb : h o = .row ty0 j.size n f := by simp only [go_sem, reduceIte, Nat.reduceEqDiff, FF] <;> rfl) (hc : (m = 0 ∨ sz = j.size) ∧ ty0 = i.elem ∧ L = n := by refine ⟨?_, rfl, ?_⟩ <;> first | rfl | exact .inr rfl | exact .inl rfl | omega) (hle : n + m ≤ maxLen ∧ (n + m) * j.bytes ≤ 140737488355328 := by simp only [go_sem, maxLen, Nat.reduceAdd, Nat.reduceMul, Nat.reduceLeDiff]; omega) : aRun P ops K (⟨some d, .call { callee := .builtin .append, args := #[y, z], argTypes := #[t, t] }, ty, pos, af, none⟩ :: r) s h := st2 rfl (k_app_own h1 h2 ht1 hsl hj hz w1 w2 hsrc e1 hb hc hle) hn
theorem m_appEmp [Glb] {y z : Operand} {t : TypeId} {u v : AV} {i j : TI} {sz m : Nat} {g : Nat → List CV} (hn : aRun P ops K r (upd s d (.own d m)) (upd h d (.row i.elem j.size m g))) (h1 : ev s y = u := by simp only [go_sem, reduceIte, Nat.reduceEqDiff, FF] <;> rfl) (h2 : ev s z = v := by simp only [go_sem, reduceIte, Nat.reduceEqDiff, FF] <;> rfl) (ht1 : tinfo P t = some i := by simp only [go_sem] <;> rfl) (hsl : i.slice = true := by rfl) (hj : tinfo P i.elem = some j := by simp only [go_sem] <;> rfl) (hz : (decide (0 < j.size) && j.zero.length == j.size) = true := by rfl) (w1 : u.wh = true := by rfl) (w2 : v.wh = true := by rfl) (hsrc : srcOf h v.strip = some (sz, m, g) := by simp only [go_sem, reduceIte, Nat.reduceEqDiff, FF] <;> rfl) (e1 : u.strip = .emp := by rfl) (hgo : h d = .gone := by simp only [go_sem, reduceIte, Nat.reduceEqDiff, FF] <;> rfl) (hc : m = 0 ∨ sz = j.size := by first | exact .inr rfl | exact .inl rfl) (hle : m ≤ maxLen ∧ m * j.bytes ≤ 140737488355328 := by simp only [go_sem, maxLen, Nat.reduceAdd, Nat.reduceMul, Nat.reduceLeDiff]; omega) : aRun P ops K (⟨some d, .call { callee := .builtin .append, args := #[y, z], argTypes := #[t, t] }, ty, pos, af, none⟩ :: r) s h := st2 rfl (k_app_emp h1 h2 ht1 hsl hj hz w1 w2 hsrc e1 hgo hc hle) hn
theorem m_stPtr [Glb] {t : TypeId} {y z : Operand} {u v : AV} {i : TI} {o off : Nat} {ty0 : TypeId} {cells l cells' : List AV} (hn : aRun P ops K r s (upd h o (.box ty0 cells'))) (h1 : ev s y = u := by simp only [go_sem, reduceIte, Nat.reduceEqDiff, FF] <;> rfl) (h2 : ev s z = v := by simp only [go_sem, reduceIte, Nat.reduceEqDiff, FF] <;> rfl) (ht1 : tinfo P t = some i := by simp only [go_sem] <;> rfl) (w1 : u.wh = true := by rfl) (w2 : v.wh = true := by rfl) (e1 : u.strip = .ptr o off := by rfl) (hb : h o = .box ty0 cells := by simp only [go_sem, reduceIte, Nat.reduceEqDiff, FF] <;> rfl) (hl : v.strip.cells = some l := by simp only [go_sem, reduceIte, Nat.reduceEqDiff, FF, Nat.reduceAdd, Nat.reduceSub, Nat.reduceMul, Nat.reduceLeDiff] <;> rfl) (hn1 : l.length = i.size := by rfl) (hx : setL cells off l = cells' := by simp only [go_sem, reduceIte, Nat.reduceEqDiff, FF, Nat.reduceAdd, Nat.reduceSub, Nat.reduceMul, Nat.reduceLeDiff] <;> rfl) (hle : off + i.size ≤ cells.length := by exact Nat.le_of_ble_eq_true rfl) : aRun P ops K (⟨none, .store t y z, ty, pos, af, none⟩ :: r) s h := st2n rfl (k_store_ptr h1 h2 ht1 w1 w2 e1 hb hl hn1 hx hle) hn
theorem m_stRp [Glb] {t : TypeId} {y z : Operand} {u v : AV} {i : TI} {o L k off : Nat} {ty0 : TypeId} {sz n : Nat} {f : Nat → List CV} {l : List CV} (hn : aRun P ops K r s (upd h o (.row ty0 sz n (upd f k (setLC (f k) off l))))) (h1 : ev s y = u := by simp only [go_sem, reduceIte, Nat.reduceEqDiff, FF] <;> rfl) (h2 : ev s z = v := by simp only [go_sem, reduceIte, Nat.reduceEqDiff, FF] <;> rfl) (ht1 : tinfo P t = some i := by simp only [go_sem] <;> rfl) (w1 : u.wh = true := by rfl) (w2 : v.wh = true := by rfl) (e1 : u.strip = .rp o L k off := by rfl) (hb : h o = .row ty0 sz n f := by simp only [go_sem, reduceIte, Nat.reduceEqDiff, FF] <;> rfl) (hl : v.strip.closedCells = some l := by simp only [go_sem, reduceIte, Nat.reduceEqDiff, FF, Nat.reduceAdd, Nat.reduceSub, Nat.reduceMul, Nat.reduceLeDiff] <;> rfl) (hn1 : l.length = i.size := by rfl) (hle : L = n ∧ k < n ∧ off + i.size ≤ sz := by (repeat' apply And.intro) <;> first | rfl | omega | (dsimp only; omega)) : aRun P ops K (⟨none, .store t y z, ty, pos, af, none⟩ :: r) s h := st2n rfl (k_store_rp h1 h2 ht1 w1 w2 e1 hb hl hn1 hle) hn
theorem m_box [Glb] {t : TypeId} {y : Operand} {u : AV} {l : List AV} (hn : aRun P ops K r (upd s d (.ptr d 0)) (upd h d (.box t l))) (hgo : h d = .gone := by simp only [go_sem, reduceIte, Nat.reduceEqDiff, FF]) (h1 : ev s y = u := by simp only [go_sem, reduceIte, Nat.reduceEqDiff, FF] <;> rfl) (w1 : u.wh = true := by rfl) (hl : u.strip.cells = some l := by simp only [go_sem, reduceIte, Nat.reduceEqDiff, FF, Nat.reduceAdd, Nat.reduceSub, Nat.reduceMul, Nat.reduceLeDiff] <;> rfl) : aRun P ops K (⟨some d, .box t y, ty, pos, af, none⟩ :: r) s h := st3 rfl hgo (k_box h1 w1 hl) hn
theorem m_alloc [Glb] {t : TypeId} {i : TI} {l : List AV} (hn : aRun P ops K r (upd s d (.ptr d 0)) (upd h d (.box t l))) (hgo : h d = .gone := by simp only [go_sem, reduceIte, Nat.reduceEqDiff, FF]) (ht1 : tinfo P t = some i := by simp only [go_sem] <;> rfl) (hz : i.zero.isEmpty = false := by rfl) (hl : i.zero.map constAV1 = l := by simp only [go_sem, reduceIte, Nat.reduceEqDiff, FF] <;> rfl) : aRun P ops K (⟨some d, .alloc t, ty, pos, af, none⟩ :: r) s h := st3 rfl hgo (k_alloc ht1 hz hl) hn
end
section
variable {P : Program} {nt : Nat} {fo : List Nat} {Q : APost} {s : Slots} {h : AH} {c : Code}
theorem m_for [Glb] {ι : Type} (S : ι → List (Nat × AV)) (H : ι → List (Nat × AObj)) (m : ι → Nat) (J : ι → Prop) (i0 : ι) (h0 : J i0)
   (round : ∀ i, J i → AWp P nt fo c (thenQ (fun s' h' => ∃ j, J j ∧ m j < m i ∧ (∀ p ∈ S j, s' p.1 = p.2) ∧ (∀ p ∈ H j, objLe (h' p.1) p.2)) Q) (ofL (S i)) (ofH (H i)))
   (hs : ∀ p ∈ S i0, s p.1 = p.2 := by simp only [List.forall_mem_cons, List.forall_mem_nil, go_sem, reduceIte, Nat.reduceEqDiff, FF]; all_goals ((repeat' apply And.intro) <;> first | trivial | rfl | exact objLe_refl _ | (intro _ _; exact Subs.refl _))) (hh : ∀ p ∈ H i0, objLe (h p.1) p.2 := by simp only [List.forall_mem_cons, List.forall_mem_nil, go_sem, reduceIte, Nat.reduceEqDiff, FF]; all_goals ((repeat' apply And.intro) <;> first | trivial | rfl | exact objLe_refl _ | (intro _ _; exact Subs.refl _)))
   (hfo : ∀ i, J i → (fo.all fun o => decide (o ∈ (H i).map Prod.fst)) = true := by exact fun _ _ => rfl) (hr : ∀ i, J i → refsIn ((H i).map Prod.fst) ((S i).map Prod.snd) = true := by exact fun _ _ => rfl) (hb : ∀ i, J i → ((H i).all fun p => boxIn ((H i).map Prod.fst) p.2) = true := by exact fun _ _ => rfl) : AWp P nt fo (.loop c) Q s h := awp_for S H m J i0 h0 hs hh hfo hr hb round
theorem m_cut [Glb] (l : List (Nat × AV)) (b : List (Nat × AObj)) (hn : AWp P nt fo c Q (ofL l) (ofH b)) (hs : ∀ p ∈ l, s p.1 = p.2 := by simp only [List.forall_mem_cons, List.forall_mem_nil, go_sem, reduceIte, Nat.reduceEqDiff, FF]; all_goals ((repeat' apply And.intro) <;> first | trivial | rfl | exact objLe_refl _ | (intro _ _; exact Subs.refl _))) (hh : ∀ p ∈ b, objLe (h p.1) p.2 := by simp only [List.forall_mem_cons, List.forall_mem_nil, go_sem, reduceIte, Nat.reduceEqDiff, FF]; all_goals ((repeat' apply And.intro) <;> first | trivial | rfl | exact objLe_refl _ | (intro _ _; exact Subs.refl _)))
   (hfo : (fo.all fun o => decide (o ∈ b.map Prod.fst)) = true := by rfl) (h1 : refsIn (b.map Prod.fst) (l.map Prod.snd) = true := by rfl) (h2 : (b.all fun p => boxIn (b.map Prod.fst) p.2) = true := by rfl) : AWp P nt fo c Q s h := awp_cut l b hs hh hfo h1 h2 hn
theorem m_cutH [Glb] (l : List (Nat × AV)) (b : List (Nat × AObj)) (hh : ∀ p ∈ b, objLe (h p.1) p.2) (hn : AWp P nt fo c Q (ofL l) (ofH b)) (hs : ∀ p ∈ l, s p.1 = p.2 := by simp only [List.forall_mem_cons, List.forall_mem_nil, go_sem, reduceIte, Nat.reduceEqDiff, FF]; all_goals ((repeat' apply And.intro) <;> first | trivial | rfl | exact objLe_refl _ | (intro _ _; exact Subs.refl _)))
   (hfo : (fo.all fun o => decide (o ∈ b.map Prod.fst)) = true := by rfl) (h1 : refsIn (b.map Prod.fst) (l.map Prod.snd) = true := by rfl) (h2 : (b.all fun p => boxIn (b.map Prod.fst) p.2) = true := by rfl) : AWp P nt fo c Q s h := awp_cut l b hs hh hfo h1 h2 hn
theorem m_frz [Glb] (o : Nat) {ty : TypeId} {sz n : Nat} {f : Nat → List CV} (l : List (Nat × AV)) (b : List (Nat × AObj)) (hn : AWp P nt fo c Q (ofL l) (ofH b)) (ho : h o = .row ty sz n f := by simp only [go_sem, reduceIte, Nat.reduceEqDiff, FF] <;> rfl) (hs : ∀ p ∈ l, frzS o sz n f s p.1 = p.2 := by simp only [List.forall_mem_cons, List.forall_mem_nil, go_sem, reduceIte, Nat.reduceEqDiff, FF]; all_goals ((repeat' apply And.intro) <;> first | trivial | rfl | exact objLe_refl _ | (intro _ _; exact Subs.refl _))) (hh : ∀ p ∈ b, objLe (frzH o sz n f h p.1) p.2 := by simp only [List.forall_mem_cons, List.forall_mem_nil, go_sem, reduceIte, Nat.reduceEqDiff, FF]; all_goals ((repeat' apply And.intro) <;> first | trivial | rfl | exact objLe_refl _ | (intro _ _; exact Subs.refl _)))
   (hof : (fo.all fun q => q != o) = true := by rfl) (hfo : (fo.all fun o => decide (o ∈ b.map Prod.fst)) = true := by rfl) (h1 : refsIn (b.map Prod.fst) (l.map Prod.snd) = true := by rfl) (h2 : (b.all fun p => boxIn (b.map Prod.fst) p.2) = true := by rfl) : AWp P nt fo c Q s h := awp_frz o l b ho hs hh hof hfo h1 h2 hn
theorem m_next [Glb] {ι : Type} {S : ι → List (Nat × AV)} {H : ι → List (Nat × AObj)} {m : ι → Nat} {J : ι → Prop} {M : Nat} (j : ι) (h1 : J j) (h2 : m j < M) (hs : ∀ p ∈ S j, s p.1 = p.2 := by simp only [List.forall_mem_cons, List.forall_mem_nil, go_sem, reduceIte, Nat.reduceEqDiff, FF]; all_goals ((repeat' apply And.intro) <;> first | trivial | rfl | exact objLe_refl _ | (intro _ _; exact Subs.refl _))) (hh : ∀ p ∈ H j, objLe (h p.1) p.2 := by simp only [List.forall_mem_cons, List.forall_mem_nil, go_sem, reduceIte, Nat.reduceEqDiff, FF]; all_goals ((repeat' apply And.intro) <;> first | trivial | rfl | exact objLe_refl _ | (intro _ _; exact Subs.refl _))) : ∃ j, J j ∧ m j < M ∧ (∀ p ∈ S j, s p.1 = p.2) ∧ (∀ p ∈ H j, objLe (h p.1) p.2) := ⟨j, h1, h2, hs, hh⟩
theorem m_nextH [Glb] {ι : Type} {S : ι → List (Nat × AV)} {H : ι → List (Nat × AObj)} {m : ι → Nat} {J : ι → Prop} {M : Nat} (j : ι) (h1 : J j) (h2 : m j < M) (hh : ∀ p ∈ H j, objLe (h p.1) p.2) (hs : ∀ p ∈ S j, s p.1 = p.2 := by simp only [List.forall_mem_cons, List.forall_mem_nil, go_sem, reduceIte, Nat.reduceEqDiff, FF]; all_goals ((repeat' apply And.intro) <;> first | trivial | rfl | exact objLe_refl _ | (intro _ _; exact Subs.refl _))) : ∃ j, J j ∧ m j < M ∧ (∀ p ∈ S j, s p.1 = p.2) ∧ (∀ p ∈ H j, objLe (h p.1) p.2) := ⟨j, h1, h2, hs, hh⟩
theorem m_cond [Glb] {c : Operand} {x y : Code} {b : Bool} (ht : b = true → AWp P nt fo x Q s h) (hf : b = false → AWp P nt fo y Q s h) (hc : ev s c = .bool b := by simp only [go_sem, reduceIte, Nat.reduceEqDiff, FF] <;> rfl) : AWp P nt fo (.cond c x y) Q s h := awp_cond hc ht hf
end
end Go.Am
