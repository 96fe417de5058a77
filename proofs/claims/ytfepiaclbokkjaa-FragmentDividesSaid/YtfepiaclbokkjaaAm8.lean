/- The abstract machine, part 8: a region whose order is drawn: what its text's order gives, every order gives. Generic over the program; no condition. -/
import Derived.Test.YtfepiaclbokkjaaAm7
namespace Go.Am
open Go.RowKit

/-! Which objects a value leads to. -/
def AV.ref1 : AV → List Nat
  | .ptr o _ | .rp o _ _ _ | .own o _ | .osub o _ _ _ => [o]
  | _ => []
def AV.refs : AV → List Nat
  | .agg xs => xs.flatMap AV.ref1
  | x => x.ref1

theorem RA.ref1_live {w : World} {Z : Nat → Prop} {h : AH} {gs : Gs} {v : Value} {x : AV} (hx : RA w Z h gs v x) : ∀ o ∈ x.ref1, h o ≠ .gone := by
  intro o ho e
  cases hx <;> simp only [AV.ref1, List.mem_singleton, List.not_mem_nil] at ho <;> subst ho <;> simp_all

theorem RA.refs_live {w : World} {Z : Nat → Prop} {h : AH} {gs : Gs} {v : Value} {x : AV} (hx : RA w Z h gs v x) : ∀ o ∈ x.refs, h o ≠ .gone := by
  cases hx with
  | agg cs xs hl ho hh =>
    intro o ho'
    simp only [AV.refs, List.mem_flatMap] at ho'
    obtain ⟨y, hy, hoy⟩ := ho'
    obtain ⟨i, hi, rfl⟩ := List.getElem_of_mem hy
    have := hh i hi
    rw [getD_lt hi] at this
    exact this.ref1_live o hoy
  | c v x hx => exact (RA.c (gs := gs) (h := h) v x hx).ref1_live
  | pim ad xs g hb hlt hc ho hh => exact (RA.pim (gs := gs) (h := h) ad xs g hb hlt hc ho hh).ref1_live
  | ptr o off b K ty cells ho hg => exact (RA.ptr (w := w) (Z := Z) o off b K ty cells ho hg).ref1_live
  | rp ad o L i off ty sz n f ho hL hv => exact (RA.rp (w := w) (Z := Z) ad o L i off ty sz n f ho hL hv).ref1_live
  | own A k c o L ty sz n f ho hL hv => exact (RA.own (w := w) (Z := Z) A k c o L ty sz n f ho hL hv).ref1_live
  | osub A k' c o L off k ty sz n f ho hL hv => exact (RA.osub (w := w) (Z := Z) A k' c o L off k ty sz n f ho hL hv).ref1_live
  | emp A => exact (RA.emp (w := w) (Z := Z) (h := h) (gs := gs) A).ref1_live
  | when v b x hx hu => exact (RA.when (w := w) (Z := Z) (h := h) (gs := gs) v b x hx hu).ref1_live

/-- The same operands, the same objects behind them. -/
structure Agree (op : Op) (e e' : Operand → AV) (h h' : AH) : Prop where
  ops : ∀ y ∈ op.operands, e' y = e y
  objs : ∀ y ∈ op.operands, (e y).wh = true → ∀ o ∈ (e y).strip.refs, h o ≠ .gone → h' o = h o

theorem aop0_congr {P : Program} {op : Op} {e e' : Operand → AV} {G : Bool} {x : AV} (hc : cls op = 0) (he : ∀ y ∈ op.operands, e' y = e y) (hx : aop0 P op e G x) : aop0 P op e' G x := by
  cases op <;> simp only [Op.operands, List.mem_toArray, List.mem_cons, List.not_mem_nil, or_false, forall_eq_or_imp, forall_eq] at he
  case move y => simp only [aop0, he] at hx ⊢; exact hx
  case assign y => simp only [aop0, he] at hx ⊢; exact hx
  case pick c y z => obtain ⟨h1, h2, h3⟩ := he; simp only [aop0, h1, h2, h3] at hx ⊢; exact hx
  case binOp op t y z t2 => obtain ⟨h1, h2⟩ := he; simp only [aop0, h1, h2] at hx ⊢; exact hx
  case unOp op t y => cases op <;> simp only [aop0, he] at hx ⊢ <;> exact hx
  case fieldAddr t y f => simp only [aop0, he] at hx ⊢; exact hx
  case extract y i => simp only [aop0, he] at hx ⊢; exact hx
  case convert t t2 y => simp only [aop0, he] at hx ⊢; exact hx
  case build t parts =>
    have hp : ∀ p ∈ parts.toList, e' p.2 = e p.2 := fun p hp => he _ (List.mem_map.2 ⟨p, hp, rfl⟩)
    simp only [aop0] at hx ⊢
    rw [List.map_congr_left (g := fun p => (p.1, (e p.2).strip)) (fun p hm => by rw [hp p hm])]
    obtain ⟨i, cs, h1, h2, h3, h4, h5, h6, h7, h8⟩ := hx
    exact ⟨i, cs, h1, h2, h3, h4, h5, h6, fun hg p hm => by rw [hp p hm]; exact h7 hg p hm, h8⟩
  case buildSlice t n parts =>
    have hp : ∀ p ∈ parts.toList, e' p.2 = e p.2 := fun p hp => he _ (List.mem_map.2 ⟨p, hp, rfl⟩)
    have hpc : ∀ (l : List (Nat × Operand)) (k sz : Nat), (∀ p ∈ l, e' p.2 = e p.2) → partsC e' l k sz = partsC e l k sz := by
      intro l
      induction l with
      | nil => intros; rfl
      | cons p l ih =>
        intro k sz hl
        obtain ⟨i, y⟩ := p
        simp only [partsC]
        rw [ih (k + 1) sz (fun q hq => hl q (by simp [hq])), hl (i, y) (by simp)]
    simp only [aop0] at hx ⊢
    obtain ⟨i, j, l, h1, h2, h3, h4, h5, h6, h7, h8, h9⟩ := hx
    exact ⟨i, j, l, h1, h2, h3, h4, h5, by rw [hpc _ _ _ hp]; exact h6, h7, fun hg p hm => by rw [hp p hm]; exact h8 hg p hm, h9⟩
  case call c =>
    obtain ⟨callee, args, ats⟩ := c
    cases callee with
    | builtin b =>
      cases b <;> first | exact hx.elim | skip
      obtain ⟨y, z, k, n, m, rfl, h1, h2, h3, h4⟩ := hx
      have hy : e' y = e y := he y (by simp [Call.operands])
      have hz : e' z = e z := he z (by simp [Call.operands])
      exact ⟨y, z, k, n, m, rfl, by rw [hy]; exact h1, by rw [hz]; exact h2, by rw [hy, hz]; exact h3, h4⟩
    | _ => exact hx.elim
  all_goals exact hx.elim

theorem view1_congr {h h' : AH} {x : AV} (hl : x.live1 h = true) (hr : ∀ o ∈ x.ref1, h o ≠ .gone → h' o = h o) : x.view1 h' = x.view1 h ∧ x.live1 h' = true := by
  cases x with
  | own o L =>
    have : h o ≠ .gone := fun e => by simp [AV.live1, e] at hl
    have e := hr o (by simp [AV.ref1]) this
    simp only [AV.view1, AV.live1, e] at hl ⊢
    exact ⟨trivial, hl⟩
  | osub o L off k =>
    have : h o ≠ .gone := fun e => by simp [AV.live1, e] at hl
    have e := hr o (by simp [AV.ref1]) this
    simp only [AV.view1, AV.live1, e] at hl ⊢
    exact ⟨trivial, hl⟩
  | _ => exact ⟨rfl, rfl⟩

theorem view_congr {h h' : AH} {x : AV} (hl : x.live h = true) (hr : ∀ o ∈ x.refs, h o ≠ .gone → h' o = h o) : x.view h' = x.view h ∧ x.live h' = true := by
  cases x with
  | agg xs =>
    simp only [AV.live, List.all_eq_true] at hl
    have hk : ∀ y ∈ xs, y.view1 h' = y.view1 h ∧ y.live1 h' = true := fun y hy => view1_congr (hl y hy) fun o ho => hr o (List.mem_flatMap.2 ⟨y, hy, ho⟩)
    refine ⟨?_, ?_⟩
    · simp only [AV.view]
      rw [List.map_congr_left fun y hy => (hk y hy).1]
    · simp only [AV.live, List.all_eq_true]
      exact fun y hy => (hk y hy).2
  | own o L => exact view1_congr (x := .own o L) hl hr
  | osub o L off k => exact view1_congr (x := .osub o L off k) hl hr
  | _ => exact ⟨rfl, rfl⟩

theorem aop1_congr {P : Program} {op : Op} {e e' : Operand → AV} {h h' : AH} {x : AV} (A : Agree op e e' h h') (hx : aop1 P op e h true x) : aop1 P op e' h' true x := by
  cases op with
  | load t y =>
    have hy := A.ops y (by simp [Op.operands])
    obtain ⟨i, h1, h2, h3, h4⟩ := hx
    have hr := A.objs y (by simp [Op.operands]) (h3 rfl)
    refine ⟨i, h1, h2, by rw [hy]; exact h3, ?_⟩
    rw [hy]
    generalize (e y).strip = q at h4 hr
    cases q with
    | ptr o off =>
      obtain ⟨ty, cells, e1, e2⟩ := h4
      exact ⟨ty, cells, (hr o (by simp [AV.refs, AV.ref1]) (by rw [e1]; simp)).trans e1, e2⟩
    | rp o L k off =>
      obtain ⟨ty, sz, n, f, e1, e2⟩ := h4
      exact ⟨ty, sz, n, f, (hr o (by simp [AV.refs, AV.ref1]) (by rw [e1]; simp)).trans e1, e2⟩
    | _ => exact h4
  | indexAddr t y z =>
    have hy := A.ops y (by simp [Op.operands])
    have hz := A.ops z (by simp [Op.operands])
    obtain ⟨i, j, k, n, h1, h2, h3, h4, h5, h6⟩ := hx
    have hr := A.objs y (by simp [Op.operands]) (h5 rfl).1
    refine ⟨i, j, k, n, h1, h2, h3, by rw [hz]; exact h4, by rw [hy, hz]; exact h5, ?_⟩
    rw [hy]
    generalize (e y).strip = q at h6 hr
    cases q with
    | own o L =>
      obtain ⟨ty, sz, m, f, e1, e2⟩ := h6
      exact ⟨ty, sz, m, f, (hr o (by simp [AV.refs, AV.ref1]) (by rw [e1]; simp)).trans e1, e2⟩
    | osub o L off k =>
      obtain ⟨ty, sz, m, f, e1, e2⟩ := h6
      exact ⟨ty, sz, m, f, (hr o (by simp [AV.refs, AV.ref1]) (by rw [e1]; simp)).trans e1, e2⟩
    | c z => cases z <;> exact h6
    | _ => exact h6
  | slice t y lo hi mx =>
    cases mx with
    | some m => exact hx.elim
    | none =>
    have hy := A.ops y (by simp [Op.operands])
    have hlo' : ∀ z, lo = some z → e' z = e z := fun z hz => A.ops z (by simp [Op.operands, hz])
    have hhi' : ∀ z, hi = some z → e' z = e z := fun z hz => A.ops z (by simp [Op.operands, hz])
    obtain ⟨l, hh, h1, h2, h3, h4, h5⟩ := hx
    have hr := A.objs y (by simp [Op.operands]) (h4 rfl).1
    refine ⟨l, hh, fun z hz => by rw [hlo' z hz]; exact h1 z hz, h2, fun z hz => by rw [hhi' z hz]; exact h3 z hz, by rw [hy]; exact h4, ?_⟩
    rw [hy]
    generalize (e y).strip = q at h5 hr
    cases q with
    | own o L =>
      obtain ⟨ty, sz, m, f, e1, e2⟩ := h5
      exact ⟨ty, sz, m, f, (hr o (by simp [AV.refs, AV.ref1]) (by rw [e1]; simp)).trans e1, e2⟩
    | c z =>
      cases z with
      | raw u => cases u <;> exact h5
      | _ => exact h5
    | _ => exact h5
  | call c =>
    obtain ⟨callee, args, ats⟩ := c
    cases callee with
    | builtin b =>
      cases b <;> first | exact hx.elim | skip
      obtain ⟨y, t, rfl, rfl, h1, h2⟩ := hx
      have hy := A.ops y (by simp [Op.operands, Call.operands])
      have hr := A.objs y (by simp [Op.operands, Call.operands]) (h1 rfl)
      refine ⟨y, t, rfl, rfl, by rw [hy]; exact h1, ?_⟩
      rw [hy]
      generalize (e y).strip = q at h2 hr
      cases q with
      | own o L =>
        obtain ⟨e0, ty, sz, m, f, e1, e2⟩ := h2
        exact ⟨e0, ty, sz, m, f, (hr o (by simp [AV.refs, AV.ref1]) (by rw [e1]; simp)).trans e1, e2⟩
      | osub o L off k =>
        obtain ⟨e0, ty, sz, m, f, e1, e2⟩ := h2
        exact ⟨e0, ty, sz, m, f, (hr o (by simp [AV.refs, AV.ref1]) (by rw [e1]; simp)).trans e1, e2⟩
      | c z =>
        cases z with
        | raw u => cases u <;> exact h2
        | _ => exact h2
      | _ => exact h2
    | value f =>
      cases f with
      | func f =>
        obtain ⟨cs, r, h0, h1, h2, h3, h4, h5⟩ := hx
        have hm : ∀ y ∈ args.toList, y ∈ (Op.call ⟨.value (.func f), args, ats⟩).operands := fun y hy => by simp [Op.operands, Call.operands]; exact .inr (by simpa using hy)
        have hy : ∀ y ∈ args.toList, e' y = e y := fun y hy => A.ops y (hm y hy)
        have hv : ∀ y ∈ args.toList, (e y).strip.view h' = (e y).strip.view h ∧ (e y).strip.live h' = true := fun y hy' => view_congr (h0 y hy') (A.objs y (hm y hy') (h2 rfl y hy'))
        refine ⟨cs, r, fun y hy' => by rw [hy y hy']; exact (hv y hy').2, ?_, fun hg y hy' => by rw [hy y hy']; exact h2 hg y hy', h3, ?_, h5⟩
        · rw [List.map_congr_left (g := fun y => (e y).strip.view h) fun y hy' => by rw [hy y hy']; exact (hv y hy').1]
          exact h1
        · rcases h4 with h4 | h4
          · exact .inl h4
          · exact .inr fun y hy' => by rw [hy y hy']; exact h4 y hy'
      | _ => exact hx.elim
    | invoke r m => exact hx.elim
  | _ => exact hx.elim

theorem srcOf_congr {h h' : AH} {x : AV} {r : Nat × Nat × (Nat → List CV)} (hs : srcOf h x = some r) (hr : ∀ o ∈ x.refs, h o ≠ .gone → h' o = h o) : srcOf h' x = some r := by
  cases x with
  | own o L =>
    have : h o ≠ .gone := fun e => by simp [srcOf, e] at hs
    simp only [srcOf, hr o (by simp [AV.refs, AV.ref1]) this] at hs ⊢
    exact hs
  | osub o L off k =>
    have : h o ≠ .gone := fun e => by simp [srcOf, e] at hs
    simp only [srcOf, hr o (by simp [AV.refs, AV.ref1]) this] at hs ⊢
    exact hs
  | c z => cases z <;> exact hs
  | _ => exact hs

theorem aop2_congr {P : Program} {op : Op} {e e' : Operand → AV} {h h' : AH} {d : Option Tmp} {o : Nat} {x' : AObj} {x : AV} (A : Agree op e e' h h') (hd : ∀ o, d = some o → h o = .gone → h' o = .gone) (hx : aop2 P op e h d o x' x) : aop2 P op e' h' d o x' x := by
  cases op with
  | store t y z =>
    have hy := A.ops y (by simp [Op.operands])
    have hz := A.ops z (by simp [Op.operands])
    obtain ⟨h1, i, h2, h3, h4, h5⟩ := hx
    have hr := A.objs y (by simp [Op.operands]) h3
    refine ⟨h1, i, h2, by rw [hy]; exact h3, by rw [hz]; exact h4, ?_⟩
    rw [hy, hz]
    generalize (e y).strip = q at h5 hr
    cases q with
    | ptr o' off =>
      obtain ⟨e0, ty, cells, l, e1, e2⟩ := h5
      exact ⟨e0, ty, cells, l, (hr o' (by simp [AV.refs, AV.ref1]) (by rw [e1]; simp)).trans e1, e2⟩
    | rp o' L k off =>
      obtain ⟨e0, ty, sz, n, f, l, e1, e2⟩ := h5
      exact ⟨e0, ty, sz, n, f, l, (hr o' (by simp [AV.refs, AV.ref1]) (by rw [e1]; simp)).trans e1, e2⟩
    | _ => exact h5
  | call c =>
    obtain ⟨callee, args, ats⟩ := c
    cases callee with
    | builtin b =>
      cases b <;> first | exact hx.elim | skip
      case append =>
        obtain ⟨y, z, t, i, j, sz, m, g, rfl, rfl, h1, h2, h3, h4, h5, h6, h7, h8, h9, h10⟩ := hx
        have hy := A.ops y (by simp [Op.operands, Call.operands])
        have hz := A.ops z (by simp [Op.operands, Call.operands])
        have hr := A.objs y (by simp [Op.operands, Call.operands]) h6
        refine ⟨y, z, t, i, j, sz, m, g, rfl, rfl, h1, h2, h3, h4, h5, by rw [hy]; exact h6, by rw [hz]; exact h7, by rw [hz]; exact srcOf_congr h8 (A.objs z (by simp [Op.operands, Call.operands]) h7), h9, ?_⟩
        rw [hy]
        generalize (e y).strip = q at h10 hr
        cases q with
        | own o' L =>
          obtain ⟨e0, ty, n, f, e1, e2⟩ := h10
          exact ⟨e0, ty, n, f, (hr o' (by simp [AV.refs, AV.ref1]) (by rw [e1]; simp)).trans e1, e2⟩
        | emp =>
          obtain ⟨e0, e1, e2⟩ := h10
          exact ⟨e0, hd o e0 e1, e2⟩
        | _ => exact h10
      case copy =>
        obtain ⟨y, z, t, t2, i, j, sz, m, g, rfl, rfl, h1, h2, h3, h6, h7, h8, h9, h10⟩ := hx
        have hy := A.ops y (by simp [Op.operands, Call.operands])
        have hz := A.ops z (by simp [Op.operands, Call.operands])
        have hr := A.objs y (by simp [Op.operands, Call.operands]) h6
        refine ⟨y, z, t, t2, i, j, sz, m, g, rfl, rfl, h1, h2, h3, by rw [hy]; exact h6, by rw [hz]; exact h7, by rw [hz]; exact srcOf_congr h8 (A.objs z (by simp [Op.operands, Call.operands]) h7), h9, ?_⟩
        rw [hy]
        generalize (e y).strip = q at h10 hr
        cases q with
        | own o' L =>
          obtain ⟨e0, ty, n, f, e1, e2⟩ := h10
          exact ⟨e0, ty, n, f, (hr o' (by simp [AV.refs, AV.ref1]) (by rw [e1]; simp)).trans e1, e2⟩
        | osub o' L off k =>
          obtain ⟨e0, ty, n, f, e1, e2⟩ := h10
          exact ⟨e0, ty, n, f, (hr o' (by simp [AV.refs, AV.ref1]) (by rw [e1]; simp)).trans e1, e2⟩
        | _ => exact h10
    | _ => exact hx.elim
  | _ => exact hx.elim

theorem aop3_congr {P : Program} {op : Op} {e e' : Operand → AV} {d : Nat} {x' : AObj} {x : AV} (he : ∀ y ∈ op.operands, e' y = e y) (hx : aop3 P op e d x' x) : aop3 P op e' d x' x := by
  cases op with
  | box t y => simp only [aop3, he y (by simp [Op.operands])] at hx ⊢; exact hx
  | alloc t => exact hx
  | makeSlice t y z => simp only [aop3, he y (by simp [Op.operands]), he z (by simp [Op.operands])] at hx ⊢; exact hx
  | _ => exact hx.elim

/-- No operation makes an object go. -/
theorem aop2_made {P : Program} {op : Op} {e : Operand → AV} {h : AH} {d : Option Tmp} {o : Nat} {x' : AObj} {x : AV} (hx : aop2 P op e h d o x' x) : x' ≠ .gone := by
  cases op with
  | store t y z =>
    obtain ⟨_, i, _, _, _, h5⟩ := hx
    generalize (e y).strip = q at h5
    cases q with
    | ptr o' off => obtain ⟨_, ty, cells, l, _, _, _, _, rfl⟩ := h5; simp
    | rp o' L k off => obtain ⟨_, ty, sz, n, f, l, _, _, _, _, _, _, rfl⟩ := h5; simp
    | _ => exact h5.elim
  | call c =>
    obtain ⟨callee, args, ats⟩ := c
    cases callee with
    | builtin b =>
      cases b <;> first | exact hx.elim | skip
      case append =>
        obtain ⟨y, z, t, i, j, sz, m, g, _, _, _, _, _, _, _, _, _, _, _, h10⟩ := hx
        generalize (e y).strip = q at h10
        cases q with
        | own o' L => obtain ⟨_, ty, n, f, _, _, _, _, _, rfl, _⟩ := h10; simp
        | emp => obtain ⟨_, _, _, _, rfl, _⟩ := h10; simp
        | _ => exact h10.elim
      case copy =>
        obtain ⟨y, z, t, t2, i, j, sz, m, g, _, _, _, _, _, _, _, _, _, h10⟩ := hx
        generalize (e y).strip = q at h10
        cases q with
        | own o' L => obtain ⟨_, ty, n, f, _, _, rfl, _⟩ := h10; simp
        | osub o' L off k => obtain ⟨_, ty, n, f, _, _, rfl, _⟩ := h10; simp
        | _ => exact h10.elim
    | _ => exact hx.elim
  | _ => exact hx.elim
theorem aop3_made {P : Program} {op : Op} {e : Operand → AV} {d : Nat} {x' : AObj} {x : AV} (hx : aop3 P op e d x' x) : x' ≠ .gone := by
  cases op with
  | box t y => obtain ⟨l, _, _, rfl, _⟩ := hx; simp
  | alloc t => obtain ⟨i, _, _, rfl, _⟩ := hx; simp
  | makeSlice t y z => obtain ⟨i, j, k1, k2, n, _, _, _, _, _, _, _, _, _, _, _, _, rfl, _⟩ := hx; simp
  | _ => exact hx.elim

end Go.Am
