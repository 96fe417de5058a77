/- The abstract machine, part 10: a region whose order is drawn gives what its text's order gives. Generic over the program; no condition. -/
import Derived.Test.YtfepiaclbokkjaaAm9
namespace Go.Am
open Go.RowKit

theorem confS_symm {ops : Array Oper} {x y : Oper} (h : confS ops x y = true) : confS ops y x = true := by
  unfold confS at h ⊢
  simp only [Bool.or_eq_true] at h ⊢
  rcases h with h | h
  · cases hx : x.dst with
    | none => rw [hx] at h; cases h
    | some d =>
      rw [hx] at h
      simp only [Bool.or_eq_true, beq_iff_eq] at h
      rcases h with h | h
      · exact .inr h
      · rw [h]
        simp
  · cases hy : y.dst with
    | none => rw [hy] at h; cases h
    | some d =>
      rw [hy] at h
      refine .inl ?_
      simp only [Bool.or_eq_true]
      exact .inl h
theorem confC_symm {x y : Oper} (h : confC x y = true) : confC y x = true := by
  unfold confC at h ⊢
  rw [Bool.or_comm]
  exact h
theorem conf_symm {free : List (Nat × Nat)} {ops : Array Oper} {i j : Nat} {x y : Oper} (h : conf free ops i j x y = true) : conf free ops j i y x = true := by
  unfold conf at h ⊢
  rw [Bool.or_eq_true, Bool.and_eq_true] at h ⊢
  rcases h with h | ⟨h1, h2⟩
  · exact .inl (confS_symm h)
  · refine .inr ⟨confC_symm h1, ?_⟩
    rw [Bool.or_comm]
    exact h2

theorem step_eff {P : Program} {ops : Array Oper} {o : Oper} {s : Nat → AV} {h : AH} {x : AV} {ob : Nat} {x' : AObj} (hx : aStep P ops o s h x (some (ob, x'))) :
    x' ≠ .gone ∧ o.guard = none ∧ (cls o.op = 2 ∨ (3 ≤ cls o.op ∧ o.dst = some ob ∧ h ob = .gone)) := by
  unfold aStep at hx
  split at hx
  · rename_i hg
    unfold aEx at hx
    split at hx
    · exact absurd hx.2 (by simp)
    · exact absurd hx.2 (by simp)
    · rename_i hc
      obtain ⟨ob', x'', h1, h2⟩ := hx
      simp only [Option.some.injEq, Prod.mk.injEq] at h2
      obtain ⟨rfl, rfl⟩ := h2
      exact ⟨aop2_made h1, hg, .inl hc⟩
    · rename_i n0 n1 n2
      obtain ⟨d, x'', h1, h2, h3, h4⟩ := hx
      simp only [Option.some.injEq, Prod.mk.injEq] at h4
      obtain ⟨rfl, rfl⟩ := h4
      refine ⟨aop3_made h3, hg, .inr ⟨?_, h1, h2⟩⟩
      have a0 : cls o.op ≠ 0 := n0
      have a1 : cls o.op ≠ 1 := n1
      have a2 : cls o.op ≠ 2 := n2
      omega
  · exact absurd hx.1 (by simp)

section
variable {w0 : World} {Z : Nat → Prop} {nt : Nat} {P : Program} {ops : Array Oper} {xs : Nat → AV} {es : Nat → Option (Nat × AObj)} {s0 : Nat → AV} {h0 : AH} {free : List (Nat × Nat)}

/-- The set of what has been carried out. -/
def lset (listed : Array Bool) : Nat → Bool := fun j => listed.getD j false

structure Ord (free : List (Nat × Nat)) (ops : Array Oper) (L : Nat → Bool) (i : Nat) : Prop where
  out : L i = false
  ord : ∀ j x y, ops[j]? = some x → ops[i]? = some y → j ≠ i → conf free ops j i x y = true → (j < i → L j = true) ∧ (i < j → L j = false)
  closed : ∀ i o e, ops[i]? = some o → L i = true → e ∈ o.after.toList → Region.binds .any e = true → L e.on = true
  all : ∀ j k x y, ops[j]? = some x → ops[k]? = some y → j < k → conf free ops j k x y = true → L k = true → L j = true

theorem Ord.make (hd : drawOkF free ops = true) {L : Nat → Bool} {i : Nat} {o : Oper} (ho : ops[i]? = some o) (hi : L i = false)
    (hcl : ∀ i o e, ops[i]? = some o → L i = true → e ∈ o.after.toList → Region.binds .any e = true → L e.on = true) (hre : ∀ e ∈ o.after.toList, Region.binds .any e = true → L e.on = true) : Ord free ops L i := by
  obtain ⟨d1, d2⟩ := drawOk_spec hd
  refine ⟨hi, fun j x y hj hy hji hc => ⟨fun hlt => ?_, fun hlt => ?_⟩, hcl, fun j k x y hj hk hjk hc hl => ?_⟩
  · have hb := d2 i j y x hlt hy hj hc
    have hcl' : ∀ i' o' e, ops[i']? = some o' → (decide (i' = i) || L i') = true → e ∈ o'.after.toList → Region.binds .any e = true → (decide (e.on = i) || L e.on) = true := by
      intro i' o' e h1 h2 h3 h4
      simp only [Bool.or_eq_true, decide_eq_true_eq] at h2 ⊢
      rcases h2 with rfl | h2
      · rw [ho] at h1
        injection h1 with h1
        subst h1
        exact .inr (hre e h3 h4)
      · exact .inr (hcl i' o' e h1 h2 h3 h4)
    have := (closed_masks (L := fun j => decide (j = i) || L j) hcl' i (by simp) j hb).1
    simp only [Bool.or_eq_true, decide_eq_true_eq] at this
    rcases this with h | h
    · omega
    · exact h
  · cases hl : L j with
    | false => rfl
    | true =>
      have hb := d2 j i x y hlt hj hy (conf_symm hc)
      have := (closed_masks hcl j hl i hb).1
      rw [hi] at this
      cases this
  · have hb := d2 k j y x hjk hk hj hc
    exact (closed_masks hcl k hl j hb).1

theorem conf_dst {i j : Nat} {x y : Oper} {d : Tmp} (hx : x.dst = some d) (hy : y.dst = some d) : conf free ops i j x y = true := by
  unfold conf confS
  simp [hx, hy]
theorem conf_look {i j : Nat} {x y : Oper} {d : Tmp} (hx : x.dst = some d) (hy : d ∈ y.looksAt ops) : conf free ops i j x y = true := by
  unfold conf confS
  simp [hx, hy]
theorem conf_cls {i j : Nat} {x y : Oper} (hx : cls x.op = 2) (hy : 1 ≤ cls y.op) (h1 : (i, j) ∉ free) (h2 : (j, i) ∉ free) : conf free ops i j x y = true := by
  unfold conf confC
  simp [hx, hy, h1, h2]

/-- Of a pair of 'free' the second only looks. -/
theorem free_cls (hf : freeStat free ops = true) {i j : Nat} {y : Oper} (hj : ops[j]? = some y) (hy : 2 ≤ cls y.op) : (i, j) ∉ free := fun h => by
  obtain ⟨x', y', t, T, z, h1, h2, h3, _⟩ := freeStat_spec hf h
  rw [hj] at h2
  injection h2 with h2
  subst h2
  omega

/-- What the text's own run says of operation k. -/
def Texts (P : Program) (ops : Array Oper) (xs : Nat → AV) (es : Nat → Option (Nat × AObj)) (s0 : Nat → AV) (h0 : AH) : Prop :=
  ∀ k o, ops[k]? = some o → aStep P ops o (SL ops xs s0 (fun _ => true) k) (HL es h0 (fun _ => true) k) (xs k) (es k)

theorem lt_of_some {i : Nat} {o : Oper} (h : ops[i]? = some o) : i < ops.size := by
  rcases Nat.lt_or_ge i ops.size with h1 | h1
  · exact h1
  · rw [Array.getElem?_eq_none h1] at h; cases h

/-- Two operations that touch one object. -/
theorem eff_conf (hf : freeStat free ops = true) (T : Texts P ops xs es s0 h0) {i j ob : Nat} {x y : Oper} (hi : ops[i]? = some x) (hj : ops[j]? = some y) (e1 : effOn es i ob) (e2 : effOn es j ob) : conf free ops i j x y = true := by
  obtain ⟨x1, e1⟩ := e1
  obtain ⟨x2, e2⟩ := e2
  have t1 := T i x hi
  have t2 := T j y hj
  rw [e1] at t1
  rw [e2] at t2
  obtain ⟨_, _, h1⟩ := step_eff t1
  obtain ⟨_, _, h2⟩ := step_eff t2
  have c1 : 2 ≤ cls x.op := by rcases h1 with h1 | ⟨h1, _⟩ <;> omega
  have c2 : 2 ≤ cls y.op := by rcases h2 with h2 | ⟨h2, _⟩ <;> omega
  rcases h1 with h1 | ⟨h1, d1, _⟩
  · exact conf_cls h1 (by omega) (free_cls hf hj c2) (free_cls hf hi c1)
  · rcases h2 with h2 | ⟨h2, d2, _⟩
    · exact conf_symm (conf_cls h2 (by omega) (free_cls hf hi c1) (free_cls hf hj c2))
    · exact conf_dst d1 d2

theorem made_of (T : Texts P ops xs es s0 h0) {k ob : Nat} (hk : k ≤ ops.size) : ∀ j x', j < k → es j = some (ob, x') → x' ≠ .gone := by
  intro j x' hj he
  have ho : ops[j]? = some ops[j] := Array.getElem?_eq_getElem (by omega)
  have t := T j _ ho
  rw [he] at t
  exact (step_eff t).1

/-- At the text's time nothing was there: nothing is there now. -/
theorem gone_of (hf : freeStat free ops = true) (T : Texts P ops xs es s0 h0) {L : Nat → Bool} {i ob : Nat} {o : Oper} (O : Ord free ops L i) (hi : ops[i]? = some o) (hg : HL es h0 (fun _ => true) i ob = .gone)
    (hc : 2 ≤ cls o.op) (hdst : o.dst = some ob) : HL es h0 L ops.size ob = .gone := by
  have hlt := lt_of_some hi
  have hno : ∀ j, j < i → ¬ effOn es j ob := fun j hj he => HL_some (L := fun _ => true) i (made_of T (by omega)) (.inr ⟨j, hj, rfl, he⟩) hg
  have h00 : h0 ob = .gone := by
    rw [← HL_none (es := es) (h0 := h0) (L := fun _ => true) i (fun j hj _ => hno j hj)]
    exact hg
  rw [HL_none ops.size (fun j hj hl he => ?_), h00]
  have hjo : ops[j]? = some ops[j] := Array.getElem?_eq_getElem hj
  by_cases hji : j = i
  · subst hji
    rw [O.out] at hl
    cases hl
  · have hcf : conf free ops j i ops[j] o = true := by
      obtain ⟨x', he'⟩ := he
      have t := T j _ hjo
      rw [he'] at t
      obtain ⟨_, _, h1⟩ := step_eff t
      rcases h1 with h1 | ⟨h1, d1, _⟩
      · exact conf_cls h1 (by omega) (free_cls hf hi hc) (free_cls hf hjo (by omega))
      · exact conf_dst d1 hdst
    have := O.ord j _ _ hjo hi hji hcf
    rcases Nat.lt_or_gt_of_ne hji with h1 | h1
    · exact hno j h1 he
    · rw [this.2 h1] at hl
      cases hl

/-- The pairs of 'free' touch no object in common. -/
def FreeOk (free : List (Nat × Nat)) (ops : Array Oper) (xs : Nat → AV) (es : Nat → Option (Nat × AObj)) (s0 : Nat → AV) : Prop :=
  ∀ k j ob y, (k, j) ∈ free → effOn es k ob → ops[j]? = some y → ∀ z ∈ y.op.operands, ob ∉ (ev (SL ops xs s0 (fun _ => true) j) z).strip.refs

/-- An object that the operation looks at is what it was at the text's time. -/
theorem objs_agree (hf : freeStat free ops = true) (F : FreeOk free ops xs es s0) (T : Texts P ops xs es s0 h0) {L : Nat → Bool} {i ob : Nat} {o : Oper} (O : Ord free ops L i) (hi : ops[i]? = some o) (hc : 1 ≤ cls o.op) {z : Operand} (hz : z ∈ o.op.operands) (hob : ob ∈ (ev (SL ops xs s0 (fun _ => true) i) z).strip.refs) (h1 : HL es h0 L ops.size ob ≠ .gone) (h2 : HL es h0 (fun _ => true) i ob ≠ .gone) :
    HL es h0 L ops.size ob = HL es h0 (fun _ => true) i ob := by
  have hlt := lt_of_some hi
  have := HL_agree (es := es) (h0 := h0) (L := L) (i := i) (o := ob) ops.size fun j hj he => ?_
  · rw [Nat.min_eq_right (by omega)] at this
    exact this
  · have hjo : ops[j]? = some ops[j] := Array.getElem?_eq_getElem hj
    obtain ⟨x', he'⟩ := he
    have t := T j _ hjo
    rw [he'] at t
    obtain ⟨_, _, h3⟩ := step_eff t
    by_cases hji : j = i
    · subst hji
      rw [O.out]
      simp
    · rcases h3 with h3 | ⟨h3, d3, g3⟩
      · have := O.ord j _ _ hjo hi hji (conf_cls h3 hc (fun hm => F j i ob o hm ⟨x', he'⟩ hi z hz hob) (free_cls hf hjo (by omega)))
        rcases Nat.lt_or_gt_of_ne hji with h4 | h4
        · rw [this.1 h4]; simp [h4]
        · rw [this.2 h4]
          have : ¬ j < i := by omega
          simp [this]
      · have hno : ∀ q, q < j → ¬ effOn es q ob := fun q hq he => HL_some (L := fun _ => true) j (made_of T (by omega)) (.inr ⟨q, hq, rfl, he⟩) g3
        have h00 : h0 ob = .gone := by
          rw [← HL_none (es := es) (h0 := h0) (L := fun _ => true) j (fun q hq _ => hno q hq)]
          exact g3
        rcases Nat.lt_or_gt_of_ne hji with h4 | h4
        · cases hl : L j with
          | true => simp [h4]
          | false =>
            exfalso
            apply h1
            rw [HL_none ops.size (fun q hq hlq heq => ?_), h00]
            have hqo : ops[q]? = some ops[q] := Array.getElem?_eq_getElem hq
            rcases Nat.lt_trichotomy q j with h5 | h5 | h5
            · exact hno q h5 heq
            · subst h5
              rw [hl] at hlq
              cases hlq
            · have := O.all j q _ _ hjo hqo h5 (eff_conf hf T hjo hqo ⟨x', he'⟩ heq) hlq
              rw [hl] at this
              cases this
        · exfalso
          apply h2
          rw [HL_none i (fun q hq _ => hno q (by omega)), h00]


theorem looks_operand {o : Oper} {t : Tmp} (h : Operand.tmp t ∈ o.op.operands) : t ∈ o.looksAt ops := by
  unfold Oper.looksAt
  exact List.mem_append_left _ (List.mem_filterMap.2 ⟨.tmp t, by simpa using h, rfl⟩)
theorem looks_guard {o : Oper} {j : Nat} {b : Bool} {t : Tmp} (hg : o.guard = some (j, b)) (ht : (ops[j]?).bind (·.dst) = some t) : t ∈ o.looksAt ops := by
  unfold Oper.looksAt
  rw [hg]
  simp [ht]

/-- A slot that the operation looks at is what it was at the text's time. -/
theorem slots_agree {L : Nat → Bool} {i t : Nat} {o : Oper} (O : Ord free ops L i) (hi : ops[i]? = some o) (ht : t ∈ o.looksAt ops) : SL ops xs s0 L ops.size t = SL ops xs s0 (fun _ => true) i t := by
  have hlt := lt_of_some hi
  have := SL_agree (ops := ops) (xs := xs) (s0 := s0) (L := L) (i := i) (t := t) ops.size fun j hj hd => ?_
  · rw [Nat.min_eq_right (by omega)] at this
    exact this
  · have hjo : ops[j]? = some ops[j] := Array.getElem?_eq_getElem hj
    have hdj : ops[j].dst = some t := by simpa [dstAt, hjo] using hd
    by_cases hji : j = i
    · subst hji
      rw [O.out]
      simp
    · have := O.ord j _ _ hjo hi hji (conf_look hdj ht)
      rcases Nat.lt_or_gt_of_ne hji with h4 | h4
      · rw [this.1 h4]; simp [h4]
      · rw [this.2 h4]
        have : ¬ j < i := by omega
        simp [this]

/-- Carried out in the text's order, it can be carried out now. -/
theorem ex_agree (hf : freeStat free ops = true) (F : FreeOk free ops xs es s0) (T : Texts P ops xs es s0 h0) {L : Nat → Bool} {i : Nat} {o : Oper} {x : AV} {eff : Option (Nat × AObj)} {gs : Gs} {a : Act} {w : World} (O : Ord free ops L i) (hi : ops[i]? = some o)
    (R : RelG w0 Z nt (SL ops xs s0 L ops.size) (HL es h0 L ops.size) gs a w) (hx : aEx P o (SL ops xs s0 (fun _ => true) i) (HL es h0 (fun _ => true) i) x eff) :
    aEx P o (SL ops xs s0 L ops.size) (HL es h0 L ops.size) x eff := by
  have hops : ∀ y ∈ o.op.operands, ev (SL ops xs s0 L ops.size) y = ev (SL ops xs s0 (fun _ => true) i) y := by
    intro y hy
    cases y with
    | tmp t => exact slots_agree O hi (looks_operand hy)
    | _ => rfl
  have hag : 1 ≤ cls o.op → Agree o.op (ev (SL ops xs s0 (fun _ => true) i)) (ev (SL ops xs s0 L ops.size)) (HL es h0 (fun _ => true) i) (HL es h0 L ops.size) := fun hc =>
    ⟨hops, fun y hy hw ob hob hg => by
      have hr := (ev_ok R y)
      rw [hops y hy] at hr
      exact objs_agree hf F T O hi hc hy hob ((hr.strip hw).refs_live ob hob) hg⟩
  unfold aEx at hx ⊢
  split at hx
  · rename_i hc
    exact ⟨aop0_congr hc hops hx.1, hx.2⟩
  · rename_i hc
    exact ⟨aop1_congr (hag (by omega)) hx.1, hx.2⟩
  · rename_i hc
    obtain ⟨ob, x', h1, h2⟩ := hx
    exact ⟨ob, x', aop2_congr (hag (by omega)) (fun o' ho' hg => gone_of hf T O hi hg (by omega) ho') h1, h2⟩
  · rename_i n0 n1 n2
    have hc : 2 ≤ cls o.op := by
      have a0 : cls o.op ≠ 0 := n0
      have a1 : cls o.op ≠ 1 := n1
      omega
    obtain ⟨d, x', h1, h2, h3, h4⟩ := hx
    exact ⟨d, x', h1, gone_of hf T O hi h2 hc h1, aop3_congr hops h3, h4⟩

theorem ready_spec {listed : Array Bool} {i : Nat} (h : i ∈ Region.ready .any ops listed) : ∃ o, ops[i]? = some o ∧ i < ops.size ∧ listed.getD i true = false ∧ ∀ e ∈ o.after.toList, Region.binds .any e = true → listed.getD e.on false = true := by
  unfold Region.ready at h
  rw [List.mem_filter] at h
  obtain ⟨h1, h2⟩ := h
  have hi : i < ops.size := by simpa using h1
  simp only [Bool.and_eq_true, Bool.not_eq_true', Array.getElem?_eq_getElem hi, Option.map_some, Option.getD_some, Array.all_eq_true_iff_forall_mem, Bool.or_eq_true] at h2
  refine ⟨ops[i], Array.getElem?_eq_getElem hi, hi, h2.1, fun e he hb => ?_⟩
  rcases h2.2 e (Array.mem_toList_iff.1 he) with h | h
  · rw [hb] at h; cases h
  · exact h

theorem all_listed (hd : drawOkF free ops = true) {listed : Array Bool} (hsz : listed.size = ops.size) (h : Region.ready .any ops listed = []) : ∀ j, j < ops.size → lset listed j = true := by
  intro j
  induction j using Nat.strongRecOn with
  | _ j ih =>
    intro hj
    cases hl : lset listed j with
    | true => rfl
    | false =>
      exfalso
      have hm : j ∈ Region.ready .any ops listed := by
        unfold Region.ready
        rw [List.mem_filter]
        refine ⟨by simpa using hj, ?_⟩
        have hl' : listed.getD j true = false := by
          unfold lset at hl
          have : j < listed.size := by omega
          simp only [Array.getD, this, dite_true] at hl ⊢
          exact hl
        simp only [Bool.and_eq_true, Bool.not_eq_true', hl', Array.getElem?_eq_getElem hj, Option.map_some, Option.getD_some, Array.all_eq_true_iff_forall_mem, Bool.or_eq_true, true_and]
        intro e he
        cases hb : Region.binds .any e with
        | false => exact .inl rfl
        | true =>
          have hlt := (drawOk_spec hd).1 j _ e (Array.getElem?_eq_getElem hj) (Array.mem_toList_iff.2 he) hb
          exact .inr (ih e.on hlt (by omega))
      rw [h] at hm
      cases hm

theorem draw_main (hs : slotsOk nt ops.toList = true) (hd : drawOkF free ops = true) (F : FreeOk free ops xs es s0) (T : Texts P ops xs es s0 h0) {K : (Nat → AV) → AH → Prop} (hK : K (SL ops xs s0 (fun _ => true) ops.size) (HL es h0 (fun _ => true) ops.size))
    {Q : Exit → Act → World → Prop} (hQ : ∀ s' h' a' w', K s' h' → Rel w0 Z nt s' h' a' w' → Q .normal a' w') : ∀ (fuel : Nat) (listed : Array Bool) (a : Act) (w : World), listed.size = ops.size → listed.toList.count false ≤ fuel →
    (∀ i o e, ops[i]? = some o → lset listed i = true → e ∈ o.after.toList → Region.binds .any e = true → lset listed e.on = true) →
    Rel w0 Z nt (SL ops xs s0 (lset listed) ops.size) (HL es h0 (lset listed) ops.size) a w → wpAny P .any ops Q fuel listed a w := by
  have done : ∀ (listed : Array Bool) (a : Act) (w : World), listed.size = ops.size → Rel w0 Z nt (SL ops xs s0 (lset listed) ops.size) (HL es h0 (lset listed) ops.size) a w → Region.ready .any ops listed = [] → Q .normal a w := by
    intro listed a w hsz R hr
    have hall := all_listed hd hsz hr
    refine hQ _ _ a w hK ?_
    have e1 : SL ops xs s0 (lset listed) ops.size = SL ops xs s0 (fun _ => true) ops.size := funext fun t => by
      have := SL_agree (ops := ops) (xs := xs) (s0 := s0) (L := lset listed) (i := ops.size) (t := t) ops.size fun j hj _ => by rw [hall j hj]; simp [hj]
      rwa [Nat.min_self] at this
    have e2 : HL es h0 (lset listed) ops.size = HL es h0 (fun _ => true) ops.size := funext fun o => by
      have := HL_agree (es := es) (h0 := h0) (L := lset listed) (i := ops.size) (o := o) ops.size fun j hj _ => by rw [hall j hj]; simp [hj]
      rwa [Nat.min_self] at this
    rw [e1, e2] at R
    exact R
  intro fuel
  induction fuel with
  | zero =>
    intro listed a w hsz hcount hcl R
    have hr : Region.ready .any ops listed = [] := by
      cases hr : Region.ready .any ops listed with
      | nil => rfl
      | cons i l =>
        exfalso
        obtain ⟨o, h1, h2, h3, h4⟩ := ready_spec (listed := listed) (i := i) (by rw [hr]; simp)
        have hi : i < listed.size := by omega
        have : listed.toList.count false ≠ 0 := by
          have hm : false ∈ listed.toList := by
            simp only [Array.getD, hi, dite_true, Array.getInternal_eq_getElem] at h3
            rw [← h3]
            exact Array.mem_toList_iff.2 (Array.getElem_mem hi)
          exact Nat.ne_of_gt (List.count_pos_iff.2 hm)
        omega
    exact ⟨hr, done listed a w hsz R hr⟩
  | succ fuel ih =>
    intro listed a w hsz hcount hcl R
    refine ⟨fun hr => done listed a w hsz R hr, fun i hi => ?_⟩
    obtain ⟨o, ho, hlt, h3, h4⟩ := ready_spec hi
    have hil : i < listed.size := by omega
    have hLi : lset listed i = false := by
      unfold lset
      simp only [Array.getD, hil, dite_true, Array.getInternal_eq_getElem] at h3 ⊢
      exact h3
    have O := Ord.make hd (L := lset listed) ho hLi hcl h4
    have hset : lset (listed.setIfInBounds i true) = fun j => decide (j = i) || lset listed j := funext fun j => by
      unfold lset
      simp only [Array.getD_eq_getD_getElem?]
      by_cases hji : j = i
      · subst hji
        simp [hil]
      · rw [Array.getElem?_setIfInBounds_ne (Ne.symm hji)]
        simp [hji]
    have hS : ∀ x, xs i = x → SL ops xs s0 (fun j => decide (j = i) || lset listed j) ops.size = updO (SL ops xs s0 (lset listed) ops.size) o.dst x := by
      intro x hx
      rw [SL_join ops.size (fun j h1 h2 t h5 h6 => ?_) hLi, if_pos hlt, hx]
      · simp [dstAt, ho]
      · have hjo : ops[j]? = some ops[j] := Array.getElem?_eq_getElem h2
        have hdj : ops[j].dst = some t := by simpa [dstAt, hjo] using h6
        have hdi : o.dst = some t := by simpa [dstAt, ho] using h5
        exact (O.ord j _ _ hjo ho (by omega) (conf_dst hdj hdi)).2 h1
    have hH : ∀ e, es i = e → HL es h0 (fun j => decide (j = i) || lset listed j) ops.size = appE (HL es h0 (lset listed) ops.size) e := by
      intro e he
      rw [HL_join ops.size (fun j h1 h2 ob h5 h6 => ?_) hLi, if_pos hlt, he]
      have hjo : ops[j]? = some ops[j] := Array.getElem?_eq_getElem h2
      exact (O.ord j _ _ hjo ho (by omega) (eff_conf (drawOk_free hd) T hjo ho h6 h5)).2 h1
    have next : ∀ a' w', Rel w0 Z nt (updO (SL ops xs s0 (lset listed) ops.size) o.dst (xs i)) (appE (HL es h0 (lset listed) ops.size) (es i)) a' w' → wpAny P .any ops Q fuel (listed.setIfInBounds i true) a' w' := by
      intro a' w' R'
      refine ih _ a' w' (by simpa using hsz) ?_ ?_ ?_
      · have hc : (listed.setIfInBounds i true).toList.count false + 1 = listed.toList.count false := by
          rw [Array.toList_setIfInBounds, List.count_set (by simpa using hil)]
          have hl' : listed.toList[i]'(by simpa using hil) = false := by
            have : listed.toList[i]'(by simpa using hil) = listed[i] := by simp
            rw [this]
            simp only [Array.getD, hil, dite_true, Array.getInternal_eq_getElem] at h3
            exact h3
          have hpos : 0 < listed.toList.count false := List.count_pos_iff.2 (by rw [← hl']; exact List.getElem_mem _)
          simp only [hl', beq_self_eq_true, if_true]
          have : (true == false) = false := rfl
          simp only [this, Bool.false_eq_true, if_false]
          omega
        omega
      · rw [hset]
        intro i' o' e h1 h2 h5 h6
        simp only [Bool.or_eq_true, decide_eq_true_eq] at h2 ⊢
        rcases h2 with rfl | h2
        · rw [ho] at h1
          injection h1 with h1
          subst h1
          exact .inr (h4 e h5 h6)
        · exact .inr (hcl i' o' e h1 h2 h5 h6)
      · rw [hset, hS _ rfl, hH _ rfl]
        exact R'
    obtain ⟨gs, R⟩ := R
    have hdst := slotsOk_dst hs (Array.mem_toList_iff.2 (Array.mem_of_getElem? ho))
    have t := T i o ho
    unfold wpOp
    simp only [ho]
    unfold aStep at t
    split at t
    · rename_i hg
      rw [if_pos (by simp [Region.wanted, hg])]
      exact .inl (Oper.wp_mono next (exec_ok R hdst (ex_agree (drawOk_free hd) F T O ho R t)))
    · rename_i jg want hg
      obtain ⟨he, tt, g, y, h5, h6, h8, h7⟩ := t
      have hsl := slots_agree (xs := xs) (s0 := s0) O ho (looks_guard hg h5)
      have hy := yielded_of R h5 (by rw [hsl]; exact h6) (slotsOk_guard hs h5)
      rw [hsl] at hy
      by_cases hw : ((SL ops xs s0 (fun _ => true) i tt).wh && g == want) = true
      · have hw' := hw
        rw [Bool.and_eq_true, beq_iff_eq] at hw'
        rw [if_pos hw'.1] at hy
        rw [if_pos (by simp [Region.wanted, hg, hy, hw'.2])]
        have hex : aEx P o (SL ops xs s0 (fun _ => true) i) (HL es h0 (fun _ => true) i) y none := by
          unfold aEx
          have h8 := h8 hw
          split at h8
          · rename_i hc
            simp only [hc]
            exact ⟨h8, trivial⟩
          · rename_i hc
            simp only [hc]
            exact ⟨h8, trivial⟩
          · exact h8.elim
        refine .inl (Oper.wp_mono (fun a' w' hR => next a' w' ?_) (exec_ok R hdst (ex_agree (drawOk_free hd) F T O ho R hex)))
        obtain ⟨gs', R'⟩ := hR
        rw [he]
        refine ⟨gs', { R' with slots := fun t' => ?_ }⟩
        have := R'.slots t'
        rw [h7]
        unfold updO at this ⊢
        cases hdst : o.dst with
        | none => rw [hdst] at this; exact this
        | some d =>
          rw [hdst] at this
          simp only [upd] at this ⊢
          split
          · rename_i he
            rw [if_pos he] at this
            exact .when _ _ _ (fun _ => this) fun e => by rw [hw] at e; cases e
          · rename_i he
            rw [if_neg he] at this
            exact this
      · rw [if_neg (by
          cases hwh : (SL ops xs s0 (fun _ => true) i tt).wh with
          | false => rw [hwh] at hy; simp [Region.wanted, hg, hy]
          | true =>
            rw [hwh] at hy hw
            simp only [Bool.true_and, beq_iff_eq] at hw
            simp [Region.wanted, hg, hy, hw])]
        refine next _ _ ?_
        rw [he, h7]
        exact ⟨gs, R.putO hdst (.when _ _ _ (fun e => absurd e hw) fun _ => rfl)⟩

/-- What is asked of the pairs at the region's end. -/
def freeFin (free : List (Nat × Nat)) (ops : Array Oper) (s : Nat → AV) : Bool := free.all fun p => match ops[p.1]?, ops[p.2]? with
  | some x, some y => (match x.op with
    | .store _ (.tmp t) _ => y.op.operands.toList.all fun z => (s t).strip.refs.all fun o => !((ev s z).strip.refs.contains o)
    | _ => true)
  | _, _ => true

theorem store_refs {t : TypeId} {y z : Operand} {e : Operand → AV} {h : AH} {d : Option Tmp} {ob : Nat} {x' : AObj} {x : AV} (hx : aop2 P (.store t y z) e h d ob x' x) : ob ∈ (e y).strip.refs := by
  obtain ⟨_, i, _, _, _, hx⟩ := hx
  split at hx
  · rename_i o' off he
    rw [he, hx.1]
    simp [AV.refs, AV.ref1]
  · rename_i o' L k off he
    rw [he, hx.1]
    simp [AV.refs, AV.ref1]
  · exact hx.elim

theorem SL_keep {t k : Nat} : ∀ m, k ≤ m → (∀ q, q < m → k ≤ q → dstAt ops q ≠ some t) → SL ops xs s0 (fun _ => true) m t = SL ops xs s0 (fun _ => true) k t
  | 0, h, _ => by rw [show k = 0 by omega]
  | m + 1, h, hq => by
    rcases Nat.lt_or_ge m k with h1 | h1
    · rw [show k = m + 1 by omega]
    · rw [← SL_keep m h1 fun q h2 h3 => hq q (by omega) h3]
      simp only [SL, if_true]
      exact updO_ne (hq m (by omega) h1)

theorem free_of (hf : freeStat free ops = true) (T : Texts P ops xs es s0 h0) (hfin : freeFin free ops (SL ops xs s0 (fun _ => true) ops.size) = true) : FreeOk free ops xs es s0 := by
  intro k j ob y hp he hy z hz hmem
  obtain ⟨x, y', t, Ty, z', h1, h2, h3, h4, h5, h6⟩ := freeStat_spec hf hp
  rw [hy] at h2
  injection h2 with h2
  subst h2
  have hk := lt_of_some h1
  have hj := lt_of_some hy
  obtain ⟨x', he⟩ := he
  have tx := T k x h1
  rw [he] at tx
  have hg := (step_eff tx).2.1
  unfold aStep at tx
  rw [hg] at tx
  unfold aEx at tx
  have hc : cls x.op = 2 := by rw [h4]; rfl
  simp only [hc] at tx
  obtain ⟨ob', x'', q1, q2⟩ := tx
  injection q2 with q2
  injection q2 with q2 q3
  subst q2
  rw [h4] at q1
  have hr := store_refs q1
  unfold freeFin at hfin
  rw [List.all_eq_true] at hfin
  have := hfin (k, j) hp
  simp only [h1, hy, h4] at this
  rw [List.all_eq_true] at this
  have := this z (Array.mem_toList_iff.2 hz)
  rw [List.all_eq_true] at this
  have e1 : SL ops xs s0 (fun _ => true) ops.size t = SL ops xs s0 (fun _ => true) k t := SL_keep ops.size (by omega) fun q hq hkq => h5 q hq hkq
  have e2 : ev (SL ops xs s0 (fun _ => true) ops.size) z = ev (SL ops xs s0 (fun _ => true) j) z := by
    cases z with
    | tmp u => exact SL_keep ops.size (by omega) fun q hq hjq => h6 u hz q hq hjq
    | _ => rfl
  have := this ob (by rw [e1]; exact hr)
  rw [e2] at this
  simp [hmem] at this

/-- A REGION WHOSE ORDER IS DRAWN. -/
theorem region_drawF (hf : P.follows .mixedOrders = true) {id : Nat} (hs : slotsOk nt ops.toList = true) (hd : drawOkF free ops = true) {K : (Nat → AV) → AH → Prop} {Q : Exit → Act → World → Prop} {s : Nat → AV} {h : AH} {a : Act} {w : World}
    (R : Rel w0 Z nt s h a w) (hr : aRun P ops (fun s h => freeFin free ops s = true ∧ K s h) ops.toList s h) (hQ : ∀ s' h' a' w', K s' h' → Rel w0 Z nt s' h' a' w' → Q .normal a' w') : (Code.region id ops true).wp P Q a w := by
  obtain ⟨xs, es, S, H, e1, e2, e3, e4⟩ := trace ops.toList 0 s h (fun k => by simp) hr
  simp only [Nat.zero_add] at e3 e4
  have eS : ∀ k, k ≤ ops.size → S k = SL ops xs s (fun _ => true) k ∧ H k = HL es h (fun _ => true) k := by
    intro k
    induction k with
    | zero => intro _; exact ⟨e1, e2⟩
    | succ k ih =>
      intro hk
      obtain ⟨i1, i2⟩ := ih (by omega)
      have ho : ops.toList[k]? = some ops[k] := by simp
      obtain ⟨_, t2, t3⟩ := e3 k _ ho
      have hd : dstAt ops k = ops[k].dst := by simp [dstAt, Array.getElem?_eq_getElem (show k < ops.size by omega)]
      exact ⟨by rw [t2, i1]; simp [SL, hd], by rw [t3, i2]; simp [HL]⟩
  have T : Texts P ops xs es s h := by
    intro k o ho
    have hk := lt_of_some ho
    have := (e3 k o (by simpa using ho)).1
    rw [(eS k (by omega)).1, (eS k (by omega)).2] at this
    exact this
  have hK : freeFin free ops (SL ops xs s (fun _ => true) ops.size) = true ∧ K (SL ops xs s (fun _ => true) ops.size) (HL es h (fun _ => true) ops.size) := by
    have := e4
    rw [Array.length_toList, (eS ops.size (Nat.le_refl _)).1, (eS ops.size (Nat.le_refl _)).2] at this
    exact this
  refine wp_region_any hf (draw_main hs hd (free_of (drawOk_free hd) T hK.1) T hK.2 hQ ops.size (Array.replicate ops.size false) a _ (by simp) (by simp) ?_ ?_)
  · intro i o e ho hl
    unfold lset at hl
    simp only [Array.getD_eq_getD_getElem?] at hl
    by_cases hi : i < ops.size
    · simp [hi] at hl
    · simp [hi] at hl
  · have hno : ∀ j, lset (Array.replicate ops.size false) j = false := fun j => by
      unfold lset
      simp only [Array.getD_eq_getD_getElem?]
      by_cases hj : j < ops.size <;> simp [hj]
    have f1 : ∀ k, SL ops xs s (lset (Array.replicate ops.size false)) k = s := by
      intro k
      induction k with
      | zero => rfl
      | succ k ih => simp only [SL, hno, Bool.false_eq_true, if_false, ih]
    have f2 : ∀ k, HL es h (lset (Array.replicate ops.size false)) k = h := by
      intro k
      induction k with
      | zero => rfl
      | succ k ih => simp only [HL, hno, Bool.false_eq_true, if_false, ih]
    rw [f1, f2]
    obtain ⟨gs, R⟩ := R
    exact ⟨gs, R.grow ⟨rfl, rfl, rfl, Nat.le_refl _, fun _ _ => rfl⟩⟩

/-- A region in the order of its text. -/
theorem region_plain {id : Nat} (hs : slotsOk nt ops.toList = true) {K : (Nat → AV) → AH → Prop} {Q : Exit → Act → World → Prop} {s : Nat → AV} {h : AH} {a : Act} {w : World}
    (R : Rel w0 Z nt s h a w) (hr : aRun P ops K ops.toList s h) (hQ : ∀ s' h' a' w', K s' h' → Rel w0 Z nt s' h' a' w' → Q .normal a' w') : (Code.region id ops false).wp P Q a w :=
  wp_region_list (run_ok hs ops.toList s h a w (fun _ h => h) R hr hQ)
end

end Go.Am
