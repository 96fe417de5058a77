/- The abstract machine, part 9: a region whose order is drawn, whole. Generic over the program; no condition. -/
import Derived.Test.YtfepiaclbokkjaaAm8
namespace Go.Am
open Go.RowKit

def dstAt (ops : Array Oper) (k : Nat) : Option Tmp := (ops[k]?).bind (·.dst)

/-- The slots after the operations below k of the set L. -/
def SL (ops : Array Oper) (xs : Nat → AV) (s0 : Nat → AV) (L : Nat → Bool) : Nat → Nat → AV
  | 0 => s0
  | k + 1 => if L k then updO (SL ops xs s0 L k) (dstAt ops k) (xs k) else SL ops xs s0 L k
def HL (es : Nat → Option (Nat × AObj)) (h0 : AH) (L : Nat → Bool) : Nat → AH
  | 0 => h0
  | k + 1 => if L k then appE (HL es h0 L k) (es k) else HL es h0 L k

section
variable {ops : Array Oper} {xs : Nat → AV} {es : Nat → Option (Nat × AObj)} {s0 : Nat → AV} {h0 : AH}

theorem updO_ne {s : Nat → AV} {d : Option Tmp} {t : Nat} {x : AV} (hd : ¬ d = some t) : updO s d x t = s t := by
  cases d with
  | none => rfl
  | some d => exact upd_ne _ _ _ _ fun e => hd (by rw [e])

theorem SL_agree {L : Nat → Bool} {i t : Nat} : ∀ k, (∀ j, j < k → dstAt ops j = some t → L j = decide (j < i)) → SL ops xs s0 L k t = SL ops xs s0 (fun _ => true) (min k i) t
  | 0, _ => by simp [SL]
  | k + 1, hk => by
    have ih := SL_agree (L := L) k fun j hj => hk j (by omega)
    by_cases hki : k < i
    · have e1 : min (k + 1) i = k + 1 := by omega
      have e2 : min k i = k := by omega
      rw [e1]
      rw [e2] at ih
      simp only [SL, if_true]
      by_cases hd : dstAt ops k = some t
      · have := hk k (by omega) hd
        rw [this]
        simp only [hki, decide_true, if_true, updO, hd, upd]
      · have hn : ∀ s x, updO s (dstAt ops k) x t = s t := fun s x => updO_ne hd
        rw [hn]
        split
        · rw [hn]; exact ih
        · exact ih
    · have e1 : min (k + 1) i = min k i := by omega
      rw [e1]
      simp only [SL]
      by_cases hd : dstAt ops k = some t
      · have := hk k (by omega) hd
        rw [this]
        simp only [hki, decide_false, Bool.false_eq_true, if_false]
        exact ih
      · have hn : ∀ s x, updO s (dstAt ops k) x t = s t := fun s x => updO_ne hd
        split
        · rw [hn]; exact ih
        · exact ih

def effOn (es : Nat → Option (Nat × AObj)) (j o : Nat) : Prop := ∃ x', es j = some (o, x')

theorem appE_other {h : AH} {e : Option (Nat × AObj)} {o : Nat} (he : ¬ ∃ x', e = some (o, x')) : appE h e o = h o := by
  unfold appE
  split
  · rename_i o' x'
    exact upd_ne _ _ _ _ fun e => he ⟨x', by rw [e]⟩
  · rfl

theorem HL_agree {L : Nat → Bool} {i o : Nat} : ∀ k, (∀ j, j < k → effOn es j o → L j = decide (j < i)) → HL es h0 L k o = HL es h0 (fun _ => true) (min k i) o
  | 0, _ => by simp [HL]
  | k + 1, hk => by
    have ih := HL_agree (L := L) k fun j hj => hk j (by omega)
    by_cases hki : k < i
    · have e1 : min (k + 1) i = k + 1 := by omega
      have e2 : min k i = k := by omega
      rw [e1]
      rw [e2] at ih
      simp only [HL, if_true]
      by_cases hd : effOn es k o
      · have := hk k (by omega) hd
        rw [this]
        obtain ⟨x', hd⟩ := hd
        simp only [hki, decide_true, if_true, appE, hd, upd]
      · rw [appE_other hd]
        split
        · rw [appE_other hd]; exact ih
        · exact ih
    · have e1 : min (k + 1) i = min k i := by omega
      rw [e1]
      simp only [HL]
      by_cases hd : effOn es k o
      · have := hk k (by omega) hd
        rw [this]
        simp only [hki, decide_false, Bool.false_eq_true, if_false]
        exact ih
      · split
        · rw [appE_other hd]; exact ih
        · exact ih

theorem HL_none {L : Nat → Bool} {o : Nat} : ∀ k, (∀ j, j < k → L j = true → ¬ effOn es j o) → HL es h0 L k o = h0 o
  | 0, _ => rfl
  | k + 1, hk => by
    simp only [HL]
    split
    · rename_i hl
      rw [appE_other (hk k (by omega) hl)]
      exact HL_none k fun j hj => hk j (by omega)
    · exact HL_none k fun j hj => hk j (by omega)

theorem HL_some {L : Nat → Bool} {o : Nat} : ∀ k, (∀ j x', j < k → es j = some (o, x') → x' ≠ .gone) → (h0 o ≠ .gone ∨ ∃ j, j < k ∧ L j = true ∧ effOn es j o) → HL es h0 L k o ≠ .gone
  | 0, _, hk => by
    rcases hk with hk | ⟨j, hj, _⟩
    · exact hk
    · omega
  | k + 1, hm, hk => by
    have ih := HL_some (L := L) k fun j x' hj => hm j x' (by omega)
    simp only [HL]
    by_cases hl : L k = true
    · rw [if_pos hl]
      by_cases hd : effOn es k o
      · obtain ⟨x', hd⟩ := hd
        rw [hd]
        simp only [appE, upd_same]
        exact hm k x' (by omega) hd
      · rw [appE_other hd]
        refine ih ?_
        rcases hk with hk | ⟨j, hj, hlj, he⟩
        · exact .inl hk
        · refine .inr ⟨j, ?_, hlj, he⟩
          rcases Nat.lt_or_ge j k with h1 | h1
          · exact h1
          · have : j = k := by omega
            subst this
            exact absurd he hd
    · rw [if_neg hl]
      refine ih ?_
      rcases hk with hk | ⟨j, hj, hlj, he⟩
      · exact .inl hk
      · refine .inr ⟨j, ?_, hlj, he⟩
        rcases Nat.lt_or_ge j k with h1 | h1
        · exact h1
        · have : j = k := by omega
          subst this
          exact absurd hlj hl

/-- One more operation joins the set. -/
theorem SL_join {L : Nat → Bool} {i : Nat} : ∀ k, (∀ j, i < j → j < k → ∀ t, dstAt ops i = some t → dstAt ops j = some t → L j = false) → L i = false →
    SL ops xs s0 (fun j => decide (j = i) || L j) k = if i < k then updO (SL ops xs s0 L k) (dstAt ops i) (xs i) else SL ops xs s0 L k
  | 0, _, _ => by simp [SL]
  | k + 1, hk, hi => by
    have ih := SL_join (L := L) (i := i) k (fun j h1 h2 => hk j h1 (by omega)) hi
    simp only [SL]
    by_cases hki : k = i
    · subst hki
      rw [if_neg (Nat.lt_irrefl _)] at ih
      simp only [decide_true, Bool.true_or, if_true, hi, Bool.false_eq_true, if_false, Nat.lt_succ_self, ih]
    · simp only [hki, decide_false, Bool.false_or]
      rw [ih]
      by_cases hik : i < k
      · have hik1 : i < k + 1 := by omega
        simp only [hik, hik1, if_true]
        by_cases hl : L k = true
        · simp only [hl, if_true]
          cases hdi : dstAt ops i with
          | none => rfl
          | some t =>
            cases hdk : dstAt ops k with
            | none => rfl
            | some u =>
              have hne : u ≠ t := fun e => by
                have := hk k hik (by omega) t hdi (by rw [hdk, e])
                rw [this] at hl
                cases hl
              simp only [updO]
              funext q
              simp only [upd]
              by_cases h1 : q = u <;> by_cases h2 : q = t <;> simp_all
        · simp only [hl, if_false, Bool.false_eq_true]
      · have hik1 : ¬ i < k + 1 := by omega
        simp only [hik, hik1, if_false]

theorem HL_join {L : Nat → Bool} {i : Nat} : ∀ k, (∀ j, i < j → j < k → ∀ o, effOn es i o → effOn es j o → L j = false) → L i = false →
    HL es h0 (fun j => decide (j = i) || L j) k = if i < k then appE (HL es h0 L k) (es i) else HL es h0 L k
  | 0, _, _ => by simp [HL]
  | k + 1, hk, hi => by
    have ih := HL_join (L := L) (i := i) k (fun j h1 h2 => hk j h1 (by omega)) hi
    simp only [HL]
    by_cases hki : k = i
    · subst hki
      rw [if_neg (Nat.lt_irrefl _)] at ih
      simp only [decide_true, Bool.true_or, if_true, hi, Bool.false_eq_true, if_false, Nat.lt_succ_self, ih]
    · simp only [hki, decide_false, Bool.false_or]
      rw [ih]
      by_cases hik : i < k
      · have hik1 : i < k + 1 := by omega
        simp only [hik, hik1, if_true]
        by_cases hl : L k = true
        · simp only [hl, if_true]
          cases hdi : es i with
          | none => rfl
          | some t =>
            cases hdk : es k with
            | none => rfl
            | some u =>
              obtain ⟨o1, x1⟩ := t
              obtain ⟨o2, x2⟩ := u
              have hne : o2 ≠ o1 := fun e => by
                have := hk k hik (by omega) o1 ⟨x1, hdi⟩ ⟨x2, by rw [hdk, e]⟩
                rw [this] at hl
                cases hl
              simp only [appE]
              funext q
              simp only [upd]
              by_cases h1 : q = o2 <;> by_cases h2 : q = o1 <;> simp_all
        · simp only [hl, if_false, Bool.false_eq_true]
      · have hik1 : ¬ i < k + 1 := by omega
        simp only [hik, hik1, if_false]
end

/-- The text's own run, written out. -/
theorem trace {P : Program} {ops : Array Oper} {K : (Nat → AV) → AH → Prop} : ∀ (l : List Oper) (k0 : Nat) (s : Nat → AV) (h : AH), (∀ k, l[k]? = ops[k0 + k]?) → aRun P ops K l s h →
    ∃ (xs : Nat → AV) (es : Nat → Option (Nat × AObj)) (S : Nat → Nat → AV) (H : Nat → AH), S k0 = s ∧ H k0 = h ∧
      (∀ k o, l[k]? = some o → aStep P ops o (S (k0 + k)) (H (k0 + k)) (xs (k0 + k)) (es (k0 + k)) ∧ S (k0 + k + 1) = updO (S (k0 + k)) o.dst (xs (k0 + k)) ∧ H (k0 + k + 1) = appE (H (k0 + k)) (es (k0 + k))) ∧ K (S (k0 + l.length)) (H (k0 + l.length))
  | [], k0, s, h, _, hr => ⟨fun _ => default, fun _ => none, fun _ => s, fun _ => h, rfl, rfl, fun k o e => by simp at e, hr⟩
  | o :: l, k0, s, h, hl, hr => by
    obtain ⟨x, eff, h1, h2⟩ := hr
    obtain ⟨xs, es, S, H, e1, e2, e3, e4⟩ := trace l (k0 + 1) (updO s o.dst x) (appE h eff) (fun k => by have := hl (k + 1); rw [show k0 + 1 + k = k0 + (k + 1) by omega, ← this]; rfl) h2
    refine ⟨fun k => if k = k0 then x else xs k, fun k => if k = k0 then eff else es k, fun k => if k ≤ k0 then s else S k, fun k => if k ≤ k0 then h else H k, by simp, by simp, fun k o' ho' => ?_, ?_⟩
    · cases k with
      | zero =>
        simp only [List.getElem?_cons_zero, Option.some.injEq] at ho'
        subst ho'
        have h3 : ¬ (k0 + 1 ≤ k0) := by omega
        simp only [Nat.add_zero, Nat.le_refl, if_true, h3, if_false, e1, e2]
        exact ⟨h1, trivial, trivial⟩
      | succ k =>
        have := e3 k o' (by simpa using ho')
        rw [show k0 + 1 + k = k0 + (k + 1) by omega] at this
        have h3 : ¬ (k0 + (k + 1) ≤ k0) := by omega
        have h4 : ¬ (k0 + (k + 1) + 1 ≤ k0) := by omega
        have h5 : ¬ (k0 + (k + 1) = k0) := by omega
        simp only [h3, h4, h5, if_false]
        exact this
    · have h3 : ¬ (k0 + (o :: l).length ≤ k0) := by simp
      simp only [h3, if_false]
      rw [show k0 + (o :: l).length = k0 + 1 + l.length by simp; omega]
      exact e4

/-! The static look at a region. -/
def maskOf (acc : List Nat) (es : List Edge) : Nat :=
  es.foldl (fun m e => if Region.binds .any e && decide (e.on < acc.length) then (m ||| acc.getD e.on 0) ||| (1 <<< e.on) else m) 0
def masks : List Oper → List Nat → List Nat
  | [], acc => acc
  | o :: r, acc => masks r (acc ++ [maskOf acc o.after.toList])

theorem maskOf_bit {acc : List Nat} {i : Nat} : ∀ (es : List Edge) (m : Nat), (es.foldl (fun m e => if Region.binds .any e && decide (e.on < acc.length) then (m ||| acc.getD e.on 0) ||| (1 <<< e.on) else m) m).testBit i = true →
    m.testBit i = true ∨ ∃ e ∈ es, Region.binds .any e = true ∧ e.on < acc.length ∧ (i = e.on ∨ (acc.getD e.on 0).testBit i = true)
  | [], m, h => .inl h
  | e :: es, m, h => by
    simp only [List.foldl_cons] at h
    rcases maskOf_bit es _ h with h1 | ⟨e', h1, h2⟩
    · split at h1
      · rename_i hb
        simp only [Bool.and_eq_true, decide_eq_true_eq] at hb
        simp only [Nat.testBit_or, Bool.or_eq_true] at h1
        rcases h1 with (h1 | h1) | h1
        · exact .inl h1
        · exact .inr ⟨e, by simp, hb.1, hb.2, .inr h1⟩
        · refine .inr ⟨e, by simp, hb.1, hb.2, .inl ?_⟩
          rw [Nat.shiftLeft_eq, Nat.one_mul, Nat.testBit_two_pow] at h1
          have := of_decide_eq_true h1
          omega
      · exact .inl h1
    · exact .inr ⟨e', by simp [h1], h2⟩

theorem masks_get : ∀ (l : List Oper) (acc : List Nat), (masks l acc).length = acc.length + l.length ∧ (∀ k, k < acc.length → (masks l acc).getD k 0 = acc.getD k 0) ∧
    ∀ k o, l[k]? = some o → (masks l acc).getD (acc.length + k) 0 = maskOf ((masks l acc).take (acc.length + k)) o.after.toList
  | [], acc => ⟨by simp [masks], fun _ _ => rfl, fun k o e => by simp at e⟩
  | o :: l, acc => by
    obtain ⟨h1, h2, h3⟩ := masks_get l (acc ++ [maskOf acc o.after.toList])
    simp only [masks]
    refine ⟨by rw [h1]; simp; omega, fun k hk => ?_, fun k o' ho' => ?_⟩
    · rw [h2 k (by simp; omega)]
      simp [List.getD_eq_getElem?_getD, List.getElem?_append_left hk]
    · cases k with
      | zero =>
        simp only [List.getElem?_cons_zero, Option.some.injEq] at ho'
        subst ho'
        rw [Nat.add_zero, h2 acc.length (by simp)]
        have ht : (masks l (acc ++ [maskOf acc o.after.toList])).take acc.length = acc := by
          apply List.ext_getElem?
          intro q
          rw [List.getElem?_take]
          split
          · rename_i hq
            have := h2 q (by simp; omega)
            rw [List.getD_eq_getElem?_getD, List.getD_eq_getElem?_getD, List.getElem?_append_left hq] at this
            have hq2 : q < (masks l (acc ++ [maskOf acc o.after.toList])).length := by rw [h1]; simp; omega
            rw [List.getElem?_eq_getElem hq2, List.getElem?_eq_getElem hq] at this ⊢
            simp only [Option.getD_some] at this
            rw [this]
          · rename_i hq
            rw [List.getElem?_eq_none (by omega)]
        rw [ht]
        simp [List.getD_eq_getElem?_getD]
      | succ k =>
        have := h3 k o' (by simpa using ho')
        simp only [List.length_append, List.length_cons, List.length_nil] at this
        rw [show acc.length + 0 + 1 + k = acc.length + (k + 1) by omega] at this
        exact this

/-- Two operations whose order must be fixed: by a slot; by an object. -/
def confS (ops : Array Oper) (x y : Oper) : Bool :=
  (match x.dst with | some d => (y.looksAt ops).contains d || y.dst == some d | none => false) ||
  (match y.dst with | some d => (x.looksAt ops).contains d | none => false)
def confC (x y : Oper) : Bool := (cls x.op == 2 && decide (1 ≤ cls y.op)) || (cls y.op == 2 && decide (1 ≤ cls x.op))
/-- The pairs of 'free' (a write, a look) are known to touch no object in common. -/
def conf (free : List (Nat × Nat)) (ops : Array Oper) (i j : Nat) (x y : Oper) : Bool := confS ops x y || (confC x y && !(free.contains (i, j) || free.contains (j, i)))

/-- What is asked of the pairs by the text alone. -/
def freeStat (free : List (Nat × Nat)) (ops : Array Oper) : Bool := free.all fun p => match ops[p.1]?, ops[p.2]? with
  | some x, some y => cls y.op == 1 && (match x.op with
    | .store _ (.tmp t) _ => ((List.range ops.size).all fun q => !decide (p.1 ≤ q) || !((ops[q]?).bind (·.dst) == some t)) &&
        (y.op.operands.toList.all fun z => match z with | .tmp u => ((List.range ops.size).all fun q => !decide (p.2 ≤ q) || !((ops[q]?).bind (·.dst) == some u)) | _ => true)
    | _ => false)
  | _, _ => false

/-- The region's edges fix the order of every two operations that must be in order. -/
def drawOkF (free : List (Nat × Nat)) (ops : Array Oper) : Bool :=
  let l := ops.toList
  let M := masks l []
  (l.zipIdx.all fun p => (p.1.after.toList.all fun e => !Region.binds .any e || decide (e.on < p.2)) && l.zipIdx.all fun q => !decide (q.2 < p.2) || !conf free ops q.2 p.2 q.1 p.1 || (M.getD p.2 0).testBit q.2) &&
  freeStat free ops
def drawOk (ops : Array Oper) : Bool := drawOkF [] ops

theorem drawOk_spec {free : List (Nat × Nat)} {ops : Array Oper} (hd : drawOkF free ops = true) : (∀ i o e, ops[i]? = some o → e ∈ o.after.toList → Region.binds .any e = true → e.on < i) ∧
    (∀ i j x y, j < i → ops[i]? = some x → ops[j]? = some y → conf free ops j i y x = true → ((masks ops.toList []).getD i 0).testBit j = true) := by
  simp only [drawOkF, Bool.and_eq_true, List.all_eq_true, Bool.or_eq_true, decide_eq_true_eq, Bool.not_eq_true'] at hd
  obtain ⟨h1, _⟩ := hd
  have mem : ∀ i o, ops[i]? = some o → (o, i) ∈ ops.toList.zipIdx := fun i o h => by
    rw [List.mem_zipIdx_iff_getElem?]
    simpa using h
  refine ⟨fun i o e hi he hb => ?_, fun i j x y hji hi hj hc => ?_⟩
  · rcases (h1 _ (mem i o hi)).1 e he with h | h
    · rw [hb] at h; cases h
    · exact h
  · rcases (h1 _ (mem i x hi)).2 _ (mem j y hj) with (h | h) | h
    · simp at h; omega
    · rw [hc] at h; cases h
    · exact h

theorem drawOk_free {free : List (Nat × Nat)} {ops : Array Oper} (hd : drawOkF free ops = true) : freeStat free ops = true := by
  simp only [drawOkF, Bool.and_eq_true] at hd
  exact hd.2

/-- The pairs of 'free', by their text. -/
theorem freeStat_spec {free : List (Nat × Nat)} {ops : Array Oper} (hd : freeStat free ops = true) {k j : Nat} (hp : (k, j) ∈ free) : ∃ x y t T z, ops[k]? = some x ∧ ops[j]? = some y ∧ cls y.op = 1 ∧ x.op = .store T (.tmp t) z ∧
    (∀ q, q < ops.size → k ≤ q → (ops[q]?).bind (·.dst) ≠ some t) ∧ ∀ u, Operand.tmp u ∈ y.op.operands → ∀ q, q < ops.size → j ≤ q → (ops[q]?).bind (·.dst) ≠ some u := by
  unfold freeStat at hd
  rw [List.all_eq_true] at hd
  have h := hd (k, j) hp
  dsimp only at h
  split at h
  · rename_i x y hx hy
    rw [Bool.and_eq_true, beq_iff_eq] at h
    obtain ⟨h1, h2⟩ := h
    split at h2
    · rename_i T t z hop
      rw [Bool.and_eq_true, List.all_eq_true, List.all_eq_true] at h2
      refine ⟨x, y, t, T, z, hx, hy, h1, hop, fun q hq hkq e => ?_, fun u hu q hq hjq e => ?_⟩
      · have := h2.1 q (List.mem_range.2 hq)
        rw [e] at this
        simp [hkq] at this
      · have := h2.2 (.tmp u) (Array.mem_toList_iff.2 hu)
        dsimp only at this
        rw [List.all_eq_true] at this
        have := this q (List.mem_range.2 hq)
        rw [e] at this
        simp [hjq] at this
    · cases h2
  · cases h

/-- Closed under the edges: closed under the masks. -/
theorem closed_masks {ops : Array Oper} {L : Nat → Bool} (hcl : ∀ i o e, ops[i]? = some o → L i = true → e ∈ o.after.toList → Region.binds .any e = true → L e.on = true) :
    ∀ i, L i = true → ∀ j, ((masks ops.toList []).getD i 0).testBit j = true → L j = true ∧ j < i := by
  intro i
  induction i using Nat.strongRecOn with
  | _ i ih =>
    intro hi j hj
    obtain ⟨h1, -, h3⟩ := masks_get ops.toList []
    simp only [List.length_nil, Nat.zero_add] at h1 h3
    cases ho : ops[i]? with
    | none =>
      have : i ≥ (masks ops.toList []).length := by
        rw [h1, Array.length_toList]
        exact Array.getElem?_eq_none_iff.1 ho
      rw [List.getD_eq_getElem?_getD, List.getElem?_eq_none this] at hj
      simp at hj
    | some o =>
      have ho' : ops.toList[i]? = some o := by simpa using ho
      rw [h3 i o ho'] at hj
      rcases maskOf_bit o.after.toList 0 hj with hb | ⟨e, e1, e2, e3, e4⟩
      · simp at hb
      · have hlt : e.on < i := by
          rw [List.length_take] at e3
          omega
        have hLe := hcl i o e ho hi e1 e2
        rcases e4 with rfl | e4
        · exact ⟨hLe, hlt⟩
        · have e5 : ((masks ops.toList []).take i).getD e.on 0 = (masks ops.toList []).getD e.on 0 := by
            simp only [List.getD_eq_getElem?_getD]
            rw [List.getElem?_take, if_pos hlt]
          rw [e5] at e4
          have := ih e.on hlt hLe j e4
          exact ⟨this.1, by omega⟩

end Go.Am
