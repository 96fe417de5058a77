/- The abstract machine, part 7: one operation, whatever its kind; a region in the order of its text. Generic over the program; no condition. -/
import Derived.Test.YtfepiaclbokkjaaAm6
namespace Go.Am
open Go.RowKit

/-- 0: looks at no object · 1: looks at objects · 2: writes · 3: makes one. -/
def cls : Op → Nat
  | .load _ _ | .indexAddr _ _ _ | .slice _ _ _ _ _ => 1
  | .call { callee := .builtin .len, .. } => 1
  | .call { callee := .value _, .. } => 1
  | .store _ _ _ => 2
  | .call { callee := .builtin .append, .. } => 2
  | .call { callee := .builtin .copy, .. } => 2
  | .box _ _ | .alloc _ | .makeSlice _ _ _ => 3
  | _ => 0

def appE (h : AH) : Option (Nat × AObj) → AH
  | some (o, x) => upd h o x
  | none => h

/-- The operation is carried out. -/
def aEx (P : Program) (o : Oper) (s : Nat → AV) (h : AH) (x : AV) (eff : Option (Nat × AObj)) : Prop :=
  match cls o.op with
  | 0 => aop0 P o.op (ev s) true x ∧ eff = none
  | 1 => aop1 P o.op (ev s) h true x ∧ eff = none
  | 2 => ∃ ob x', aop2 P o.op (ev s) h o.dst ob x' x ∧ eff = some (ob, x')
  | _ => ∃ d x', o.dst = some d ∧ h d = .gone ∧ aop3 P o.op (ev s) d x' x ∧ eff = some (d, x')

section
variable {w0 w : World} {Z : Nat → Prop} {nt : Nat} {s : Nat → AV} {h : AH} {gs : Gs} {a : Act} {P : Program}

theorem wp_value {o : Oper} {v : Value} {w' : World} {K : Act → World → Prop} {Q : Exit → Act → World → Prop} (hr : (execOp a.eval o).run P w = .ok (.value v) w') (hK : K (a.put o.dst v) w') : o.wp P a w K Q := by
  unfold Oper.wp
  rw [hr]
  exact hK

theorem wp_pure (R : RelG w0 Z nt s h gs a w) {o : Oper} {x : AV} {Q : Exit → Act → World → Prop} (hd : ∀ t, o.dst = some t → t < nt)
    (hr : ∃ v w', (execOp a.eval o).run P w = .ok (.value v) w' ∧ Below w.heap.size w w' ∧ RA w' (Zf Z gs) h gs v x) : o.wp P a w (fun a' w' => Rel w0 Z nt (updO s o.dst x) h a' w') Q := by
  obtain ⟨v, w', h1, h2, h3⟩ := hr
  exact wp_value h1 ⟨gs, (R.grow h2).putO hd h3⟩

theorem exec_ok (R : RelG w0 Z nt s h gs a w) {o : Oper} {x : AV} {eff : Option (Nat × AObj)} {Q : Exit → Act → World → Prop} (hd : ∀ t, o.dst = some t → t < nt) (hx : aEx P o s h x eff) :
    o.wp P a w (fun a' w' => Rel w0 Z nt (updO s o.dst x) (appE h eff) a' w') Q := by
  obtain ⟨d, op, ty, pos, af, gd⟩ := o
  cases op with
  | move y => obtain ⟨h1, rfl⟩ := hx; exact wp_pure R hd (aop0_move R _ y (.inl rfl) h1)
  | assign y => obtain ⟨h1, rfl⟩ := hx; exact wp_pure R hd (aop0_move R _ y (.inr rfl) h1)
  | pick c y z => obtain ⟨h1, rfl⟩ := hx; exact wp_pure R hd (aop0_pick R c y z h1)
  | binOp op t y z t2 => obtain ⟨h1, rfl⟩ := hx; exact wp_pure R hd (aop0_binOp R op t t2 y z h1)
  | unOp op t y => obtain ⟨h1, rfl⟩ := hx; exact wp_pure R hd (aop0_unOp R op t y h1)
  | fieldAddr t y f => obtain ⟨h1, rfl⟩ := hx; exact wp_pure R hd (aop0_fieldAddr R t y f h1)
  | extract y i => obtain ⟨h1, rfl⟩ := hx; exact wp_pure R hd (aop0_extract R y i h1)
  | build t parts => obtain ⟨h1, rfl⟩ := hx; exact wp_pure R hd (aop0_build R t parts h1)
  | buildSlice t len parts => obtain ⟨h1, rfl⟩ := hx; exact wp_pure R hd (aop0_buildSlice R t len parts h1)
  | convert t t2 y => obtain ⟨h1, rfl⟩ := hx; exact wp_pure R hd (aop0_convert R t t2 y h1)
  | load t y => obtain ⟨h1, rfl⟩ := hx; exact wp_pure R hd (aop1_load R t y h1)
  | indexAddr t y z => obtain ⟨h1, rfl⟩ := hx; exact wp_pure R hd (aop1_indexAddr R t y z h1)
  | slice t y lo hi mx => obtain ⟨h1, rfl⟩ := hx; exact wp_pure R hd (aop1_slice R t y lo hi mx h1)
  | store t y z =>
    obtain ⟨ob, x', h1, rfl⟩ := hx
    obtain ⟨rfl, w', h2, h3⟩ := aop2_store R t y z h1
    unfold Oper.wp
    rw [h2]
    exact h3
  | box t y =>
    obtain ⟨d', x', h1, h2, h3, rfl⟩ := hx
    simp only at h1
    subst h1
    obtain ⟨v, w', h4, h5⟩ := aop3_box R (hd d' rfl) h2 t y h3
    exact wp_value h4 h5
  | alloc t =>
    obtain ⟨d', x', h1, h2, h3, rfl⟩ := hx
    simp only at h1
    subst h1
    obtain ⟨v, w', h4, h5⟩ := aop3_alloc R (hd d' rfl) h2 t h3
    exact wp_value h4 h5
  | makeSlice t y z =>
    obtain ⟨d', x', h1, h2, h3, rfl⟩ := hx
    simp only at h1
    subst h1
    obtain ⟨v, w', h4, h5⟩ := aop3_make R (hd d' rfl) h2 t y z h3
    exact wp_value h4 h5
  | call c =>
    obtain ⟨callee, args, ats⟩ := c
    cases callee with
    | builtin b =>
      cases b with
      | len => obtain ⟨h1, rfl⟩ := hx; exact wp_pure R hd (aop1_len R args ats h1)
      | max => obtain ⟨h1, rfl⟩ := hx; exact wp_pure R hd (aop0_max R args ats h1)
      | append =>
        obtain ⟨ob, x', h1, rfl⟩ := hx
        obtain ⟨v, w', h4, h5⟩ := aop2_append R hd args ats h1
        exact wp_value h4 h5
      | copy =>
        obtain ⟨ob, x', h1, rfl⟩ := hx
        obtain ⟨v, w', h4, h5⟩ := aop2_copy R hd args ats h1
        exact wp_value h4 h5
      | _ => exact hx.1.elim
    | value f =>
      cases f with
      | func f =>
        obtain ⟨h1, rfl⟩ := hx
        exact aop1_call R f args ats h1 fun v w' hb hr => ⟨gs, (R.grow hb).putO hd hr⟩
      | _ => exact hx.1.elim
    | invoke r m => exact hx.1.elim
  | _ => exact hx.1.elim
end

/-- One operation of a region: carried out, or passed over by its guard. -/
def aStep (P : Program) (ops : Array Oper) (o : Oper) (s : Nat → AV) (h : AH) (x : AV) (eff : Option (Nat × AObj)) : Prop :=
  match o.guard with
  | none => aEx P o s h x eff
  | some (j, want) => eff = none ∧ ∃ t g y, (ops[j]?).bind (·.dst) = some t ∧ (s t).strip = .bool g ∧
      (((s t).wh && g == want) = true → match cls o.op with
       | 0 => aop0 P o.op (ev s) true y
       | 1 => aop1 P o.op (ev s) h true y
       | _ => False) ∧ x = .when ((s t).wh && g == want) y

/-- A region in the order of its text. -/
def aRun (P : Program) (ops : Array Oper) (K : (Nat → AV) → AH → Prop) : List Oper → (Nat → AV) → AH → Prop
  | [], s, h => K s h
  | o :: r, s, h => ∃ x eff, aStep P ops o s h x eff ∧ aRun P ops K r (updO s o.dst x) (appE h eff)

section
variable {w0 w : World} {Z : Nat → Prop} {nt : Nat} {s : Nat → AV} {h : AH} {gs : Gs} {a : Act} {P : Program} {ops : Array Oper}

theorem RA.guard {Z : Nat → Prop} {v : Value} {y : AV} {g : Bool} (hx : RA w Z h gs v y) (he : y.strip = .bool g) : v = if y.wh then .bool g else undef := by
  induction hx with
  | when v b x hx hu ih =>
    cases b with
    | false => simp [AV.wh, hu rfl]
    | true => simpa [AV.wh] using ih rfl he
  | c v x hx =>
    have e : x = .raw (.bool g) := by simpa [AV.strip] using he
    subst e
    exact (RA.c (gs := gs) (h := h) v _ hx).raw_inv
  | _ => simp [AV.strip] at he

theorem yielded_of (R : RelG w0 Z nt s h gs a w) {j t : Nat} {g : Bool} (h1 : (ops[j]?).bind (·.dst) = some t) (h2 : (s t).strip = .bool g) (ht : t < nt) : yielded ops a.tmps j = if (s t).wh then some g else none := by
  have hv := (R.slots t).guard h2
  unfold yielded
  rw [h1]
  have hlt : t < a.tmps.size := by rw [R.size]; exact ht
  simp only [Option.bind_some, Array.getElem?_eq_getElem hlt]
  simp only [Array.getD, hlt, dite_true, Array.getInternal_eq_getElem] at hv
  rw [hv]
  cases (s t).wh <;> rfl

/-- One operation: it is wanted and carried out, or not wanted and passed over. -/
theorem step_ok (R : RelG w0 Z nt s h gs a w) {o : Oper} {x : AV} {eff : Option (Nat × AObj)} {Q : Exit → Act → World → Prop} (hd : ∀ t, o.dst = some t → t < nt)
    (hg : ∀ j b t, o.guard = some (j, b) → (ops[j]?).bind (·.dst) = some t → t < nt) (hx : aStep P ops o s h x eff) :
    (Region.wanted o (yielded ops a.tmps) = true ∧ o.wp P a w (fun a' w' => Rel w0 Z nt (updO s o.dst x) (appE h eff) a' w') Q) ∨
    (Region.wanted o (yielded ops a.tmps) = false ∧ Rel w0 Z nt (updO s o.dst x) (appE h eff) (a.put o.dst undef) w) := by
  unfold aStep at hx
  split at hx
  · rename_i hgd
    exact .inl ⟨by simp [Region.wanted, hgd], exec_ok R hd hx⟩
  · rename_i j want hgd
    obtain ⟨rfl, t, g, y, h1, h2, h3, rfl⟩ := hx
    have hy := yielded_of R h1 h2 (hg j want t hgd h1)
    by_cases hw : ((s t).wh && g == want) = true
    · have hw' := hw
      rw [Bool.and_eq_true, beq_iff_eq] at hw'
      rw [if_pos hw'.1] at hy
      refine .inl ⟨by simp [Region.wanted, hgd, hy, hw'.2], ?_⟩
      have hex : aEx P o s h y none := by
        unfold aEx
        have h3 := h3 hw
        split at h3
        · rename_i hc
          simp only [hc]
          exact ⟨h3, trivial⟩
        · rename_i hc
          simp only [hc]
          exact ⟨h3, trivial⟩
        · exact h3.elim
      refine Oper.wp_mono (fun a' w' hR => ?_) (exec_ok R hd hex)
      obtain ⟨gs', R'⟩ := hR
      refine ⟨gs', { R' with slots := fun t' => ?_ }⟩
      have := R'.slots t'
      unfold updO at this ⊢
      cases hdst : o.dst with
      | none => rw [hdst] at this; exact this
      | some d =>
        rw [hdst] at this
        simp only [upd] at this ⊢
        split
        · rename_i he
          rw [if_pos he] at this
          exact .when _ _ _ (fun _ => this) fun e => by rw [hw] at e; cases e
        · rename_i he
          rw [if_neg he] at this
          exact this
    · refine .inr ⟨?_, gs, R.putO hd (.when _ _ _ (fun e => absurd e hw) fun _ => rfl)⟩
      cases hwh : (s t).wh with
      | false => rw [hwh] at hy; simp [Region.wanted, hgd, hy]
      | true =>
        rw [hwh] at hy hw
        simp only [Bool.true_and, beq_iff_eq] at hw
        simp [Region.wanted, hgd, hy, hw]

/-- All slots that the region names are there. -/
def slotsOk (nt : Nat) (ops : List Oper) : Bool := ops.all fun o => (match o.dst with | some d => decide (d < nt) | none => true)

theorem slotsOk_dst {l : List Oper} (hs : slotsOk nt l = true) {o : Oper} (ho : o ∈ l) : ∀ t, o.dst = some t → t < nt := by
  intro t ht
  simp only [slotsOk, List.all_eq_true] at hs
  have := hs o ho
  rw [ht] at this
  simpa using this

theorem slotsOk_guard {ops : Array Oper} (hs : slotsOk nt ops.toList = true) {j t : Nat} (ht : (ops[j]?).bind (·.dst) = some t) : t < nt := by
  rw [Option.bind_eq_some_iff] at ht
  obtain ⟨o, h1, h2⟩ := ht
  exact slotsOk_dst hs (Array.mem_toList_iff.2 (Array.mem_of_getElem? h1)) t h2

theorem run_ok (hs : slotsOk nt ops.toList = true) {Q : Exit → Act → World → Prop} {K : (Nat → AV) → AH → Prop} : ∀ (l : List Oper) (s : Nat → AV) (h : AH) (a : Act) (w : World), (∀ o ∈ l, o ∈ ops.toList) → Rel w0 Z nt s h a w →
    aRun P ops K l s h → (∀ s' h' a' w', K s' h' → Rel w0 Z nt s' h' a' w' → Q .normal a' w') → wpList P ops Q l a w
  | [], s, h, a, w, _, R, hr, hQ => hQ s h a w hr R
  | o :: l, s, h, a, w, hm, ⟨gs, R⟩, hr, hQ => by
    obtain ⟨x, eff, h1, h2⟩ := hr
    have hd := slotsOk_dst hs (hm o (by simp))
    unfold wpList
    rcases step_ok (Q := Q) R hd (fun j b t _ e => slotsOk_guard hs e) h1 with ⟨hw, hp⟩ | ⟨hw, hp⟩
    · rw [if_pos hw]
      exact .inl (Oper.wp_mono (fun a' w' R' => run_ok hs l _ _ a' w' (fun o ho => hm o (by simp [ho])) R' h2 hQ) hp)
    · rw [if_neg (by simp [hw])]
      exact run_ok hs l _ _ _ w (fun o ho => hm o (by simp [ho])) hp h2 hQ

end

end Go.Am
