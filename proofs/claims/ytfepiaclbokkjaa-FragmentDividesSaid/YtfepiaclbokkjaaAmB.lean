/- The abstract machine, part 11: control, loops, contracts of functions. Generic over the program; no condition. -/
import Derived.Test.YtfepiaclbokkjaaAmA
namespace Go.Am
open Go.RowKit

abbrev Slots := Nat → AV
abbrev APost := Exit → Slots → AH → Prop

def AWp (P : Program) (nt : Nat) (c : Code) (Q : APost) (s : Slots) (h : AH) : Prop :=
  ∀ (w0 : World) (Z : Nat → Prop) (a : Act) (w : World), Rel w0 Z nt s h a w → c.wp P (fun e a' w' => ∃ s' h', Q e s' h' ∧ Rel w0 Z nt s' h' a' w') a w

def thenQ (next : Slots → AH → Prop) (Q : APost) : APost
  | .normal, s, h => next s h
  | e, s, h => Q e s h
def blockQ (id : Nat) (Q : APost) : APost
  | .exit id', s, h => if id' = id then Q .normal s h else Q (.exit id') s h
  | e, s, h => Q e s h

/-- Whatever frame and world hold the one state hold the other. -/
def Weak (s : Slots) (h : AH) (s' : Slots) (h' : AH) : Prop := ∀ (w0 : World) (Z : Nat → Prop) (nt : Nat) (a : Act) (w : World), Rel w0 Z nt s h a w → Rel w0 Z nt s' h' a w

theorem Weak.refl (s : Slots) (h : AH) : Weak s h s h := fun _ _ _ _ _ R => R
theorem Weak.trans {s1 s2 s3 : Slots} {h1 h2 h3 : AH} (a : Weak s1 h1 s2 h2) (b : Weak s2 h2 s3 h3) : Weak s1 h1 s3 h3 := fun w0 Z nt x w R => b w0 Z nt x w (a w0 Z nt x w R)

section
variable {P : Program} {nt : Nat} {Q : APost} {s : Slots} {h : AH}

theorem AWp.weak {c : Code} {s' : Slots} {h' : AH} (hw : Weak s h s' h') (hc : AWp P nt c Q s' h') : AWp P nt c Q s h := fun w0 Z a w R => hc w0 Z a w (hw w0 Z nt a w R)

theorem AWp.mono {c : Code} {Q' : APost} (hc : AWp P nt c Q s h) (hq : ∀ e s h, Q e s h → Q' e s h) : AWp P nt c Q' s h := fun w0 Z a w R =>
  wp_mono (hc w0 Z a w R) fun _ _ _ ⟨s', h', q, R'⟩ => ⟨s', h', hq _ _ _ q, R'⟩

theorem awp_seq {x y : Code} (hx : AWp P nt x (thenQ (AWp P nt y Q) Q) s h) : AWp P nt (.seq x y) Q s h := fun w0 Z a w R => by
  refine wp_seq (wp_mono (hx w0 Z a w R) fun e a' w' ⟨s', h', q, R'⟩ => ?_)
  cases e with
  | normal => exact q w0 Z a' w' R'
  | _ => exact ⟨s', h', q, R'⟩

theorem awp_skip (hq : Q .normal s h) : AWp P nt .skip Q s h := fun _ _ _ _ R => wp_skip ⟨s, h, hq, R⟩
theorem awp_exit {id : Nat} (hq : Q (.exit id) s h) : AWp P nt (.exit id) Q s h := fun _ _ _ _ R => wp_exit ⟨s, h, hq, R⟩
theorem awp_ret (hq : Q .ret s h) : AWp P nt .ret Q s h := fun _ _ _ _ R => wp_ret ⟨s, h, hq, R⟩

theorem awp_block {id : Nat} {c : Code} (hc : AWp P nt c (blockQ id Q) s h) : AWp P nt (.block id c) Q s h := fun w0 Z a w R => by
  refine wp_block (wp_mono (hc w0 Z a w R) fun e a' w' ⟨s', h', q, R'⟩ => ?_)
  cases e with
  | exit id' =>
    simp only [Exit.inBlock, blockQ] at q ⊢
    split
    · rename_i he
      rw [if_pos he] at q
      exact ⟨s', h', q, R'⟩
    · rename_i he
      rw [if_neg he] at q
      exact ⟨s', h', q, R'⟩
  | _ => exact ⟨s', h', q, R'⟩

theorem awp_cond {c : Operand} {x y : Code} {b : Bool} (hc : ev s c = .bool b) (ht : b = true → AWp P nt x Q s h) (hf : b = false → AWp P nt y Q s h) : AWp P nt (.cond c x y) Q s h := fun w0 Z a w ⟨gs, R⟩ => by
  have hv := ev_ok R c
  rw [hc] at hv
  exact wp_cond_split hv.raw_inv (fun e => ht e w0 Z a w ⟨gs, R⟩) fun e => hf e w0 Z a w ⟨gs, R⟩

theorem awp_region {id : Nat} {ops : Array Oper} (hs : slotsOk nt ops.toList = true) (hr : aRun P ops (Q .normal) ops.toList s h) : AWp P nt (.region id ops false) Q s h := fun _ _ _ _ R =>
  region_plain hs R hr fun s' h' _ _ q R' => ⟨s', h', q, R'⟩

theorem aRun_mono {P : Program} {ops : Array Oper} {K K' : Slots → AH → Prop} (hk : ∀ s h, K s h → K' s h) : ∀ (l : List Oper) (s : Slots) (h : AH), aRun P ops K l s h → aRun P ops K' l s h
  | [], s, h, hr => hk s h hr
  | o :: l, s, h, ⟨x, eff, h1, h2⟩ => ⟨x, eff, h1, aRun_mono hk l _ _ h2⟩
theorem awp_region_draw (hf : P.follows .mixedOrders = true) {id : Nat} {ops : Array Oper} (hs : slotsOk nt ops.toList = true) (hd : drawOk ops = true) (hr : aRun P ops (Q .normal) ops.toList s h) : AWp P nt (.region id ops true) Q s h := fun _ _ _ _ R =>
  region_drawF (free := []) hf hs hd R (aRun_mono (fun _ _ q => ⟨rfl, q⟩) _ _ _ hr) fun s' h' _ _ q R' => ⟨s', h', q, R'⟩
theorem awp_region_drawF (hf : P.follows .mixedOrders = true) (free : List (Nat × Nat)) {id : Nat} {ops : Array Oper} (hs : slotsOk nt ops.toList = true) (hd : drawOkF free ops = true) (hr : aRun P ops (fun s h => freeFin free ops s = true ∧ Q .normal s h) ops.toList s h) : AWp P nt (.region id ops true) Q s h := fun _ _ _ _ R =>
  region_drawF (free := free) hf hs hd R hr fun s' h' _ _ q R' => ⟨s', h', q, R'⟩
end

/-! Letting go of slots and objects. -/
def AV.ref1w : AV → List Nat
  | .ptr o _ | .rp o _ _ _ | .own o _ | .osub o _ _ _ => [o]
  | .when _ x => x.ref1w
  | _ => []
def AV.refsw : AV → List Nat
  | .agg xs => xs.flatMap AV.ref1w
  | .when _ x => x.refsw
  | x => x.ref1w

def keepS (ks : List Nat) (s : Slots) : Slots := fun t => if t ∈ ks then s t else .c .any
def keepH (os : List Nat) (h : AH) : AH := fun o => if o ∈ os then h o else .gone

theorem RA.kept1 {w : World} {Z Z' : Nat → Prop} {h h' : AH} {gs gs' : Gs} {v : Value} {x : AV} (hx : RA w Z h gs v x) (hz : ∀ b, Z' b → Z b) (ho : ∀ o ∈ x.ref1w, h' o = h o ∧ gs' o = gs o) (hn : v.oneCell' = true) : RA w Z' h' gs' v x := by
  have hl : Later w w Z Z' := ⟨Nat.le_refl _, fun _ _ _ => rfl, fun b hb _ => hz b hb⟩
  induction hx with
  | c v x hx => exact .c v x (hx.later hl)
  | agg cs xs hl' ho' hh => simp [Value.oneCell'] at hn
  | pim a xs g hb hlt hc ho' hh => exact .pim a xs g (fun hz' => hb (hz _ hz')) hlt hc ho' fun j hj => (hh j hj).later hl
  | ptr o off b K ty cells ho' hg =>
    obtain ⟨e1, e2⟩ := ho o (by simp [AV.ref1w])
    exact .ptr o off b K ty cells (e1.trans ho') (e2.trans hg)
  | rp ad o L i off ty sz n f ho' hL hv =>
    obtain ⟨e1, e2⟩ := ho o (by simp [AV.ref1w])
    exact .rp ad o L i off ty sz n f (e1.trans ho') hL (by rw [e2]; exact hv)
  | own A k c o L ty sz n f ho' hL hv =>
    obtain ⟨e1, e2⟩ := ho o (by simp [AV.ref1w])
    exact .own A k c o L ty sz n f (e1.trans ho') hL (by rw [e2]; exact hv)
  | osub A k' c o L off k ty sz n f ho' hL hv =>
    obtain ⟨e1, e2⟩ := ho o (by simp [AV.ref1w])
    exact .osub A k' c o L off k ty sz n f (e1.trans ho') hL (by rw [e2]; exact hv)
  | emp A => exact .emp A
  | when v b x _ hu ih => exact .when v b x (fun e => ih e ho hn) hu

theorem RA.kept {w : World} {Z Z' : Nat → Prop} {h h' : AH} {gs gs' : Gs} {v : Value} {x : AV} (hx : RA w Z h gs v x) (hz : ∀ b, Z' b → Z b) (ho : ∀ o ∈ x.refsw, h' o = h o ∧ gs' o = gs o) : RA w Z' h' gs' v x := by
  induction hx with
  | agg cs xs hl' ho' hh _ =>
    refine .agg cs xs hl' ho' fun i hi => (hh i hi).kept1 hz (fun o hm => ho o ?_) (ho' i hi)
    rw [getD_lt hi] at hm
    exact List.mem_flatMap.2 ⟨_, List.getElem_mem hi, hm⟩
  | when v b x _ hu ih => exact .when v b x (fun e => ih e ho) hu
  | c v x hx =>
    have hl : Later w w Z Z' := ⟨Nat.le_refl _, fun _ _ _ => rfl, fun b hb _ => hz b hb⟩
    exact .c v x (hx.later hl)
  | pim a xs g hb hlt hc ho' hh => exact (RA.pim (gs := gs) (h := h) a xs g hb hlt hc ho' hh).kept1 hz ho rfl
  | ptr o off b K ty cells ho' hg => exact (RA.ptr (w := w) (Z := Z) o off b K ty cells ho' hg).kept1 hz ho rfl
  | rp ad o L i off ty sz n f ho' hL hv => exact (RA.rp (w := w) (Z := Z) ad o L i off ty sz n f ho' hL hv).kept1 hz ho rfl
  | own A k c o L ty sz n f ho' hL hv => exact (RA.own (w := w) (Z := Z) A k c o L ty sz n f ho' hL hv).kept1 hz ho rfl
  | osub A k' c o L off k ty sz n f ho' hL hv => exact (RA.osub (w := w) (Z := Z) A k' c o L off k ty sz n f ho' hL hv).kept1 hz ho rfl
  | emp A => exact .emp A

/-- What is kept leads to nothing that is let go. -/
structure Keep (ks os : List Nat) (s : Slots) (h : AH) : Prop where
  slots : ∀ t ∈ ks, ∀ o ∈ (s t).refsw, o ∈ os
  boxes : ∀ o ∈ os, ∀ ty cells, h o = .box ty cells → ∀ x ∈ cells, ∀ o' ∈ x.refsw, o' ∈ os

theorem weak_keep {ks os : List Nat} {s : Slots} {h : AH} (K : Keep ks os s h) : Weak s h (keepS ks s) (keepH os h) := by
  intro w0 Z nt a w ⟨gs, R⟩
  let gs' : Gs := fun o => if o ∈ os then gs o else none
  have hz : ∀ b, Zf Z gs' b → Zf Z gs b := by
    intro b hb
    rcases hb with hb | ⟨o, K', hb⟩
    · exact .inl hb
    · simp only [gs'] at hb
      split at hb
      · exact .inr ⟨o, K', hb⟩
      · cases hb
  have hl : Later w w (Zf Z gs) (Zf Z gs') := ⟨Nat.le_refl _, fun _ _ _ => rfl, fun b hb _ => hz b hb⟩
  have hk : ∀ o, o ∈ os → keepH os h o = h o ∧ gs' o = gs o := fun o ho => ⟨by simp [keepH, ho], by simp [gs', ho]⟩
  have sub : ∀ o b K', gs' o = some (b, K') → gs o = some (b, K') := fun o b K' e => by
    simp only [gs'] at e
    split at e
    · exact e
    · cases e
  refine ⟨gs', R.below, R.zlt, fun o b K' e => R.fresh o b K' (sub o b K' e), fun o o' b K1 K2 e1 e2 => R.inj o o' b K1 K2 (sub _ _ _ e1) (sub _ _ _ e2), fun o => ?_, fun t => ?_, R.size, R.defers⟩
  · by_cases ho : o ∈ os
    · have hob := R.objs o
      rw [(hk o ho).1]
      cases hx : h o with
      | gone =>
        rw [hx] at hob
        exact (hk o ho).2.trans hob
      | box ty cells =>
        rw [hx] at hob
        obtain ⟨b, K', cur, g1, g2, g3, g4, g5⟩ := hob
        refine ⟨b, K', cur, (hk o ho).2.trans g1, g2, g3, g4, fun j hj => (g5 j hj).kept hz fun o' ho' => hk o' (K.boxes o ho ty cells hx _ ?_ o' ho')⟩
        rw [getD_lt hj]
        exact List.getElem_mem hj
      | row ty sz n f =>
        rw [hx] at hob
        rcases hob with ⟨q1, q2⟩ | ⟨b', K', cur, q1, q2, q3, q4, q5, q6, q7, q8⟩
        · exact .inl ⟨(hk o ho).2.trans q1, q2⟩
        · exact .inr ⟨b', K', cur, (hk o ho).2.trans q1, q2, q3, q4, q5, q6, q7, fun i j hi hj => (q8 i j hi hj).later hl⟩
    · have : keepH os h o = .gone := by simp [keepH, ho]
      rw [this]
      show gs' o = none
      simp [gs', ho]
  · by_cases ht : t ∈ ks
    · have : keepS ks s t = s t := by simp [keepS, ht]
      rw [this]
      exact (R.slots t).kept hz fun o ho => hk o (K.slots t ht o ho)
    · have : keepS ks s t = .c .any := by simp [keepS, ht]
      rw [this]
      exact .c _ _ (.any _)

/-- A LOOP: what holds at every round's head of the slots ks and the objects os; a number that every round lowers. -/
theorem awp_loop {P : Program} {nt : Nat} {Q : APost} {s : Slots} {h : AH} {c : Code} (ks os : List Nat) (I : Nat → Slots → AH → Prop) (n0 : Nat) (hk : Keep ks os s h) (h0 : I n0 (keepS ks s) (keepH os h))
    (round : ∀ n s h, I n s h → (∀ o, o ∉ os → h o = .gone) → AWp P nt c (thenQ (fun s' h' => Keep ks os s' h' ∧ ∃ n', n' < n ∧ I n' (keepS ks s') (keepH os h')) Q) s h) : AWp P nt (.loop c) Q s h := by
  intro w0 Z a w R
  refine wp_loop_ghost (fun n a w => ∃ s h, I n s h ∧ (∀ o, o ∉ os → h o = .gone) ∧ Rel w0 Z nt s h a w) n0 ⟨_, _, h0, fun o ho => by simp [keepH, ho], weak_keep hk w0 Z nt a w R⟩ ?_
  intro n a w ⟨s, h, hi, hg, R⟩
  refine wp_mono (round n s h hi hg w0 Z a w R) fun e a' w' ⟨s', h', q, R'⟩ => ?_
  cases e with
  | normal =>
    obtain ⟨q1, n', q2, q3⟩ := q
    exact ⟨n', q2, _, _, q3, fun o ho => by simp [keepH, ho], weak_keep q1 w0 Z nt a' w' R'⟩
  | _ => exact ⟨s', h', q, R'⟩

/-! Contracts of functions. -/
def retAV (P : Program) (s : Slots) (h : AH) : ResultVar → AV → Prop
  | .tmp t, x => (s t).wh = true ∧ x = (s t).strip
  | .cell t ty, x => aop1 P (.load ty (.tmp t)) (ev s) h true x
def retAll (P : Program) (s : Slots) (h : AH) : List ResultVar → List AV → Prop
  | [], [] => True
  | r :: rs, x :: xs => retAV P s h r x ∧ retAll P s h rs xs
  | _, _ => False
def tupled : List CV → CV
  | [x] => x
  | xs => .tup xs

/-- What a body hands back. -/
def RetQ (P : Program) (fn : Func) (r : CV) : APost
  | .ret, s, h | .normal, s, h => ∃ xs, retAll P s h fn.results.toList xs ∧ CV.Sub (tupled (xs.map fun x => x.view h)) r
  | _, _, _ => False

def entryS (xs : List CV) : Slots := fun t => .c (xs.getD t .any)

section
variable {P : Program} {w0 w : World} {Z : Nat → Prop} {nt : Nat} {s : Slots} {h : AH} {gs : Gs} {a : Act}

def resSem (tmps : Array Value) : ResultVar → Sem Value
  | .tmp t => pure (tmps.getD t undef)
  | .cell t ty => do loadVar ty (← asAddr (tmps.getD t undef))

theorem results_eq (fn : Func) (tmps : Array Value) : results fn tmps = (do let vs ← fn.results.mapM (resSem tmps); pure (if hh : vs.size = 1 then vs[0] else .tuple vs)) := by
  have e : (fun r => (match r with | .tmp t => pure (tmps.getD t undef) | .cell a t => do loadVar t (← asAddr (tmps.getD a undef)) : Sem Value)) = resSem tmps := funext fun r => by cases r <;> rfl
  rw [← e]
  rfl

theorem ret_run (R : RelG w0 Z nt s h gs a w) {r : ResultVar} {x : AV} (hr : retAV P s h r x) : ∃ v, (resSem a.tmps r).run P w = .ok v w ∧ RA w (Zf Z gs) h gs v x := by
  cases r with
  | tmp t =>
    obtain ⟨h1, rfl⟩ := hr
    exact ⟨_, rfl, (R.slots t).strip h1⟩
  | cell t ty =>
    obtain ⟨ad, v, h1, h2, h3⟩ := load_run R ty (.tmp t) hr
    refine ⟨v, ?_, h3⟩
    have h1' : a.tmps.getD t undef = .pointer (some ad) := h1
    simp only [resSem, h1', asAddr, Sem.run_bind, Sem.run_pure, Result.andThen_ok, h2]

theorem rets_run (R : RelG w0 Z nt s h gs a w) : ∀ (rs : List ResultVar) (xs : List AV), retAll P s h rs xs → ∃ vs : List Value, (rs.mapM (resSem a.tmps)).run P w = .ok vs w ∧ vs.length = xs.length ∧
    ∀ i, i < xs.length → RA w (Zf Z gs) h gs (vs.getD i undef) (xs.getD i default)
  | [], [], _ => ⟨[], rfl, rfl, fun i hi => by simp at hi⟩
  | [], _ :: _, hr => hr.elim
  | _ :: _, [], hr => hr.elim
  | r :: rs, x :: xs, hr => by
    obtain ⟨v, h1, h2⟩ := ret_run R hr.1
    obtain ⟨vs, h3, h4, h5⟩ := rets_run R rs xs hr.2
    refine ⟨v :: vs, ?_, by simp [h4], fun i hi => ?_⟩
    · simp only [List.mapM_cons, Sem.run_bind, h1, Result.andThen_ok, h3, Sem.run_pure]
    · cases i with
      | zero => exact h2
      | succ i => exact h5 i (by simpa using hi)

theorem rets_value (R : RelG w0 Z nt s h gs a w) {fn : Func} {xs : List AV} (hr : retAll P s h fn.results.toList xs) : ∃ v, (results fn a.tmps).run P w = .ok v w ∧ RC w Z v (tupled (xs.map fun x => x.view h)) := by
  obtain ⟨vs, h1, h2, h3⟩ := rets_run R _ xs hr
  have hm : (results fn a.tmps).run P w = .ok (if hh : vs.toArray.size = 1 then vs.toArray[0] else .tuple vs.toArray) w := by
    rw [results_eq, ← Array.toArray_toList (xs := fn.results), List.mapM_toArray]
    simp only [Sem.run_bind, Sem.run_map, h1, Result.andThen_ok, Sem.run_pure]
  refine ⟨_, hm, ?_⟩
  clear hm h1 hr
  match vs, xs, h2, h3 with
  | [v], [x], _, h3 => exact view_ok R (h3 0 (by simp))
  | [], [], _, _ => exact .tup #[] [] rfl fun i hi => by simp at hi
  | v1 :: v2 :: vs, x1 :: x2 :: xs, h2, h3 =>
    have hne : ¬ (v1 :: v2 :: vs).toArray.size = 1 := by simp
    rw [dif_neg hne]
    refine .tup _ _ (by simpa using h2) fun i hi => ?_
    have hi' : i < (x1 :: x2 :: xs).length := by simpa using hi
    have hiv : i < (v1 :: v2 :: vs).length := by rw [h2]; exact hi'
    have h4 := view_ok R (h3 i hi')
    rw [getD_lt hiv, getD_lt hi'] at h4
    have e1 : (v1 :: v2 :: vs).toArray.getD i undef = (v1 :: v2 :: vs)[i] := by
      have : i < (v1 :: v2 :: vs).toArray.size := by simpa using hiv
      simp only [Array.getD, this, dite_true, Array.getInternal_eq_getElem, List.getElem_toArray]
    rw [e1, getD_lt hi]
    simp only [← List.map_cons, List.getElem_map]
    exact h4

/-- THE CONTRACT OF A FUNCTION, from its body. -/
theorem apure_of {f : FuncId} {fn : Func} {c : Code} {xs : List CV} {r : CV} (hf : P.funcs[f]? = some fn) (hb : fn.body = some c) (hn : (fn.name == "runtime.NumGoroutine") = false) (hl : xs.length ≤ fn.ntmps)
    (hc : AWp P fn.ntmps c (RetQ P fn r) (entryS xs) (fun _ => .gone)) : APure P f xs r := by
  refine ⟨⟨fn, hf, hn, by rw [hb]; rfl⟩, fun Z w vs hz hlen hx => ?_⟩
  refine calls_of_wp hf hb ?_
  have hR : Rel w Z fn.ntmps (entryS xs) (fun _ => .gone) { tmps := vs.toArray ++ Array.replicate (fn.ntmps - vs.toArray.size) undef, defers := [] } w := by
    refine ⟨fun _ => none, Below.refl _ _, hz, fun o b K e => absurd e (by simp), fun o o' b K K' e => absurd e (by simp), fun o => rfl, fun t => ?_, by simp; omega, rfl⟩
    have hzf : ∀ b, Zf Z (fun _ => none) b → Z b := by
      intro b hb
      rcases hb with hb | ⟨o, K, hb⟩
      · exact hb
      · exact absurd hb (by simp)
    by_cases ht : t < xs.length
    · have e : (vs.toArray ++ Array.replicate (fn.ntmps - vs.toArray.size) undef).getD t undef = vs.getD t undef := by
        simp only [Array.getD_eq_getD_getElem?, List.getD_eq_getElem?_getD]
        rw [Array.getElem?_append_left (by simp; omega)]
        simp
      simp only [e]
      exact .c _ _ ((hx t ht).less hzf)
    · have : entryS xs t = .c .any := by
        unfold entryS
        rw [List.getD_eq_getElem?_getD, List.getElem?_eq_none (by omega)]
        rfl
      rw [this]
      exact .c _ _ (.any _)
  refine wp_mono (hc w Z _ w hR) fun e a' w' ⟨s', h', q, gs', R'⟩ => ?_
  cases e with
  | normal =>
    obtain ⟨ys, q1, q2⟩ := q
    obtain ⟨v, h1, h2⟩ := rets_value R' q1
    exact ⟨R'.defers, v, h1, v, rfl, q2 _ _ _ h2, R'.below⟩
  | ret =>
    obtain ⟨ys, q1, q2⟩ := q
    obtain ⟨v, h1, h2⟩ := rets_value R' q1
    exact ⟨R'.defers, v, h1, v, rfl, q2 _ _ _ h2, R'.below⟩
  | _ => exact q.elim
end

end Go.Am
