/- The abstract machine, part 14: one operation at a time, with its questions in the order in which they are answered; states as finite lists. Generic over the program; no condition. -/
import Derived.Test.YtfepiaclbokkjaaAmD
namespace Go.Am
open Go.RowKit

/-! States as finite lists. -/
def ofL : List (Nat × AV) → Slots
  | [] => fun _ => .c .any
  | (k, v) :: r => upd (ofL r) k v
def ofH : List (Nat × AObj) → AH
  | [] => fun _ => .gone
  | (k, v) :: r => upd (ofH r) k v
theorem ofL_nil (t : Nat) : ofL [] t = .c .any := rfl
theorem ofL_cons (k : Nat) (v : AV) (r : List (Nat × AV)) (t : Nat) : ofL ((k, v) :: r) t = if t = k then v else ofL r t := rfl
theorem ofH_nil (t : Nat) : ofH [] t = .gone := rfl
theorem ofH_cons (k : Nat) (v : AObj) (r : List (Nat × AObj)) (t : Nat) : ofH ((k, v) :: r) t = if t = k then v else ofH r t := rfl

theorem keepS_eq {s : Slots} : ∀ {l : List (Nat × AV)}, (∀ p ∈ l, s p.1 = p.2) → keepS (l.map Prod.fst) s = ofL l
  | [], _ => by funext t; simp [keepS, ofL]
  | (k, v) :: r, h => by
    have ih := keepS_eq (s := s) (l := r) fun p hp => h p (List.mem_cons_of_mem _ hp)
    funext t
    have h2 := congrFun ih t
    have hk := h (k, v) (List.mem_cons_self ..)
    rw [keepS_apply] at h2 ⊢
    rw [ofL_cons]
    by_cases e : t = k
    · subst e; simpa using hk
    · rw [if_neg e, ← h2]
      have : (t ∈ List.map Prod.fst ((k, v) :: r)) = (t ∈ List.map Prod.fst r) := by rw [List.map_cons, List.mem_cons, eq_iff_iff]; exact ⟨fun q => q.resolve_left e, .inr⟩
      simp only [this]
theorem keepH_eq {s : AH} : ∀ {l : List (Nat × AObj)}, (∀ p ∈ l, s p.1 = p.2) → keepH (l.map Prod.fst) s = ofH l
  | [], _ => by funext t; simp [keepH, ofH]
  | (k, v) :: r, h => by
    have ih := keepH_eq (s := s) (l := r) fun p hp => h p (List.mem_cons_of_mem _ hp)
    funext t
    have h2 := congrFun ih t
    have hk := h (k, v) (List.mem_cons_self ..)
    rw [keepH_apply] at h2 ⊢
    rw [ofH_cons]
    by_cases e : t = k
    · subst e; simpa using hk
    · rw [if_neg e, ← h2]
      have : (t ∈ List.map Prod.fst ((k, v) :: r)) = (t ∈ List.map Prod.fst r) := by rw [List.map_cons, List.mem_cons, eq_iff_iff]; exact ⟨fun q => q.resolve_left e, .inr⟩
      simp only [this]

/-- What a loop's head keeps: closed under the objects that it names. -/
def refsIn (os : List Nat) (l : List AV) : Bool := l.all fun x => x.refsw.all fun o => decide (o ∈ os)
def boxIn (os : List Nat) : AObj → Bool
  | .box _ cells => refsIn os cells
  | _ => true
/-! A row is the same where its elements are. -/
def objLe : AObj → AObj → Prop
  | .row ty sz n f, .row ty' sz' n' f' => ty = ty' ∧ sz = sz' ∧ n = n' ∧ ∀ i, i < n → Subs (f i) (f' i)
  | x, y => x = y
theorem Subs.of_eq {xs ys : List CV} (h : xs = ys) : Subs xs ys := h ▸ Subs.refl xs
theorem objLe_row {ty : TypeId} {sz n : Nat} {f f' : Nat → List CV} (h : ∀ i, i < n → f i = f' i) : objLe (.row ty sz n f) (.row ty sz n f') := ⟨rfl, rfl, rfl, fun i hi => Subs.of_eq (h i hi)⟩
theorem objLe_rown {ty : TypeId} {sz n n' : Nat} {f f' : Nat → List CV} (hn : n = n') (h : ∀ i, i < n → f i = f' i) : objLe (.row ty sz n f) (.row ty sz n' f') := ⟨rfl, rfl, hn, fun i hi => Subs.of_eq (h i hi)⟩
theorem objLe_rows {ty : TypeId} {sz n n' : Nat} {f f' : Nat → List CV} (hn : n = n') (h : ∀ i, i < n → Subs (f i) (f' i)) : objLe (.row ty sz n f) (.row ty sz n' f') := ⟨rfl, rfl, hn, h⟩
theorem objLe_refl (x : AObj) : objLe x x := by
  cases x with
  | row ty sz n f => exact ⟨rfl, rfl, rfl, fun i _ => Subs.refl _⟩
  | _ => exact rfl
theorem objLe_of {x y : AObj} (e : x = y) : objLe x y := e ▸ objLe_refl x
theorem objLe_box {ty : TypeId} {c : List AV} {y : AObj} (h : objLe (.box ty c) y) : y = .box ty c := by cases y <;> simp_all [objLe]
theorem objLe_box' {ty : TypeId} {c : List AV} {y : AObj} (h : objLe y (.box ty c)) : y = .box ty c := by cases y <;> simp_all [objLe]
theorem objLe_gone {y : AObj} (h : objLe .gone y) : y = .gone := by cases y <;> simp_all [objLe]
theorem objLe_rowx {ty : TypeId} {sz n : Nat} {f : Nat → List CV} {y : AObj} (h : objLe (.row ty sz n f) y) : ∃ f', y = .row ty sz n f' ∧ ∀ i, i < n → Subs (f i) (f' i) := by
  cases y <;> simp only [objLe, reduceCtorEq] at h
  obtain ⟨rfl, rfl, rfl, h⟩ := h
  exact ⟨_, rfl, h⟩

theorem RA.le {w : World} {Z : Nat → Prop} {h h' : AH} {gs : Gs} (hl : ∀ o, objLe (h o) (h' o)) {v : Value} {x : AV} (hx : RA w Z h gs v x) : RA w Z h' gs v x := by
  induction hx with
  | c v x hx => exact .c v x hx
  | agg cs xs hl ho hh ih => exact .agg cs xs hl ho ih
  | pim a xs g hb hlt hc ho hh => exact .pim a xs g hb hlt hc ho hh
  | ptr o off b K ty cells ho hg =>
    have := hl o
    rw [ho] at this
    exact .ptr o off b K ty cells (objLe_box this) hg
  | rp ad o L i off ty sz n f ho hL hv =>
    have := hl o
    rw [ho] at this
    obtain ⟨f', e, _⟩ := objLe_rowx this
    exact .rp ad o L i off ty sz n f' e hL hv
  | own A k c o L ty sz n f ho hL hv =>
    have := hl o
    rw [ho] at this
    obtain ⟨f', e, _⟩ := objLe_rowx this
    exact .own A k c o L ty sz n f' e hL hv
  | osub A k' c o L off k ty sz n f ho hL hv =>
    have := hl o
    rw [ho] at this
    obtain ⟨f', e, _⟩ := objLe_rowx this
    exact .osub A k' c o L off k ty sz n f' e hL hv
  | emp A => exact .emp A
  | when v b x hx hu ih => exact .when v b x ih hu

theorem weak_rows {s : Slots} {h h' : AH} (hl : ∀ o, objLe (h o) (h' o)) : Weak s h s h' := by
  intro w0 Z nt a w ⟨gs, R⟩
  refine ⟨gs, R.below, R.zlt, R.fresh, R.inj, fun o => ?_, fun t => (R.slots t).le hl, R.size, R.defers⟩
  have ho := R.objs o
  have hx := hl o
  cases e : h o with
  | gone =>
    rw [e] at ho hx
    rw [objLe_gone hx]
    exact ho
  | box ty cells =>
    rw [e] at ho hx
    rw [objLe_box hx]
    obtain ⟨b, K, cur, q1, q2, q3, q4, q5⟩ := ho
    exact ⟨b, K, cur, q1, q2, q3, q4, fun j hj => (q5 j hj).le hl⟩
  | row ty sz n f =>
    rw [e] at ho hx
    obtain ⟨f', e', hf⟩ := objLe_rowx hx
    rw [e']
    rcases ho with ho | ⟨b, K, cur, q1, q2, q3, q4, q5, q6, q7, q8⟩
    · exact .inl ho
    · refine .inr ⟨b, K, cur, q1, q2, q3, q4, q5, fun i hi => ?_, q7, fun i j hi hj => ?_⟩
      · rw [← (hf i hi).length]; exact q6 i hi
      · exact (hf i hi).get j (by rw [q6 i hi]; exact hj) _ _ _ (q8 i j hi hj)

theorem ofH_le {h : AH} : ∀ {l : List (Nat × AObj)}, (∀ p ∈ l, objLe (h p.1) p.2) → ∀ o, o ∈ l.map Prod.fst → objLe (h o) (ofH l o)
  | (k, v) :: r, hl, o, ho => by
    rw [ofH_cons]
    by_cases e : o = k
    · subst e
      rw [if_pos rfl]
      exact hl (o, v) (List.mem_cons_self ..)
    · rw [if_neg e]
      refine ofH_le (fun p hp => hl p (List.mem_cons_of_mem _ hp)) o ?_
      rw [List.map_cons, List.mem_cons] at ho
      exact ho.resolve_left e
theorem ofH_mem : ∀ {l : List (Nat × AObj)} (o : Nat), o ∈ l.map Prod.fst → ∃ p ∈ l, ofH l o = p.2
  | (k, v) :: r, o, ho => by
    rw [ofH_cons]
    by_cases e : o = k
    · exact ⟨(k, v), List.mem_cons_self .., by rw [if_pos e]⟩
    · rw [if_neg e]
      rw [List.map_cons, List.mem_cons] at ho
      obtain ⟨p, hp, e2⟩ := ofH_mem o (ho.resolve_left e)
      exact ⟨p, List.mem_cons_of_mem _ hp, e2⟩
theorem ofH_out : ∀ {l : List (Nat × AObj)} (o : Nat), o ∉ l.map Prod.fst → ofH l o = .gone
  | [], o, _ => rfl
  | (k, v) :: r, o, ho => by
    rw [List.map_cons, List.mem_cons, not_or] at ho
    rw [ofH_cons, if_neg ho.1]
    exact ofH_out o ho.2

/-- Only the listed slots and objects stay. -/
theorem weak_cut {s : Slots} {h : AH} {l : List (Nat × AV)} {b : List (Nat × AObj)} (hs : ∀ p ∈ l, s p.1 = p.2) (hh : ∀ p ∈ b, objLe (h p.1) p.2) (h1 : refsIn (b.map Prod.fst) (l.map Prod.snd) = true) (h2 : ∀ p ∈ b, boxIn (b.map Prod.fst) p.2 = true) :
    Weak s h (ofL l) (ofH b) := by
  have hle : ∀ o, objLe (h o) ((fun o => if o ∈ b.map Prod.fst then ofH b o else h o) o) := by
    intro o
    by_cases e : o ∈ b.map Prod.fst
    · simp only [e, if_true]; exact ofH_le hh o e
    · simp only [e, if_false]; exact objLe_refl _
  refine (weak_rows hle).trans ?_
  have hk : Keep (l.map Prod.fst) (b.map Prod.fst) s (fun o => if o ∈ b.map Prod.fst then ofH b o else h o) := by
    constructor
    · intro t ht o ho
      rw [List.mem_map] at ht
      obtain ⟨p, hp, rfl⟩ := ht
      rw [hs p hp] at ho
      unfold refsIn at h1
      rw [List.all_eq_true] at h1
      have := h1 p.2 (List.mem_map_of_mem hp)
      rw [List.all_eq_true] at this
      simpa using this o ho
    · intro o ho ty cells e x hx o' ho'
      simp only [ho, if_true] at e
      obtain ⟨p, hp, e2⟩ := ofH_mem o ho
      rw [e2] at e
      have := h2 p hp
      rw [e] at this
      unfold boxIn refsIn at this
      rw [List.all_eq_true] at this
      have := this x hx
      rw [List.all_eq_true] at this
      simpa using this o' ho'
  have := weak_keep hk
  rw [keepS_eq hs] at this
  have e : keepH (b.map Prod.fst) (fun o => if o ∈ b.map Prod.fst then ofH b o else h o) = ofH b := by
    funext o
    rw [keepH_apply]
    by_cases e : o ∈ b.map Prod.fst
    · simp only [e, if_true]
    · simp only [e, if_false]; exact (ofH_out o e).symm
  rwa [e] at this

/-- A LOOP whose head is a finite state that depends on an index of any type. -/
theorem awp_for {P : Program} {nt : Nat} {Q : APost} {s : Slots} {h : AH} {c : Code} {ι : Type} (S : ι → List (Nat × AV)) (H : ι → List (Nat × AObj)) (m : ι → Nat) (J : ι → Prop) (i0 : ι) (h0 : J i0) (hs : ∀ p ∈ S i0, s p.1 = p.2) (hh : ∀ p ∈ H i0, objLe (h p.1) p.2)
    (hr : ∀ i, J i → refsIn ((H i).map Prod.fst) ((S i).map Prod.snd) = true) (hb : ∀ i, J i → ((H i).all fun p => boxIn ((H i).map Prod.fst) p.2) = true)
    (round : ∀ i, J i → AWp P nt c (thenQ (fun s' h' => ∃ j, J j ∧ m j < m i ∧ (∀ p ∈ S j, s' p.1 = p.2) ∧ (∀ p ∈ H j, objLe (h' p.1) p.2)) Q) (ofL (S i)) (ofH (H i))) : AWp P nt (.loop c) Q s h := by
  intro w0 Z a w R
  refine wp_loop_ghost (fun n a w => ∃ i, J i ∧ m i = n ∧ Rel w0 Z nt (ofL (S i)) (ofH (H i)) a w) (m i0) ⟨i0, h0, rfl, weak_cut hs hh (hr i0 h0) (List.all_eq_true.1 (hb i0 h0)) w0 Z nt a w R⟩ ?_
  rintro n a w ⟨i, hj, rfl, R⟩
  refine wp_mono (round i hj w0 Z a w R) fun e a' w' ⟨s', h', q, R'⟩ => ?_
  cases e with
  | normal =>
    obtain ⟨j, q1, q2, q3, q4⟩ := q
    exact ⟨m j, q2, j, q1, rfl, weak_cut q3 q4 (hr j q1) (List.all_eq_true.1 (hb j q1)) w0 Z nt a' w' R'⟩
  | _ => exact ⟨s', h', q, R'⟩

/-- To forget: only the listed slots and objects stay. -/
theorem awp_cut {P : Program} {nt : Nat} {Q : APost} {s : Slots} {h : AH} {c : Code} (l : List (Nat × AV)) (b : List (Nat × AObj)) (hs : ∀ p ∈ l, s p.1 = p.2) (hh : ∀ p ∈ b, objLe (h p.1) p.2)
    (h1 : refsIn (b.map Prod.fst) (l.map Prod.snd) = true) (h2 : (b.all fun p => boxIn (b.map Prod.fst) p.2) = true) (hn : AWp P nt c Q (ofL l) (ofH b)) : AWp P nt c Q s h := AWp.weak (weak_cut hs hh h1 (List.all_eq_true.1 h2)) hn

/-- A row becomes immutable, the rest is forgotten but for the listed. -/
theorem awp_frz {P : Program} {nt : Nat} {Q : APost} {s : Slots} {h : AH} {c : Code} (o : Nat) {ty : TypeId} {sz n : Nat} {f : Nat → List CV} (l : List (Nat × AV)) (b : List (Nat × AObj)) (ho : h o = .row ty sz n f) (hs : ∀ p ∈ l, frzS o sz n f s p.1 = p.2) (hh : ∀ p ∈ b, objLe (frzH o sz n f h p.1) p.2)
    (h1 : refsIn (b.map Prod.fst) (l.map Prod.snd) = true) (h2 : (b.all fun p => boxIn (b.map Prod.fst) p.2) = true) (hn : AWp P nt c Q (ofL l) (ofH b)) : AWp P nt c Q s h := AWp.weak ((weak_freeze o ty sz n f ho).trans (weak_cut hs hh h1 (List.all_eq_true.1 h2))) hn

theorem frzS_apply (o sz n : Nat) (f : Nat → List CV) (s : Slots) (t : Nat) : frzS o sz n f s t = (s t).frz o sz n f := rfl
theorem frzH_apply (o sz n : Nat) (f : Nat → List CV) (h : AH) (q : Nat) : frzH o sz n f h q = if q = o then .gone else (h q).frz o sz n f := rfl
theorem frz_c (o sz n : Nat) (f : Nat → List CV) (x : CV) : (AV.c x).frz o sz n f = .c x := rfl
theorem frz_ptr (o sz n : Nat) (f : Nat → List CV) (a b : Nat) : (AV.ptr a b).frz o sz n f = .ptr a b := rfl
theorem frz_emp (o sz n : Nat) (f : Nat → List CV) : AV.emp.frz o sz n f = .emp := rfl
theorem frz_own (o sz n : Nat) (f : Nat → List CV) (a L : Nat) : (AV.own a L).frz o sz n f = if a = o then (if L = n then .c (.im sz n f) else .c .any) else .own a L := rfl
theorem frz_agg (o sz n : Nat) (f : Nat → List CV) (xs : List AV) : (AV.agg xs).frz o sz n f = .agg (xs.map (AV.frz1 o sz n f)) := rfl
theorem frz_box (o sz n : Nat) (f : Nat → List CV) (ty : TypeId) (xs : List AV) : (AObj.box ty xs).frz o sz n f = .box ty (xs.map (AV.frz o sz n f)) := rfl
theorem frz_row (o sz n : Nat) (f : Nat → List CV) (ty : TypeId) (a b : Nat) (g : Nat → List CV) : (AObj.row ty a b g).frz o sz n f = .row ty a b g := rfl

theorem sub_agg {xs ys : List CV} (h : Subs xs ys) : CV.Sub (.agg xs) (.agg ys) := CV.Sub.agg h.length fun i hi => h.get i hi
theorem sub_tup {xs ys : List CV} (h : Subs xs ys) : CV.Sub (.tup xs) (.tup ys) := CV.Sub.tup h.length fun i hi => h.get i hi

theorem sub_im {sz n n' : Nat} {f f' : Nat → List CV} (hn : n = n') (h : ∀ i, i < n → Subs (f i) (f' i)) : CV.Sub (.im sz n f) (.im sz n' f') := by
  refine CV.Sub.im' hn (fun i hi => (h i hi).length.symm) fun i j hi hj => ?_
  by_cases hl : j < (f i).length
  · exact (h i hi).get j hl
  · have h2 := (h i hi).length
    rw [List.getD_eq_getElem?_getD, List.getD_eq_getElem?_getD, List.getElem?_eq_none (by omega), List.getElem?_eq_none (by omega)]
    exact CV.Sub.refl _

/-- A row after one element was appended. -/
theorem snoc_row {α : Type} (F : α → List CV) (d : α) (l : List α) (x : α) {ty : TypeId} {sz : Nat} :
    objLe (.row ty sz (l.length + 1) (fun q => if q < l.length then F (l.getD q d) else [F x].getD (q - l.length) [])) (.row ty sz (l ++ [x]).length (fun q => F ((l ++ [x]).getD q d))) := by
  refine objLe_rown (by simp) fun i hi => ?_
  by_cases h : i < l.length
  · simp only [h, if_true, List.getD_eq_getElem?_getD, List.getElem?_append_left h]
  · have : i = l.length := by omega
    subst this
    simp

section
variable {P : Program} {s : Slots} {h : AH} {G : Bool} {x : AV}

theorem k_move {y : Operand} (hx : ev s y = x) : aop0 P (.move y) (ev s) G x := hx.symm
theorem k_assign {y : Operand} (hx : ev s y = x) : aop0 P (.assign y) (ev s) G x := hx.symm
theorem k_pick {c y z : Operand} {u v w : AV} {b p q r : Bool} (h1 : ev s c = u) (h2 : ev s y = v) (h3 : ev s z = w) (e1 : u.strip = .bool b) (e2 : v.strip = .bool p) (e3 : w.strip = .bool q)
    (hw : G = true → u.wh = true ∧ (b = true → v.wh = true) ∧ (b = false → w.wh = true)) (hr : (bif b then p else q) = r) : aop0 P (.pick c y z) (ev s) G (.bool r) := by
  subst h1 h2 h3 hr
  exact ⟨b, p, q, e1, e2, e3, hw, rfl⟩
theorem k_bin {op : BinOp} {t t2 : TypeId} {y z : Operand} {u v : AV} {v1 v2 r : Value} (h1 : ev s y = u) (h2 : ev s z = v) (e1 : u.strip = .c (.raw v1)) (e2 : v.strip = .c (.raw v2)) (hb : bin op v1 v2 = some r)
    (hw : G = true → u.wh = true ∧ v.wh = true) : aop0 P (.binOp op t y z t2) (ev s) G (.c (.raw r)) := by
  subst h1 h2
  show match (ev s y).strip with
      | .c (.raw v1) => ∃ v2 v, (ev s z).strip = .c (.raw v2) ∧ bin op v1 v2 = some v ∧ (G = true → (ev s y).wh = true ∧ (ev s z).wh = true) ∧ AV.c (CV.raw r) = .c (.raw v)
      | q => ∃ us vs v, q.rawAgg = some us ∧ (ev s z).strip.rawAgg = some vs ∧ AggBin P op t us vs v ∧ (G = true → (ev s y).wh = true ∧ (ev s z).wh = true) ∧ AV.c (CV.raw r) = .c (.raw v)
  rw [e1]
  exact ⟨v2, r, e2, hb, hw, rfl⟩
theorem k_binA {op : BinOp} {t t2 : TypeId} {y z : Operand} {u v : AV} {us vs : List Value} {r : Value} (h1 : ev s y = u) (h2 : ev s z = v) (e1 : u.strip.rawAgg = some us) (e2 : v.strip.rawAgg = some vs) (hb : AggBin P op t us vs r)
    (hw : G = true → u.wh = true ∧ v.wh = true) : aop0 P (.binOp op t y z t2) (ev s) G (.c (.raw r)) := by
  subst h1 h2
  show match (ev s y).strip with
      | .c (.raw v1) => ∃ v2 v, (ev s z).strip = .c (.raw v2) ∧ bin op v1 v2 = some v ∧ (G = true → (ev s y).wh = true ∧ (ev s z).wh = true) ∧ AV.c (CV.raw r) = .c (.raw v)
      | q => ∃ us vs v, q.rawAgg = some us ∧ (ev s z).strip.rawAgg = some vs ∧ AggBin P op t us vs v ∧ (G = true → (ev s y).wh = true ∧ (ev s z).wh = true) ∧ AV.c (CV.raw r) = .c (.raw v)
  split
  · rename_i v1 h1
    rw [h1] at e1
    simp [AV.rawAgg] at e1
  · exact ⟨us, vs, r, e1, e2, hb, hw, rfl⟩
theorem k_not {t : TypeId} {y : Operand} {u : AV} {b r : Bool} (h1 : ev s y = u) (e1 : u.strip = .bool b) (hw : G = true → u.wh = true) (hr : (!b) = r) : aop0 P (.unOp .not t y) (ev s) G (.bool r) := by
  subst h1 hr
  exact ⟨b, e1, hw, rfl⟩
theorem k_neg {t : TypeId} {y : Operand} {u : AV} {k : IntKind} {n r : Int} (h1 : ev s y = u) (e1 : u.strip = .c (.raw (.int k n))) (hw : G = true → u.wh = true) (hr : k.wrap (0 - n) = r) : aop0 P (.unOp .neg t y) (ev s) G (.c (.raw (.int k r))) := by
  subst h1 hr
  exact ⟨k, n, e1, hw, rfl⟩
theorem k_field {t : TypeId} {y : Operand} {f : Nat} {u : AV} {i : TI} {off sz : Nat} (h1 : ev s y = u) (ht : tinfo P t = some i) (hf : i.fields[f]? = some (off, sz)) (hz : (sz == 0) = false) (hx : addOff off u.strip = some x) (hw : G = true → u.wh = true) :
    aop0 P (.fieldAddr t y f) (ev s) G x := by
  subst h1
  exact ⟨i, off, sz, ht, hf, by simpa using hz, hx, hw⟩
theorem k_extract {y : Operand} {j : Nat} {u : AV} {xs : List CV} {c : CV} (h1 : ev s y = u) (e1 : u.strip = .c (.tup xs)) (hw : G = true → u.wh = true) (hl : (decide (j < xs.length)) = true) (hx : xs.getD j .any = c) : aop0 P (.extract y j) (ev s) G (.c c) := by
  subst h1 hx
  exact ⟨xs, e1, fun g => ⟨hw g, by simpa using hl⟩, rfl⟩
theorem k_build {t : TypeId} {parts : Array (Nat × Operand)} {i : TI} {ps : List (Nat × AV)} {cs : List AV} (ht : tinfo P t = some i) (h1 : i.agg = true) (h2 : i.zero.isEmpty = false) (h3 : i.fields.isEmpty = false) (h4 : (i.fields.all fun p => p.2 != 0) = true)
    (hp : (parts.toList.map fun p => (p.1, ev s p.2)) = ps) (hf : bfill i.fields (i.zero.map constAV1) (ps.map fun p => (p.1, p.2.strip)) = some cs) (hw : G = true → (ps.all fun p => p.2.wh) = true) : aop0 P (.build t parts) (ev s) G (.agg cs) := by
  subst hp
  refine ⟨i, cs, ht, h1, ?_, ?_, ?_, ?_, ?_, rfl⟩
  · intro e; simp [e] at h2
  · intro e; simp [e] at h3
  · intro p hp
    rw [List.all_eq_true] at h4
    have := h4 p hp
    simpa using this
  · rw [List.map_map] at hf
    exact hf
  · intro g p hp
    have := hw g
    rw [List.all_eq_true] at this
    exact this (p.1, ev s p.2) (List.mem_map_of_mem (f := fun p => (p.1, ev s p.2)) hp)
theorem k_slice0 {t : TypeId} {i : TI} {j : TI} (ht : tinfo P t = some i) (h1 : i.slice = true) (hj : tinfo P i.elem = some j) : aop0 P (.buildSlice t 0 #[]) (ev s) G .emp := by
  refine ⟨i, j, [], ht, h1, hj, rfl, by simp, rfl, .inl rfl, ?_, rfl⟩
  intro _ p hp
  simp at hp
theorem k_sliceN {t : TypeId} {n : Nat} {parts : Array (Nat × Operand)} {i j : TI} {l : List (List CV)} (ht : tinfo P t = some i) (h1 : i.slice = true) (hj : tinfo P i.elem = some j) (hn : n = parts.size) (h0 : (n == 0) = false) (hz : j.zero.isEmpty = false) (hb : decide (n * j.size ≤ 2 ^ 24) = true)
    (hp : partsC (ev s) parts.toList 0 j.size = some l) (hw : G = true → ∀ p ∈ parts.toList, (ev s p.2).wh = true) : aop0 P (.buildSlice t n parts) (ev s) G (.c (.im j.size n fun i => l.getD i [])) := by
  have h0' : n ≠ 0 := by simpa using h0
  refine ⟨i, j, l, ht, h1, hj, hn, by simpa using hb, hp, .inr ?_, hw, by rw [if_neg h0']⟩
  intro e; simp [e] at hz
theorem k_convert {t t2 : TypeId} {y : Operand} {u : AV} {d : TypeDesc} {k k' : IntKind} {n r : Int} (h1 : ev s y = u) (hd : P.underlying t = some d) (ht : P.underlying t2 = some (.int k)) (e1 : u.strip = .c (.raw (.int k' n))) (hw : G = true → u.wh = true) (hr : k.wrap n = r) :
    aop0 P (.convert t t2 y) (ev s) G (.c (.raw (.int k r))) := by
  subst h1 hr
  exact ⟨k, k', n, ⟨d, hd⟩, ht, e1, hw, rfl⟩

/-! Loads. -/
def loadM (h : AH) (i : TI) (G : Bool) (u x : AV) : Prop :=
  match u with
  | .pim xs => (G = true → i.size ≤ xs.length) ∧ x = loadC i xs
  | .ptr o off => ∃ ty cells, h o = .box ty cells ∧ (G = true → off + i.size ≤ cells.length) ∧ x = loadA i (cells.drop off)
  | .rp o L k off => ∃ ty sz n f, h o = .row ty sz n f ∧ (G = true → L = n ∧ k < n ∧ off + i.size ≤ sz) ∧ x = loadC i ((f k).drop off)
  | _ => False
theorem k_load {t : TypeId} {y : Operand} {u : AV} {i : TI} (h1 : ev s y = u) (ht : tinfo P t = some i) (hs : (i.agg || i.size == 1) = true) (hw : G = true → u.wh = true) (hx : loadM h i G u.strip x) : aop1 P (.load t y) (ev s) h G x := by
  subst h1
  exact ⟨i, ht, fun e => by simpa [e] using hs, hw, hx⟩
theorem lm_ptr {o off : Nat} {i : TI} {ty : TypeId} {cells : List AV} (hb : h o = .box ty cells) (hx : loadA i (cells.drop off) = x) (hl : G = true → off + i.size ≤ cells.length) : loadM h i G (.ptr o off) x := ⟨ty, cells, hb, hl, hx.symm⟩
theorem lm_pim {xs : List CV} {i : TI} (hx : loadC i xs = x) (hl : G = true → i.size ≤ xs.length) : loadM h i G (.pim xs) x := ⟨hl, hx.symm⟩
theorem lm_rp {o L k off : Nat} {i : TI} {ty : TypeId} {sz n : Nat} {f : Nat → List CV} (hb : h o = .row ty sz n f) (hx : loadC i ((f k).drop off) = x) (hl : G = true → L = n ∧ k < n ∧ off + i.size ≤ sz) : loadM h i G (.rp o L k off) x := ⟨ty, sz, n, f, hb, hl, hx.symm⟩

/-! Lengths. -/
def lenM (P : Program) (h : AH) (t : TypeId) (G : Bool) (u x : AV) : Prop :=
  match u with
  | .c (.im _ n _) => (∃ el, P.underlying t = some (.slice el)) ∧ x = .int n
  | .own o L => (∃ el, P.underlying t = some (.slice el)) ∧ ∃ ty sz n f, h o = .row ty sz n f ∧ (G = true → L = n) ∧ x = .int L
  | .osub o L _ k => (∃ el, P.underlying t = some (.slice el)) ∧ ∃ ty sz n f, h o = .row ty sz n f ∧ (G = true → L = n) ∧ x = .int k
  | .emp => (∃ el, P.underlying t = some (.slice el)) ∧ x = .int 0
  | .c (.raw (.string s)) => P.underlying t = some .string ∧ x = .int s.size
  | _ => False
theorem k_len {y : Operand} {t : TypeId} {u : AV} (h1 : ev s y = u) (hw : G = true → u.wh = true) (hx : lenM P h t G u.strip x) : aop1 P (.call { callee := .builtin .len, args := #[y], argTypes := #[t] }) (ev s) h G x := by
  subst h1
  exact ⟨y, t, rfl, rfl, hw, hx⟩
theorem nm_im {sz n : Nat} {f : Nat → List CV} {t el : TypeId} (hu : P.underlying t = some (.slice el)) : lenM P h t G (.c (.im sz n f)) (.int n) := ⟨⟨el, hu⟩, rfl⟩
theorem nm_emp {t el : TypeId} (hu : P.underlying t = some (.slice el)) : lenM P h t G .emp (.int 0) := ⟨⟨el, hu⟩, rfl⟩
theorem nm_own {o L : Nat} {t el : TypeId} {ty : TypeId} {sz n : Nat} {f : Nat → List CV} (hu : P.underlying t = some (.slice el)) (hb : h o = .row ty sz n f) (hl : G = true → L = n) : lenM P h t G (.own o L) (.int L) := ⟨⟨el, hu⟩, ty, sz, n, f, hb, hl, rfl⟩
theorem nm_osub {o L off k : Nat} {t el : TypeId} {ty : TypeId} {sz n : Nat} {f : Nat → List CV} (hu : P.underlying t = some (.slice el)) (hb : h o = .row ty sz n f) (hl : G = true → L = n) : lenM P h t G (.osub o L off k) (.int k) := ⟨⟨el, hu⟩, ty, sz, n, f, hb, hl, rfl⟩
theorem nm_str {b : ByteArray} {t : TypeId} (hu : P.underlying t = some .string) : lenM P h t G (.c (.raw (.string b))) (.int b.size) := ⟨hu, rfl⟩

/-! Addresses of elements. -/
def idxM (h : AH) (j : TI) (n : Int) (G : Bool) (u x : AV) : Prop :=
  match u with
  | .c (.im sz m f) => (G = true → sz = j.size ∧ 0 ≤ n ∧ n < m) ∧ x = .pim (f n.toNat)
  | .own o L => ∃ ty sz m f, h o = .row ty sz m f ∧ (G = true → L = m ∧ sz = j.size ∧ 0 ≤ n ∧ n < m) ∧ x = .rp o L n.toNat 0
  | .osub o L off q => ∃ ty sz m f, h o = .row ty sz m f ∧ (G = true → L = m ∧ sz = j.size ∧ 0 ≤ n ∧ n < q) ∧ x = .rp o L (off + n.toNat) 0
  | _ => False
theorem k_index {t : TypeId} {y z : Operand} {u v : AV} {i j : TI} {k : IntKind} {n : Int} (h1 : ev s y = u) (h2 : ev s z = v) (ht : tinfo P t = some i) (hs : i.slice = true) (hj : tinfo P i.elem = some j) (e2 : v.strip = .c (.raw (.int k n))) (hw : G = true → u.wh = true ∧ v.wh = true) (hx : idxM h j n G u.strip x) :
    aop1 P (.indexAddr t y z) (ev s) h G x := by
  subst h1 h2
  exact ⟨i, j, k, n, ht, hs, hj, e2, hw, hx⟩
theorem im_im {sz m : Nat} {f : Nat → List CV} {j : TI} {n : Int} {c : List CV} (hx : f n.toNat = c) (hl : G = true → sz = j.size ∧ 0 ≤ n ∧ n < m) : idxM h j n G (.c (.im sz m f)) (.pim c) := ⟨hl, by rw [hx]⟩
theorem im_own {o L k : Nat} {j : TI} {n : Int} {ty : TypeId} {sz m : Nat} {f : Nat → List CV} (hb : h o = .row ty sz m f) (hk : n.toNat = k) (hl : G = true → L = m ∧ sz = j.size ∧ 0 ≤ n ∧ n < m) : idxM h j n G (.own o L) (.rp o L k 0) := ⟨ty, sz, m, f, hb, hl, by rw [hk]⟩
theorem im_osub {o L off q k : Nat} {j : TI} {n : Int} {ty : TypeId} {sz m : Nat} {f : Nat → List CV} (hb : h o = .row ty sz m f) (hk : off + n.toNat = k) (hl : G = true → L = m ∧ sz = j.size ∧ 0 ≤ n ∧ n < q) : idxM h j n G (.osub o L off q) (.rp o L k 0) := ⟨ty, sz, m, f, hb, hl, by rw [hk]⟩

/-! Slices of slices. -/
def bndOf (s : Slots) : Option Operand → Option AV
  | none => none
  | some z => some (ev s z)
def bnd (G : Bool) (d l : Nat) : Option AV → Prop
  | none => l = d
  | some v => (G = true → v.wh = true) ∧ ∃ k, v.strip = .c (.raw (.int k l))
theorem bd_no {d : Nat} : bnd G d d none := rfl
theorem bd_yes {d l : Nat} {v : AV} {k : IntKind} {n : Int} (hv : v.strip = .c (.raw (.int k n))) (hn : n = (l : Nat)) (hw : G = true → v.wh = true) : bnd G d l (some v) := ⟨hw, k, by rw [hv, hn]⟩
theorem bd_one {d : Nat} : bnd G d 1 (some (.c (.raw (.int .i64 1)))) := ⟨fun _ => rfl, .i64, rfl⟩
theorem bd_nat {d l : Nat} : bnd G d l (some (.c (.raw (.int .i64 (l : Nat))))) := ⟨fun _ => rfl, .i64, rfl⟩
theorem k_sl_im {t : TypeId} {y : Operand} {lo hi : Option Operand} {u : AV} {L H : Option AV} {sz n l hh : Nat} {f : Nat → List CV} {i j : TI} (h1 : ev s y = u) (e1 : u.strip = .c (.im sz n f)) (h2 : bndOf s lo = L) (h3 : bndOf s hi = H) (ht : tinfo P t = some i) (hs : i.slice = true) (hj : tinfo P i.elem = some j)
    (b1 : bnd G 0 l L) (b2 : bnd G n hh H) (hw : G = true → u.wh = true) (hl : G = true → l ≤ hh ∧ sz = j.size ∧ hh ≤ n) : aop1 P (.slice t y lo hi none) (ev s) h G (.c (.im sz (hh - l) fun q => f (l + q))) := by
  subst h1 h2 h3
  refine ⟨l, hh, ?_, ?_, ?_, fun g => ⟨hw g, (hl g).1⟩, ?_⟩
  · intro z e; subst e; exact b1
  · intro e; subst e; exact b1
  · intro z e; subst e; exact b2
  · rw [e1]
    exact ⟨⟨i, j, ht, hs, hj, fun g => (hl g).2⟩, fun e => by subst e; exact b2, rfl⟩
theorem k_sl_own {t : TypeId} {y : Operand} {lo hi : Option Operand} {u : AV} {L H : Option AV} {o M : Nat} {ty : TypeId} {sz n l hh : Nat} {f : Nat → List CV} {i j : TI} (h1 : ev s y = u) (e1 : u.strip = .own o M) (hb : h o = .row ty sz n f) (h2 : bndOf s lo = L) (h3 : bndOf s hi = H) (ht : tinfo P t = some i) (hs : i.slice = true) (hj : tinfo P i.elem = some j)
    (b1 : bnd G 0 l L) (b2 : bnd G n hh H) (hw : G = true → u.wh = true) (hl : G = true → l ≤ hh ∧ M = n ∧ sz = j.size ∧ hh ≤ n) : aop1 P (.slice t y lo hi none) (ev s) h G (.osub o M l (hh - l)) := by
  subst h1 h2 h3
  refine ⟨l, hh, ?_, ?_, ?_, fun g => ⟨hw g, (hl g).1⟩, ?_⟩
  · intro z e; subst e; exact b1
  · intro e; subst e; exact b1
  · intro z e; subst e; exact b2
  · rw [e1]
    exact ⟨ty, sz, n, f, hb, ⟨i, j, ht, hs, hj, fun g => (hl g).2.2⟩, fun g => (hl g).2.1, fun e => by subst e; exact b2, rfl⟩

/-! A call by its contract. -/
theorem k_call {f : FuncId} {args : Array Operand} {ats : Array TypeId} {us : List AV} {vs cs : List CV} {r : CV} (h1 : args.toList.map (ev s) = us) (h2 : (us.all fun u => u.strip.live h) = true) (h3 : (us.map fun u => u.strip.view h) = vs) (hw : G = true → (us.all AV.wh) = true)
    (hc : (r.flat || us.all fun u => u.strip.closedA) = true) (hs : Subs vs cs) (hp : G = true → APure P f cs r) : aop1 P (.call { callee := .value (.func f), args := args, argTypes := ats }) (ev s) h G (.c r) := by
  subst h1 h3
  rw [List.map_map] at hs
  refine ⟨cs, r, ?_, hs, ?_, hp, ?_, rfl⟩
  · intro y hy
    rw [List.all_eq_true] at h2
    exact h2 _ (List.mem_map_of_mem hy)
  · intro g y hy
    have := hw g
    rw [List.all_eq_true] at this
    exact this _ (List.mem_map_of_mem hy)
  · rw [Bool.or_eq_true] at hc
    rcases hc with hc | hc
    · exact .inl hc
    · refine .inr fun y hy => ?_
      rw [List.all_eq_true] at hc
      exact hc _ (List.mem_map_of_mem hy)

/-! Writes. -/
theorem k_store_ptr {t : TypeId} {y z : Operand} {u v : AV} {i : TI} {o off : Nat} {ty : TypeId} {cells l cells' : List AV} (h1 : ev s y = u) (h2 : ev s z = v) (ht : tinfo P t = some i) (w1 : u.wh = true) (w2 : v.wh = true) (e1 : u.strip = .ptr o off) (hb : h o = .box ty cells) (hl : v.strip.cells = some l) (hn : l.length = i.size)
    (hx : setL cells off l = cells') (hle : off + i.size ≤ cells.length) : aop2 P (.store t y z) (ev s) h none o (.box ty cells') x := by
  subst h1 h2
  refine ⟨rfl, i, ht, w1, w2, ?_⟩
  rw [e1]
  exact ⟨rfl, ty, cells, l, hb, hl, hn, hle, by rw [hx]⟩
theorem k_store_rp {t : TypeId} {y z : Operand} {u v : AV} {i : TI} {o L k off : Nat} {ty : TypeId} {sz n : Nat} {f : Nat → List CV} {l : List CV} (h1 : ev s y = u) (h2 : ev s z = v) (ht : tinfo P t = some i) (w1 : u.wh = true) (w2 : v.wh = true) (e1 : u.strip = .rp o L k off) (hb : h o = .row ty sz n f) (hl : v.strip.closedCells = some l) (hn : l.length = i.size)
    (hle : L = n ∧ k < n ∧ off + i.size ≤ sz) : aop2 P (.store t y z) (ev s) h none o (.row ty sz n (upd f k (setLC (f k) off l))) x := by
  subst h1 h2
  refine ⟨rfl, i, ht, w1, w2, ?_⟩
  rw [e1]
  exact ⟨rfl, ty, sz, n, f, l, hb, hle.1, hle.2.1, hl, hn, hle.2.2, rfl⟩
theorem k_app_own {y z : Operand} {t : TypeId} {u v : AV} {i j : TI} {sz m n o L : Nat} {g f : Nat → List CV} {ty : TypeId} {d : Option Tmp} (h1 : ev s y = u) (h2 : ev s z = v) (ht : tinfo P t = some i) (hsl : i.slice = true) (hj : tinfo P i.elem = some j) (hz : (decide (0 < j.size) && j.zero.length == j.size) = true)
    (w1 : u.wh = true) (w2 : v.wh = true) (hsrc : srcOf h v.strip = some (sz, m, g)) (e1 : u.strip = .own o L) (hb : h o = .row ty j.size n f) (hc : (m = 0 ∨ sz = j.size) ∧ ty = i.elem ∧ L = n) (hle : n + m ≤ maxLen ∧ (n + m) * j.bytes ≤ 140737488355328) :
    aop2 P (.call { callee := .builtin .append, args := #[y, z], argTypes := #[t, t] }) (ev s) h d o (.row ty j.size (n + m) (fun q => if q < n then f q else g (q - n))) (.own o (n + m)) := by
  subst h1 h2
  rw [Bool.and_eq_true, decide_eq_true_eq, beq_iff_eq] at hz
  refine ⟨y, z, t, i, j, sz, m, g, rfl, rfl, ht, hsl, hj, hz.1, hz.2, w1, w2, hsrc, hc.1, ?_⟩
  rw [e1]
  exact ⟨rfl, ty, n, f, hb, hc.2.1, hc.2.2, hle.1, hle.2, rfl, rfl⟩
theorem k_app_emp {y z : Operand} {t : TypeId} {u v : AV} {i j : TI} {sz m d : Nat} {g : Nat → List CV} (h1 : ev s y = u) (h2 : ev s z = v) (ht : tinfo P t = some i) (hsl : i.slice = true) (hj : tinfo P i.elem = some j) (hz : (decide (0 < j.size) && j.zero.length == j.size) = true)
    (w1 : u.wh = true) (w2 : v.wh = true) (hsrc : srcOf h v.strip = some (sz, m, g)) (e1 : u.strip = .emp) (hgo : h d = .gone) (hc : m = 0 ∨ sz = j.size) (hle : m ≤ maxLen ∧ m * j.bytes ≤ 140737488355328) :
    aop2 P (.call { callee := .builtin .append, args := #[y, z], argTypes := #[t, t] }) (ev s) h (some d) d (.row i.elem j.size m g) (.own d m) := by
  subst h1 h2
  rw [Bool.and_eq_true, decide_eq_true_eq, beq_iff_eq] at hz
  refine ⟨y, z, t, i, j, sz, m, g, rfl, rfl, ht, hsl, hj, hz.1, hz.2, w1, w2, hsrc, hc, ?_⟩
  rw [e1]
  exact ⟨rfl, hgo, hle.1, hle.2, rfl, rfl⟩
theorem k_copy_own {y z : Operand} {t t2 : TypeId} {u v : AV} {i j : TI} {sz m n o L : Nat} {g f : Nat → List CV} {ty : TypeId} {d : Option Tmp} (h1 : ev s y = u) (h2 : ev s z = v) (ht : tinfo P t = some i) (hsl : i.slice = true) (hj : tinfo P i.elem = some j)
    (w1 : u.wh = true) (w2 : v.wh = true) (hsrc : srcOf h v.strip = some (sz, m, g)) (e1 : u.strip = .own o L) (hb : h o = .row ty j.size n f) (hc : (m = 0 ∨ sz = j.size) ∧ L = n) :
    aop2 P (.call { callee := .builtin .copy, args := #[y, z], argTypes := #[t, t2] }) (ev s) h d o (.row ty j.size n (fun q => if q < Nat.min m n then g q else f q)) (.int (Nat.min m n : Nat)) := by
  subst h1 h2
  refine ⟨y, z, t, t2, i, j, sz, m, g, rfl, rfl, ht, hsl, hj, w1, w2, hsrc, hc.1, ?_⟩
  rw [e1]
  exact ⟨rfl, ty, n, f, hb, hc.2, rfl, rfl⟩
theorem k_copy_osub {y z : Operand} {t t2 : TypeId} {u v : AV} {i j : TI} {sz m n o L off k : Nat} {g f : Nat → List CV} {ty : TypeId} {d : Option Tmp} (h1 : ev s y = u) (h2 : ev s z = v) (ht : tinfo P t = some i) (hsl : i.slice = true) (hj : tinfo P i.elem = some j)
    (w1 : u.wh = true) (w2 : v.wh = true) (hsrc : srcOf h v.strip = some (sz, m, g)) (e1 : u.strip = .osub o L off k) (hb : h o = .row ty j.size n f) (hc : (m = 0 ∨ sz = j.size) ∧ L = n) :
    aop2 P (.call { callee := .builtin .copy, args := #[y, z], argTypes := #[t, t2] }) (ev s) h d o (.row ty j.size n (fun q => if off ≤ q ∧ q < off + Nat.min m k then g (q - off) else f q)) (.int (Nat.min m k : Nat)) := by
  subst h1 h2
  refine ⟨y, z, t, t2, i, j, sz, m, g, rfl, rfl, ht, hsl, hj, w1, w2, hsrc, hc.1, ?_⟩
  rw [e1]
  exact ⟨rfl, ty, n, f, hb, hc.2, rfl, rfl⟩

/-! New objects. -/
theorem k_box {t : TypeId} {y : Operand} {u : AV} {d : Nat} {l : List AV} (h1 : ev s y = u) (w1 : u.wh = true) (hl : u.strip.cells = some l) : aop3 P (.box t y) (ev s) d (.box t l) (.ptr d 0) := by
  subst h1
  exact ⟨l, w1, hl, rfl, rfl⟩
theorem k_alloc {t : TypeId} {d : Nat} {i : TI} {l : List AV} (ht : tinfo P t = some i) (hz : i.zero.isEmpty = false) (hl : i.zero.map constAV1 = l) : aop3 P (.alloc t) (ev s) d (.box t l) (.ptr d 0) := by
  subst hl
  exact ⟨i, ht, fun e => by simp [e] at hz, rfl, rfl⟩
theorem k_make {t : TypeId} {y z : Operand} {u v : AV} {i j : TI} {k1 k2 : IntKind} {n n' : Int} {m d : Nat} {c : List CV} (h1 : ev s y = u) (h2 : ev s z = v) (ht : tinfo P t = some i) (hsl : i.slice = true) (hj : tinfo P i.elem = some j) (hz : (decide (0 < j.size) && j.zero.length == j.size) = true) (w1 : u.wh = true) (w2 : v.wh = true)
    (e1 : u.strip = .c (.raw (.int k1 n))) (e2 : v.strip = .c (.raw (.int k2 n'))) (hc : (j.zero.map fun v => (constAV1 v).closed1.getD .any) = c) (hn : n = n' ∧ n = (m : Nat) ∧ n ≤ 9223372036854775807 ∧ j.bytes * n ≤ 281474976710656) :
    aop3 P (.makeSlice t y z) (ev s) d (.row i.elem j.size m fun _ => c) (.own d m) := by
  subst h1 h2 hc
  obtain ⟨rfl, rfl, h3, h4⟩ := hn
  rw [Bool.and_eq_true, decide_eq_true_eq, beq_iff_eq] at hz
  exact ⟨i, j, k1, k2, m, ht, hsl, hj, hz.2, hz.1, w1, w2, e1, e2, by omega, h3, h4, by simp, by simp⟩
end

theorem cond_and (b p : Bool) : (bif b then p else false) = (b && p) := by cases b <;> rfl
theorem cond_or (b p : Bool) : (bif b then true else p) = (b || p) := by cases b <;> rfl

attribute [go_sem] List.set_cons_zero List.set_cons_succ frzS_apply frzH_apply frz_c frz_ptr frz_emp frz_own frz_agg frz_box frz_row Bool.and_false Bool.false_and Bool.or_false Bool.false_or Bool.or_true Bool.true_or ofL_nil ofH_nil bndOf AV.one cond_and cond_or List.cons_append List.nil_append List.append_nil bfill partsC AV.closedCells srcOf
attribute [go_sem] ne_eq not_false_eq_true not_true_eq_false true_and and_true forall_const imp_self implies_true Bool.true_and Bool.and_true Bool.false_eq_true false_implies List.getElem?_cons_zero List.getElem?_cons_succ List.drop_zero List.drop_succ_cons
attribute [go_sem] List.length_cons List.length_nil List.headD_cons List.take_succ_cons List.take_zero List.map_cons List.map_nil Nat.add_zero Nat.zero_add List.all_cons List.all_nil Bool.and_self or_self Int.toNat_natCast decide_eq_true_eq List.getElem?_toArray Option.bind_some List.getD_cons_zero List.getD_cons_succ List.toList_toArray
attribute [go_sem] List.mem_cons List.not_mem_nil or_false false_or or_true true_or forall_eq_or_imp forall_eq eq_self and_self
end Go.Am
