/- The abstract machine, part 13: an empty slice becomes a row of the frame's own; a row of the frame's own becomes immutable. Generic over the program; no condition. -/
import Derived.Test.YtfepiaclbokkjaaAmC
namespace Go.Am
open Go.RowKit

section
variable {w0 w : World} {Z : Nat → Prop} {nt : Nat} {s : Slots} {h : AH} {gs : Gs} {a : Act}

theorem RelG.virt (R : RelG w0 Z nt s h gs a w) (o : Nat) (ho : h o = .gone) (ty : TypeId) (sz : Nat) (f : Nat → List CV) : RelG w0 Z nt s (upd h o (.row ty sz 0 f)) gs a w := by
  have hgo : gs o = none := by have := R.objs o; rw [ho] at this; exact this
  have e : upd gs o none = gs := funext fun i => by unfold upd; split <;> simp_all
  have := R.eff (w' := w) o (.row ty sz 0 f) none rfl rfl rfl (Nat.le_refl _) (fun _ _ _ => rfl) (.inl hgo.symm) (fun ty cells e => by rw [ho] at e; cases e) (fun ty sz n f e => by rw [ho] at e; cases e) fun _ _ => .inl ⟨upd_same _ _ _, rfl⟩
  rw [e] at this
  exact this

theorem RA.emp_own {Z : Nat → Prop} {v : Value} {o : Nat} {ty : TypeId} {sz : Nat} {f : Nat → List CV} (hx : RA w Z h gs v .emp) (ho : h o = .row ty sz 0 f) (hg : gs o = none) : RA w Z h gs v (.own o 0) := by
  cases hx with
  | emp A => exact .own A 0 0 o 0 ty sz 0 f ho (Nat.le_refl _) fun _ => .inr ⟨hg, rfl, rfl⟩

/-- An empty slice in a slot. -/
theorem weak_adopt (t o : Nat) (ty : TypeId) (sz : Nat) (f : Nat → List CV) (hs : s t = .emp) (ho : h o = .gone) : Weak s h (upd s t (.own o 0)) (upd h o (.row ty sz 0 f)) := by
  intro w0 Z nt a w ⟨gs, R⟩
  have hgo : gs o = none := by have := R.objs o; rw [ho] at this; exact this
  have R' := R.virt o ho ty sz f
  refine ⟨gs, { R' with slots := fun t' => ?_ }⟩
  rw [upd_apply]
  split
  · rename_i e
    subst e
    have := R'.slots t'
    rw [hs] at this
    exact this.emp_own (upd_same _ _ _) hgo
  · exact R'.slots t'

/-- An empty slice in a variable's cell. -/
theorem weak_adoptB (b k o : Nat) (tb : TypeId) (cells : List AV) (ty : TypeId) (sz : Nat) (f : Nat → List CV) (hb : h b = .box tb cells) (hk : cells.getD k default = .emp) (ho : h o = .gone) :
    Weak s h s (upd (upd h o (.row ty sz 0 f)) b (.box tb (cells.set k (.own o 0)))) := by
  intro w0 Z nt a w ⟨gs, R⟩
  have hgo : gs o = none := by have := R.objs o; rw [ho] at this; exact this
  have hbo : b ≠ o := fun e => by subst e; rw [hb] at ho; cases ho
  have R' := R.virt o ho ty sz f
  have hb' : upd h o (.row ty sz 0 f) b = .box tb cells := by rw [upd_ne _ _ _ _ hbo]; exact hb
  refine ⟨gs, ?_⟩
  have e : upd gs b (gs b) = gs := funext fun i => by unfold upd; split <;> simp_all
  have := R'.eff (w' := w) b (.box tb (cells.set k (.own o 0))) (gs b) rfl rfl rfl (Nat.le_refl _) (fun _ _ _ => rfl) (.inl rfl) (fun ty cells e => ⟨⟨_, _, rfl⟩, rfl⟩) (fun ty sz n f e => by rw [hb'] at e; cases e) (fun hL hr => by
    have hob := R'.objs b
    rw [hb'] at hob
    rw [e] at hL hr ⊢
    obtain ⟨bb, K, cur, g1, g2, g3, g4, g5⟩ := hob
    refine ⟨bb, K, cur, g1, g2, by simpa using g3, fun j hj => g4 j (by simpa using hj), fun j hj => ?_⟩
    have hj' : j < cells.length := by simpa using hj
    by_cases hjk : j = k
    · subst hjk
      have h1 := (g5 j hj').later hL hr
      rw [hk] at h1
      rw [getD_lt hj, List.getElem_set_self]
      exact h1.emp_own (by rw [upd_ne _ _ _ _ (Ne.symm hbo), upd_same]) hgo
    · have h1 := (g5 j hj').later hL hr
      rw [getD_lt hj'] at h1
      rw [getD_lt hj, List.getElem_set_ne (Ne.symm hjk)]
      exact h1)
  rw [e] at this
  exact this

def AV.frz1 (o sz n : Nat) (f : Nat → List CV) : AV → AV
  | .own o' L => if o' = o then (if L = n then .c (.im sz n f) else .c .any) else .own o' L
  | .osub o' L off k => if o' = o then (if L = n then .c (.im sz k fun i => f (off + i)) else .c .any) else .osub o' L off k
  | .rp o' L i off => if o' = o then .c .any else .rp o' L i off
  | .when b x => .when b (x.frz1 o sz n f)
  | x => x
def AV.frz (o sz n : Nat) (f : Nat → List CV) : AV → AV
  | .agg xs => .agg (xs.map (AV.frz1 o sz n f))
  | .when b x => .when b (x.frz o sz n f)
  | x => x.frz1 o sz n f
def AObj.frz (o sz n : Nat) (f : Nat → List CV) : AObj → AObj
  | .box ty cells => .box ty (cells.map (AV.frz o sz n f))
  | x => x
def frzS (o sz n : Nat) (f : Nat → List CV) (s : Slots) : Slots := fun t => (s t).frz o sz n f
def frzH (o sz n : Nat) (f : Nat → List CV) (h : AH) : AH := fun q => if q = o then .gone else (h q).frz o sz n f

theorem RA.frz1_ok (R : RelG w0 Z nt s h gs a w) {o sz n : Nat} {ty : TypeId} {f : Nat → List CV} (ho : h o = .row ty sz n f) {v : Value} {x : AV} (hx : RA w (Zf Z gs) h gs v x) (hn : v.oneCell' = true) :
    RA w (Zf Z (upd gs o none)) (frzH o sz n f h) (upd gs o none) v (x.frz1 o sz n f) := by
  have hz : ∀ b, Zf Z (upd gs o none) b → Zf Z gs b := by
    intro b hb
    rcases hb with hb | ⟨o', K, hb⟩
    · exact .inl hb
    · rw [upd_apply] at hb
      split at hb
      · cases hb
      · exact .inr ⟨o', K, hb⟩
  have hl : Later w w (Zf Z gs) (Zf Z (upd gs o none)) := ⟨Nat.le_refl _, fun _ _ _ => rfl, fun b hb _ => hz b hb⟩
  have nz : ∀ b K, gs o = some (b, K) → ¬ Zf Z (upd gs o none) b := by
    intro b K e hb
    rcases hb with hb | ⟨o', K', hb⟩
    · have h1 := R.zlt b hb
      have h2 := (R.fresh o b K e).1
      omega
    · rw [upd_apply] at hb
      split at hb
      · cases hb
      · rename_i hne
        exact hne (R.inj o' o b K' K hb e)
  induction hx with
  | c v x hx => exact .c v x (hx.later hl)
  | agg cs xs hl' ho' hh => simp [Value.oneCell'] at hn
  | pim ad xs g hb hlt hc ho' hh => exact .pim ad xs g (fun hz' => hb (hz _ hz')) hlt hc ho' fun j hj => (hh j hj).later hl
  | ptr o' off b K ty' cells ho' hg =>
    have hne : o' ≠ o := fun e => by subst e; rw [ho] at ho'; cases ho'
    exact .ptr o' off b K ty' (cells.map (AV.frz o sz n f)) (by simp [frzH, hne, ho', AObj.frz]) (by rw [upd_ne _ _ _ _ hne]; exact hg)
  | rp ad o' L i off ty' sz' n' f' ho' hL hv =>
    simp only [AV.frz1]
    split
    · exact .c _ _ (.any _)
    · rename_i hne
      exact .rp ad o' L i off ty' sz' n' f' (by simp [frzH, hne, ho', AObj.frz]) hL (by rw [upd_ne _ _ _ _ hne]; exact hv)
  | own A k c o' L ty' sz' n' f' ho' hL hv =>
    simp only [AV.frz1]
    split
    · rename_i he
      subst he
      rw [ho] at ho'
      injection ho' with e1 e2 e3 e4
      subst e1; subst e2; subst e3; subst e4
      split
      · rename_i hLn
        have hob := R.objs o'
        rw [ho] at hob
        rcases hv hLn with ⟨b, K, g1, rfl, rfl, rfl⟩ | ⟨g1, rfl, rfl⟩
        · rcases hob with ⟨q1, q2⟩ | ⟨b', K', cur, q1, q2, q3, q4, q5, q6, q7, q8⟩
          · rw [g1] at q1; cases q1
          · rw [g1] at q1
            simp only [Option.some.injEq, Prod.mk.injEq] at q1
            obtain ⟨rfl, rfl⟩ := q1
            have hkc : k * sz ≤ c * sz := Nat.mul_le_mul_right _ q4
            refine .c _ _ (.im _ k c sz f (fun j => cur.getD j undef) (nz _ _ g1) (R.fresh _ _ _ g1).2 q4 (fun j hj => ?_) q7 q6 fun i j hi hj => (q8 i j hi hj).later hl)
            rw [addr_lit, Nat.zero_add]
            exact cell_of_heap q2 (by omega)
        · rcases hob with ⟨q1, rfl⟩ | ⟨b', K', cur, q1, _⟩
          · exact .c _ _ (.nul _ _ _ _)
          · rw [g1] at q1; cases q1
      · exact .c _ _ (.any _)
    · rename_i hne
      exact .own A k c o' L ty' sz' n' f' (by simp [frzH, hne, ho', AObj.frz]) hL (by rw [upd_ne _ _ _ _ hne]; exact hv)
  | osub A k' c o' L off k ty' sz' n' f' ho' hL hv =>
    simp only [AV.frz1]
    split
    · rename_i he
      subst he
      rw [ho] at ho'
      injection ho' with e1 e2 e3 e4
      subst e1; subst e2; subst e3; subst e4
      split
      · rename_i hLn
        have hob := R.objs o'
        rw [ho] at hob
        obtain ⟨v1, rfl, v3, v4⟩ := hv hLn
        rcases Nat.eq_zero_or_pos k' with h0 | h0
        · subst h0
          exact .c _ _ (.nul _ _ _ _)
        · obtain ⟨b, K, g1, rfl⟩ := v4 h0
          rcases hob with ⟨q1, q2⟩ | ⟨b', K', cur, q1, q2, q3, q4, q5, q6, q7, q8⟩
          · rw [g1] at q1; cases q1
          · rw [g1] at q1
            simp only [Option.some.injEq, Prod.mk.injEq] at q1
            obtain ⟨rfl, rfl⟩ := q1
            have hnK : n * sz ≤ K * sz := Nat.mul_le_mul_right _ q4
            have ho2 : off * sz + k' * sz ≤ n * sz := by rw [← Nat.add_mul]; exact Nat.mul_le_mul_right _ v1
            refine .c _ _ (.im _ k' c sz _ (fun j => cur.getD (off * sz + j) undef) (nz _ _ g1) (R.fresh _ _ _ g1).2 v3 (fun j hj => ?_) (fun j hj => q7 _ (by omega)) (fun i hi => q6 _ (by omega)) fun i j hi hj => ?_)
            · rw [addr_lit]
              exact cell_of_heap q2 (by omega)
            · have := q8 (off + i) j (by omega) hj
              rw [Nat.add_mul, Nat.add_assoc] at this
              exact this.later hl
      · exact .c _ _ (.any _)
    · rename_i hne
      exact .osub A k' c o' L off k ty' sz' n' f' (by simp [frzH, hne, ho', AObj.frz]) hL (by rw [upd_ne _ _ _ _ hne]; exact hv)
  | emp A => exact .emp A
  | when v b x _ hu ih => exact .when v b _ (fun e => ih e hn) hu

theorem RA.frz_ok (R : RelG w0 Z nt s h gs a w) {o sz n : Nat} {ty : TypeId} {f : Nat → List CV} (ho : h o = .row ty sz n f) {v : Value} {x : AV} (hx : RA w (Zf Z gs) h gs v x) :
    RA w (Zf Z (upd gs o none)) (frzH o sz n f h) (upd gs o none) v (x.frz o sz n f) := by
  induction hx with
  | agg cs xs hl' ho' hh _ =>
    refine .agg cs _ (by simpa using hl') (fun i hi => ho' i (by simpa using hi)) fun i hi => ?_
    have hi' : i < xs.length := by simpa using hi
    have := (hh i hi').frz1_ok R ho (ho' i hi')
    rw [getD_lt hi'] at this
    rw [getD_lt hi, List.getElem_map]
    exact this
  | when v b x _ hu ih => exact .when v b _ (fun e => ih e) hu
  | c v x hx =>
    have hl : Later w w (Zf Z gs) (Zf Z (upd gs o none)) := ⟨Nat.le_refl _, fun _ _ _ => rfl, fun b hb _ => by
      rcases hb with hb | ⟨o', K, hb⟩
      · exact .inl hb
      · rw [upd_apply] at hb
        split at hb
        · cases hb
        · exact .inr ⟨o', K, hb⟩⟩
    exact .c v x (hx.later hl)
  | pim ad xs g hb hlt hc ho' hh => exact (RA.pim (gs := gs) (h := h) ad xs g hb hlt hc ho' hh).frz1_ok R ho rfl
  | ptr o' off b K ty cells ho' hg => exact (RA.ptr (w := w) (Z := Zf Z gs) o' off b K ty cells ho' hg).frz1_ok R ho rfl
  | rp ad o' L i off ty sz n f ho' hL hv => exact (RA.rp (w := w) (Z := Zf Z gs) ad o' L i off ty sz n f ho' hL hv).frz1_ok R ho rfl
  | own A k c o' L ty sz n f ho' hL hv => exact (RA.own (w := w) (Z := Zf Z gs) A k c o' L ty sz n f ho' hL hv).frz1_ok R ho rfl
  | osub A k' c o' L off k ty sz n f ho' hL hv => exact (RA.osub (w := w) (Z := Zf Z gs) A k' c o' L off k ty sz n f ho' hL hv).frz1_ok R ho rfl
  | emp A => exact .emp A

/-- A row of the frame's own becomes immutable. -/
theorem weak_freeze (o : Nat) (ty : TypeId) (sz n : Nat) (f : Nat → List CV) (ho : h o = .row ty sz n f) : Weak s h (frzS o sz n f s) (frzH o sz n f h) := by
  intro w0 Z nt a w ⟨gs, R⟩
  have hz : ∀ b, Zf Z (upd gs o none) b → Zf Z gs b := by
    intro b hb
    rcases hb with hb | ⟨o', K, hb⟩
    · exact .inl hb
    · rw [upd_apply] at hb
      split at hb
      · cases hb
      · exact .inr ⟨o', K, hb⟩
  have hl : Later w w (Zf Z gs) (Zf Z (upd gs o none)) := ⟨Nat.le_refl _, fun _ _ _ => rfl, fun b hb _ => hz b hb⟩
  have sub : ∀ o' b K', upd gs o none o' = some (b, K') → gs o' = some (b, K') := fun o' b K' e => by
    rw [upd_apply] at e
    split at e
    · cases e
    · exact e
  refine ⟨upd gs o none, R.below, R.zlt, fun o' b K e => R.fresh o' b K (sub _ _ _ e), fun o1 o2 b K1 K2 e1 e2 => R.inj o1 o2 b K1 K2 (sub _ _ _ e1) (sub _ _ _ e2), fun q => ?_, fun t => (R.slots t).frz_ok R ho, R.size, R.defers⟩
  by_cases hq : q = o
  · subst hq
    simp only [frzH, if_true]
    exact upd_same _ _ _
  · have hob := R.objs q
    have e1 : frzH o sz n f h q = (h q).frz o sz n f := by simp [frzH, hq]
    have e2 : upd gs o none q = gs q := upd_ne _ _ _ _ hq
    rw [e1]
    cases hx : h q with
    | gone =>
      rw [hx] at hob
      exact e2.trans hob
    | box ty' cells =>
      rw [hx] at hob
      obtain ⟨b, K', cur, g1, g2, g3, g4, g5⟩ := hob
      refine ⟨b, K', cur, e2.trans g1, g2, by simpa using g3, fun j hj => g4 j (by simpa using hj), fun j hj => ?_⟩
      have hj' : j < cells.length := by simpa using hj
      have := (g5 j hj').frz_ok R ho
      rw [getD_lt hj'] at this
      rw [getD_lt hj, List.getElem_map]
      exact this
    | row ty' sz' n' f' =>
      rw [hx] at hob
      rcases hob with ⟨q1, q2⟩ | ⟨b', K', cur, q1, q2, q3, q4, q5, q6, q7, q8⟩
      · exact .inl ⟨e2.trans q1, q2⟩
      · exact .inr ⟨b', K', cur, e2.trans q1, q2, q3, q4, q5, q6, q7, fun i j hi hj => (q8 i j hi hj).later hl⟩
end

end Go.Am
