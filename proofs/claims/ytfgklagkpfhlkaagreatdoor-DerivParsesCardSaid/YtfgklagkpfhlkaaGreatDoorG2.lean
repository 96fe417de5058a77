/- Merged texts: BmC BmD BmE BmF BmH BmI BmJ BmG BmK Base Data D1 D2 D3 D4 D5. -/
import Derived.Test.YtfgklagkpfhlkaaGreatDoorG1
import Derived.IntWalk
import Derived.Test.YtfgklagkpfhlkaaGreatDoorProg
import Derived.KernelRfl
import Derived.Laws.Small
set_option linter.unusedVariables false
set_option linter.unusedSimpArgs false
/- The abstract machine, part 12: how a walk is typed. Generic over the program; no condition. -/
namespace Go.Am
open Go.RowKit

theorem upd_apply {α : Type} (s : Nat → α) (t : Nat) (x : α) (i : Nat) : upd s t x i = if i = t then x else s i := rfl
theorem keepS_apply (ks : List Nat) (s : Slots) (t : Nat) : keepS ks s t = if t ∈ ks then s t else .c .any := rfl
theorem keepH_apply (os : List Nat) (h : AH) (o : Nat) : keepH os h o = if o ∈ os then h o else .gone := rfl
theorem thenQ_normal (n : Slots → AH → Prop) (Q : APost) (s : Slots) (h : AH) : thenQ n Q .normal s h = n s h := rfl
theorem thenQ_ret (n : Slots → AH → Prop) (Q : APost) (s : Slots) (h : AH) : thenQ n Q .ret s h = Q .ret s h := rfl
theorem thenQ_exit (n : Slots → AH → Prop) (Q : APost) (i : Nat) (s : Slots) (h : AH) : thenQ n Q (.exit i) s h = Q (.exit i) s h := rfl
theorem blockQ_normal (i : Nat) (Q : APost) (s : Slots) (h : AH) : blockQ i Q .normal s h = Q .normal s h := rfl
theorem blockQ_ret (i : Nat) (Q : APost) (s : Slots) (h : AH) : blockQ i Q .ret s h = Q .ret s h := rfl
theorem blockQ_exit (i j : Nat) (Q : APost) (s : Slots) (h : AH) : blockQ i Q (.exit j) s h = if j = i then Q .normal s h else Q (.exit j) s h := rfl

section
variable {P : Program} {nt : Nat} {fo : List Nat} {Q : APost} {s : Slots} {h : AH}

/-- A region, and what follows it behind a name. -/
theorem awp_rseq [Glb] {id : Nat} {ops : List Oper} {y : Code} (hs : slotsOk nt ops = true) (hr : ∀ K : Slots → AH → Prop, (∀ s h, AWp P nt fo y Q s h → K s h) → aRun P ops.toArray K ops s h) : AWp P nt fo (.seq (.region id ops.toArray false) y) Q s h :=
  awp_seq (awp_region hs (hr _ fun _ _ q => q))

theorem awp_rseq_draw [Glb] (hf : P.follows .mixedOrders = true) {id : Nat} {ops : List Oper} {y : Code} (hs : slotsOk nt ops = true) (hd : drawOk ops.toArray = true) (hr : ∀ K : Slots → AH → Prop, (∀ s h, AWp P nt fo y Q s h → K s h) → aRun P ops.toArray K ops s h) :
    AWp P nt fo (.seq (.region id ops.toArray true) y) Q s h :=
  awp_seq (awp_region_draw hf hs hd (hr _ fun _ _ q => q))

theorem awp_rseq_drawF [Glb] (hf : P.follows .mixedOrders = true) (free : List (Nat × Nat)) {id : Nat} {ops : List Oper} {y : Code} (hs : slotsOk nt ops = true) (hd : drawOkF free ops.toArray = true) (hr : ∀ K : Slots → AH → Prop, (∀ s h, freeFin free ops.toArray s = true → AWp P nt fo y Q s h → K s h) → aRun P ops.toArray K ops s h) :
    AWp P nt fo (.seq (.region id ops.toArray true) y) Q s h :=
  awp_seq (awp_region_drawF hf free hs hd (hr _ fun _ _ f q => ⟨f, q⟩))

/-- The last region of a piece of code. -/
theorem awp_rlast [Glb] {id : Nat} {ops : List Oper} (hs : slotsOk nt ops = true) (hr : ∀ K : Slots → AH → Prop, (∀ s h, Q .normal s h → K s h) → aRun P ops.toArray K ops s h) : AWp P nt fo (.region id ops.toArray false) Q s h :=
  awp_region hs (hr _ fun _ _ q => q)
theorem awp_rlast_draw [Glb] (hf : P.follows .mixedOrders = true) {id : Nat} {ops : List Oper} (hs : slotsOk nt ops = true) (hd : drawOk ops.toArray = true) (hr : ∀ K : Slots → AH → Prop, (∀ s h, Q .normal s h → K s h) → aRun P ops.toArray K ops s h) :
    AWp P nt fo (.region id ops.toArray true) Q s h :=
  awp_region_draw hf hs hd (hr _ fun _ _ q => q)
end

/-- A number of 64 bits that fits is itself. -/
theorem wrap_in {n : Int} (h : -9223372036854775808 ≤ n ∧ n ≤ 9223372036854775807) : IntKind.i64.wrap n = n := by
  rw [IntKind.wrap_i64]
  omega

theorem strip_c (x : CV) : (AV.c x).strip = .c x := rfl
theorem strip_agg (x : List AV) : (AV.agg x).strip = .agg x := rfl
theorem strip_pim (x : List CV) : (AV.pim x).strip = .pim x := rfl
theorem strip_ptr (o k : Nat) : (AV.ptr o k).strip = .ptr o k := rfl
theorem strip_rp (o L i k : Nat) : (AV.rp o L i k).strip = .rp o L i k := rfl
theorem strip_own (o L : Nat) : (AV.own o L).strip = .own o L := rfl
theorem strip_osub (o L i k : Nat) : (AV.osub o L i k).strip = .osub o L i k := rfl
theorem strip_emp : AV.emp.strip = .emp := rfl
theorem strip_when (b : Bool) (x : AV) : (AV.when b x).strip = x.strip := rfl
theorem wh_c (x : CV) : (AV.c x).wh = true := rfl
theorem wh_agg (x : List AV) : (AV.agg x).wh = true := rfl
theorem wh_pim (x : List CV) : (AV.pim x).wh = true := rfl
theorem wh_ptr (o k : Nat) : (AV.ptr o k).wh = true := rfl
theorem wh_rp (o L i k : Nat) : (AV.rp o L i k).wh = true := rfl
theorem wh_own (o L : Nat) : (AV.own o L).wh = true := rfl
theorem wh_osub (o L i k : Nat) : (AV.osub o L i k).wh = true := rfl
theorem wh_emp : AV.emp.wh = true := rfl
theorem wh_when (b : Bool) (x : AV) : (AV.when b x).wh = (b && x.wh) := rfl

theorem ev_tmp (s : Slots) (t : Nat) : ev s (.tmp t) = s t := rfl
theorem ev_const (s : Slots) (v : Value) : ev s (.const v) = constAV1 v := rfl
theorem const_int (k : IntKind) (n : Int) : constAV1 (.int k n) = .c (.raw (.int k n)) := rfl
theorem const_bool (b : Bool) : constAV1 (.bool b) = .c (.raw (.bool b)) := rfl
theorem const_str (b : ByteArray) : constAV1 (.string b) = .c (.raw (.string b)) := rfl
theorem const_nil : constAV1 (.slice none 0 0) = .emp := rfl

theorem bin_lss (a b : Int) : bin .lss (.int .i64 a) (.int .i64 b) = some (.bool (decide (a < b))) := rfl
theorem bin_leq (a b : Int) : bin .leq (.int .i64 a) (.int .i64 b) = some (.bool (decide (a ≤ b))) := rfl
theorem bin_gtr (a b : Int) : bin .gtr (.int .i64 a) (.int .i64 b) = some (.bool (decide (b < a))) := rfl
theorem bin_geq (a b : Int) : bin .geq (.int .i64 a) (.int .i64 b) = some (.bool (decide (b ≤ a))) := rfl
theorem bin_eql (a b : Int) : bin .eql (.int .i64 a) (.int .i64 b) = some (.bool (a == b)) := rfl
theorem bin_neq (a b : Int) : bin .neq (.int .i64 a) (.int .i64 b) = some (.bool (a != b)) := rfl
theorem bin_add (a b : Int) : bin .add (.int .i64 a) (.int .i64 b) = some (.int .i64 (IntKind.i64.wrap (a + b))) := rfl
theorem bin_sub (a b : Int) : bin .sub (.int .i64 a) (.int .i64 b) = some (.int .i64 (IntKind.i64.wrap (a - b))) := rfl
theorem bin_rem (a b : Int) : bin .rem (.int .i64 a) (.int .i64 b) = if b = 0 then none else some (.int .i64 (a.tmod b)) := rfl
theorem bin_seql (a b : ByteArray) : bin .eql (.string a) (.string b) = some (.bool (a.toList == b.toList)) := rfl
theorem bin_sneq (a b : ByteArray) : bin .neq (.string a) (.string b) = some (.bool !(a.toList == b.toList)) := rfl
theorem bin_slss (a b : ByteArray) : bin .lss (.string a) (.string b) = some (.bool (Op.bytesLess a.toList b.toList)) := rfl

theorem addOff_pim (k : Nat) (xs : List CV) : addOff k (.pim xs) = some (.pim (xs.drop k)) := rfl
theorem addOff_ptr (k o j : Nat) : addOff k (.ptr o j) = some (.ptr o (j + k)) := rfl
theorem addOff_rp (k o L i j : Nat) : addOff k (.rp o L i j) = some (.rp o L i (j + k)) := rfl
theorem view_c (h : AH) (x : CV) : (AV.c x).view h = x := rfl
theorem view_emp (h : AH) : AV.emp.view h = .im 0 0 fun _ => [] := rfl
theorem view_agg (h : AH) (xs : List AV) : (AV.agg xs).view h = .agg (xs.map (AV.view1 h)) := rfl
theorem view1_c (h : AH) (x : CV) : (AV.c x).view1 h = x := rfl
theorem view1_emp (h : AH) : AV.emp.view1 h = .im 0 0 fun _ => [] := rfl
theorem live_c (h : AH) (x : CV) : (AV.c x).live h = true := rfl
theorem live_emp (h : AH) : AV.emp.live h = true := rfl
theorem live_agg (h : AH) (xs : List AV) : (AV.agg xs).live h = xs.all fun x => x.live1 h := rfl
theorem live1_c (h : AH) (x : CV) : (AV.c x).live1 h = true := rfl
theorem live1_emp (h : AH) : AV.emp.live1 h = true := rfl
theorem closedA_c (x : CV) : (AV.c x).closedA = true := rfl
theorem closedA_emp : AV.emp.closedA = true := rfl
theorem closedA_agg (xs : List AV) : (AV.agg xs).closedA = xs.all fun x => x.closed1.isSome := rfl

/-- A call by its contract, in the middle of a region. -/
theorem callx [Glb] {P : Program} {f : FuncId} {vs cs : List CV} {r : CV} {C : Prop} {R : AV → Prop} (hp : APure P f cs r) (hs : Subs vs cs) (hf : r.flat = true ∨ C) (hr : R (.c r)) :
    ∃ x, (∃ cs, Subs vs cs ∧ ∃ r, APure P f cs r ∧ (r.flat = true ∨ C) ∧ x = .c r) ∧ R x := ⟨_, ⟨cs, hs, r, hp, hf, rfl⟩, hr⟩
theorem callc [Glb] {P : Program} {f : FuncId} {vs cs : List CV} {r : CV} {R : AV → Prop} (hp : APure P f cs r) (hs : Subs vs cs) (hr : R (.c r)) :
    ∃ x, (∃ cs, Subs vs cs ∧ ∃ r, APure P f cs r ∧ x = .c r) ∧ R x := ⟨_, ⟨cs, hs, r, hp, rfl⟩, hr⟩
/-- The same, under a guard. -/
theorem callcg [Glb] {P : Program} {f : FuncId} {vs cs : List CV} {r : CV} {G : Prop} {R : AV → Prop} {w : AV → AV} (hp : G → APure P f cs r) (hs : Subs vs cs) (hr : R (w (.c r))) :
    ∃ x, (∃ y, (∃ cs, Subs vs cs ∧ ∃ r, (G → APure P f cs r) ∧ y = .c r) ∧ x = w y) ∧ R x := ⟨_, ⟨_, ⟨cs, hs, r, hp, rfl⟩, rfl⟩, hr⟩
theorem callxg [Glb] {P : Program} {f : FuncId} {vs cs : List CV} {r : CV} {G : Prop} {C : Prop} {R : AV → Prop} {w : AV → AV} (hp : G → APure P f cs r) (hs : Subs vs cs) (hf : r.flat = true ∨ C) (hr : R (w (.c r))) :
    ∃ x, (∃ y, (∃ cs, Subs vs cs ∧ ∃ r, (G → APure P f cs r) ∧ (r.flat = true ∨ C) ∧ y = .c r) ∧ x = w y) ∧ R x := ⟨_, ⟨_, ⟨cs, hs, r, hp, hf, rfl⟩, rfl⟩, hr⟩

theorem arr1_eq {α : Type} (a b : α) : (#[a] = #[b]) = (a = b) := by simp
theorem arr2_eq {α : Type} (a b c d : α) : (#[a, b] = #[c, d]) = (a = c ∧ b = d) := by simp
theorem beq_tt (b : Bool) : (b == true) = b := by cases b <;> rfl
theorem beq_ff (b : Bool) : (b == false) = !b := by cases b <;> rfl

/-! One operation at a time. -/
section
variable {P : Program} {ops : Array Oper} {K : Slots → AH → Prop} {r : List Oper} {s : Slots} {h : AH} {x : AV} {d : Nat} {op : Op} {ty : TypeId} {pos : String} {af : Array Edge}

theorem st0 [Glb] (hc : cls op = 0) (hx : aop0 P op (ev s) true x) (hn : aRun P ops K r (upd s d x) h) : aRun P ops K (⟨some d, op, ty, pos, af, none⟩ :: r) s h := by
  refine ⟨x, none, ?_, hn⟩
  unfold aStep aEx
  simp only [hc]
  exact ⟨hx, trivial⟩
theorem st1 [Glb] (hc : cls op = 1) (hx : aop1 P op (ev s) h true x) (hn : aRun P ops K r (upd s d x) h) : aRun P ops K (⟨some d, op, ty, pos, af, none⟩ :: r) s h := by
  refine ⟨x, none, ?_, hn⟩
  unfold aStep aEx
  simp only [hc]
  exact ⟨hx, trivial⟩
theorem st2 [Glb] {ob : Nat} {x' : AObj} (hc : cls op = 2) (hx : aop2 P op (ev s) h (some d) ob x' x) (hn : aRun P ops K r (upd s d x) (upd h ob x')) : aRun P ops K (⟨some d, op, ty, pos, af, none⟩ :: r) s h := by
  refine ⟨x, some (ob, x'), ?_, hn⟩
  unfold aStep aEx
  simp only [hc]
  exact ⟨ob, x', hx, rfl⟩
theorem st2n [Glb] {ob : Nat} {x' : AObj} (hc : cls op = 2) (hx : aop2 P op (ev s) h none ob x' (.c .any)) (hn : aRun P ops K r s (upd h ob x')) : aRun P ops K (⟨none, op, ty, pos, af, none⟩ :: r) s h := by
  refine ⟨.c .any, some (ob, x'), ?_, hn⟩
  unfold aStep aEx
  simp only [hc]
  exact ⟨ob, x', hx, rfl⟩
theorem st3 [Glb] {x' : AObj} (hc : cls op = 3) (hgo : h d = .gone) (hx : aop3 P op (ev s) d x' x) (hn : aRun P ops K r (upd s d x) (upd h d x')) : aRun P ops K (⟨some d, op, ty, pos, af, none⟩ :: r) s h := by
  refine ⟨x, some (d, x'), ?_, hn⟩
  unfold aStep aEx
  simp only [hc]
  exact ⟨d, x', rfl, hgo, hx, rfl⟩
theorem sg0 [Glb] {j t : Nat} {want g G : Bool} {u : AV} (hc : cls op = 0) (ht : (ops[j]?).bind (·.dst) = some t) (hs : s t = u) (hu : u.strip = .bool g) (hG : (u.wh && g == want) = G) (hx : aop0 P op (ev s) G x) (hn : aRun P ops K r (upd s d (.when G x)) h) : aRun P ops K (⟨some d, op, ty, pos, af, some (j, want)⟩ :: r) s h := by
  subst hs hG
  refine ⟨.when ((s t).wh && g == want) x, none, ?_, hn⟩
  unfold aStep
  refine ⟨rfl, t, g, x, ht, hu, fun e => ?_, rfl⟩
  rw [e] at hx
  simp only [hc]
  exact hx
theorem sg1 [Glb] {j t : Nat} {want g G : Bool} {u : AV} (hc : cls op = 1) (ht : (ops[j]?).bind (·.dst) = some t) (hs : s t = u) (hu : u.strip = .bool g) (hG : (u.wh && g == want) = G) (hx : aop1 P op (ev s) h G x) (hn : aRun P ops K r (upd s d (.when G x)) h) : aRun P ops K (⟨some d, op, ty, pos, af, some (j, want)⟩ :: r) s h := by
  subst hs hG
  refine ⟨.when ((s t).wh && g == want) x, none, ?_, hn⟩
  unfold aStep
  refine ⟨rfl, t, g, x, ht, hu, fun e => ?_, rfl⟩
  rw [e] at hx
  simp only [hc]
  exact hx
/-- Not wanted: passed over. -/
theorem sgF [Glb] {j t : Nat} {want g : Bool} {u : AV} (ht : (ops[j]?).bind (·.dst) = some t) (hs : s t = u) (hu : u.strip = .bool g) (hG : (u.wh && g == want) = false) (hn : aRun P ops K r (upd s d (.when false (.bool false))) h) : aRun P ops K (⟨some d, op, ty, pos, af, some (j, want)⟩ :: r) s h := by
  subst hs
  refine ⟨.when ((s t).wh && g == want) (.bool false), none, ?_, ?_⟩
  · unfold aStep
    refine ⟨rfl, t, g, .bool false, ht, hu, fun e => ?_, rfl⟩
    rw [e] at hG
    cases hG
  · rw [hG]
    exact hn
end

attribute [go_sem] aop0 aop1 aop2 aop3 ev_tmp ev_const const_int const_bool const_str const_nil keepS_apply keepH_apply strip_c strip_agg strip_pim strip_ptr strip_rp strip_own strip_osub strip_emp strip_when wh_c wh_agg wh_pim wh_ptr wh_rp wh_own wh_osub wh_emp wh_when bin_lss bin_leq bin_gtr bin_geq bin_eql bin_neq bin_add bin_sub bin_rem bin_seql bin_sneq bin_slss AV.rawAgg rawsL closedL AV.closed1 addOff_pim addOff_ptr addOff_rp
attribute [go_sem] view_c view_emp view_agg view1_c view1_emp live_c live_emp live_agg live1_c live1_emp closedA_c closedA_emp closedA_agg arr1_eq arr2_eq beq_tt beq_ff loadC loadA AV.cells entryS setL setLC
end Go.Am

/- The abstract machine, part 13: an empty slice becomes a row of the frame's own; a row of the frame's own becomes immutable. Generic over the program; no condition. -/
namespace Go.Am
open Go.RowKit

section
variable {E : Env} {w : World} {nt : Nat} {s : Slots} {h : AH} {gs : Gs} {a : Act}

theorem RelG.virt [Glb] (R : RelG E nt s h gs a w) (o : Nat) (ho : h o = .gone) (ty : TypeId) (sz : Nat) (f : Nat → List CV) : RelG E nt s (upd h o (.row ty sz 0 f)) gs a w := by
  have hgo : gs o = none := by have := R.objs o; rw [ho] at this; exact this
  have e : upd gs o none = gs := funext fun i => by unfold upd; split <;> simp_all
  have := R.eff (w' := w) o (.row ty sz 0 f) none rfl rfl rfl (Nat.le_refl _) (fun _ _ _ => rfl) (.inl hgo.symm) (fun ty cells e => by rw [ho] at e; cases e) (fun ty sz n f e => by rw [ho] at e; cases e) fun _ _ => .inl ⟨upd_same _ _ _, rfl⟩
  rw [e] at this
  exact this

theorem RA.emp_own {Z : Nat → Prop} {v : Value} {o : Nat} {ty : TypeId} {sz : Nat} {f : Nat → List CV} (hx : RA w Z h gs v .emp) (ho : h o = .row ty sz 0 f) (hg : gs o = none) : RA w Z h gs v (.own o 0) := by
  cases hx with
  | emp A => exact .own A 0 0 o 0 ty sz 0 f ho (Nat.le_refl _) fun _ => .inr ⟨hg, rfl, rfl⟩

/-- An empty slice in a slot. -/
theorem weak_adopt [Glb] {fo : List Nat} (t o : Nat) (ty : TypeId) (sz : Nat) (f : Nat → List CV) (hs : s t = .emp) (ho : h o = .gone) : Weak fo s h (upd s t (.own o 0)) (upd h o (.row ty sz 0 f)) := by
  intro E nt a w I ⟨gs, R⟩
  have hgo : gs o = none := by have := R.objs o; rw [ho] at this; exact this
  have R' := R.virt o ho ty sz f
  refine ⟨gs, { R' with slots := fun t' => ?_ }⟩
  rw [upd_apply]
  split
  · rename_i e
    subst e
    have := R'.slots t'
    rw [hs] at this
    exact this.emp_own (upd_same _ _ _) hgo
  · exact R'.slots t'

/-- An empty slice in a variable's cell. -/
theorem weak_adoptB [Glb] {fo : List Nat} (b k o : Nat) (tb : TypeId) (cells : List AV) (ty : TypeId) (sz : Nat) (f : Nat → List CV) (hb : h b = .box tb cells) (hk : cells.getD k default = .emp) (ho : h o = .gone) :
    Weak fo s h s (upd (upd h o (.row ty sz 0 f)) b (.box tb (cells.set k (.own o 0)))) := by
  intro E nt a w I ⟨gs, R⟩
  have hgo : gs o = none := by have := R.objs o; rw [ho] at this; exact this
  have hbo : b ≠ o := fun e => by subst e; rw [hb] at ho; cases ho
  have R' := R.virt o ho ty sz f
  have hb' : upd h o (.row ty sz 0 f) b = .box tb cells := by rw [upd_ne _ _ _ _ hbo]; exact hb
  refine ⟨gs, ?_⟩
  have e : upd gs b (gs b) = gs := funext fun i => by unfold upd; split <;> simp_all
  have := R'.eff (w' := w) b (.box tb (cells.set k (.own o 0))) (gs b) rfl rfl rfl (Nat.le_refl _) (fun _ _ _ => rfl) (.inl rfl) (fun ty cells e => ⟨⟨_, _, rfl⟩, rfl⟩) (fun ty sz n f e => by rw [hb'] at e; cases e) (fun hL hr => by
    have hob := R'.objs b
    rw [hb'] at hob
    rw [e] at hL hr ⊢
    obtain ⟨bb, K, cur, g1, g2, g3, g4, g5⟩ := hob
    refine ⟨bb, K, cur, g1, g2, by simpa using g3, fun j hj => g4 j (by simpa using hj), fun j hj => ?_⟩
    have hj' : j < cells.length := by simpa using hj
    by_cases hjk : j = k
    · subst hjk
      have h1 := (g5 j hj').later hL hr
      rw [hk] at h1
      rw [getD_lt hj, List.getElem_set_self]
      exact h1.emp_own (by rw [upd_ne _ _ _ _ (Ne.symm hbo), upd_same]) hgo
    · have h1 := (g5 j hj').later hL hr
      rw [getD_lt hj'] at h1
      rw [getD_lt hj, List.getElem_set_ne (Ne.symm hjk)]
      exact h1)
  rw [e] at this
  exact this

def AV.frz1 (o sz n : Nat) (f : Nat → List CV) : AV → AV
  | .own o' L => if o' = o then (if L = n then .c (.im sz n f) else .c .any) else .own o' L
  | .osub o' L off k => if o' = o then (if L = n then .c (.im sz k fun i => f (off + i)) else .c .any) else .osub o' L off k
  | .rp o' L i off => if o' = o then .c .any else .rp o' L i off
  | .when b x => .when b (x.frz1 o sz n f)
  | x => x
def AV.frz (o sz n : Nat) (f : Nat → List CV) : AV → AV
  | .agg xs => .agg (xs.map (AV.frz1 o sz n f))
  | .when b x => .when b (x.frz o sz n f)
  | x => x.frz1 o sz n f
def AObj.frz (o sz n : Nat) (f : Nat → List CV) : AObj → AObj
  | .box ty cells => .box ty (cells.map (AV.frz o sz n f))
  | x => x
def frzS (o sz n : Nat) (f : Nat → List CV) (s : Slots) : Slots := fun t => (s t).frz o sz n f
def frzH (o sz n : Nat) (f : Nat → List CV) (h : AH) : AH := fun q => if q = o then .gone else (h q).frz o sz n f

theorem RA.frz1_ok [Glb] (R : RelG E nt s h gs a w) {o sz n : Nat} {ty : TypeId} {f : Nat → List CV} (ho : h o = .row ty sz n f) {v : Value} {x : AV} (hx : RA w (Zf E.Z gs) h gs v x) (hn : v.oneCell' = true) :
    RA w (Zf E.Z (upd gs o none)) (frzH o sz n f h) (upd gs o none) v (x.frz1 o sz n f) := by
  have hz : ∀ b, Zf E.Z (upd gs o none) b → Zf E.Z gs b := by
    intro b hb
    rcases hb with hb | ⟨o', K, hb⟩
    · exact .inl hb
    · rw [upd_apply] at hb
      split at hb
      · cases hb
      · exact .inr ⟨o', K, hb⟩
  have hl : Later w w (Zf E.Z gs) (Zf E.Z (upd gs o none)) := ⟨Nat.le_refl _, fun _ _ _ => rfl, fun b hb _ => hz b hb⟩
  have nz : ∀ b K, gs o = some (b, K) → ¬ Zf E.Z (upd gs o none) b := by
    intro b K e hb
    rcases hb with hb | ⟨o', K', hb⟩
    · have h1 := R.zlt b hb
      rcases (R.fresh o b K e).1 with h2 | h2
      · omega
      · exact (R.zd b h2).1 hb
    · rw [upd_apply] at hb
      split at hb
      · cases hb
      · rename_i hne
        exact hne (R.inj o' o b K' K hb e)
  induction hx with
  | c v x hx => exact .c v x (hx.later hl)
  | agg cs xs hl' ho' hh => simp [Value.oneCell'] at hn
  | pim ad xs g hb hlt hc ho' hh => exact .pim ad xs g (fun hz' => hb (hz _ hz')) hlt hc ho' fun j hj => (hh j hj).later hl
  | ptr o' off b K ty' cells ho' hg =>
    have hne : o' ≠ o := fun e => by subst e; rw [ho] at ho'; cases ho'
    exact .ptr o' off b K ty' (cells.map (AV.frz o sz n f)) (by simp [frzH, hne, ho', AObj.frz]) (by rw [upd_ne _ _ _ _ hne]; exact hg)
  | rp ad o' L i off ty' sz' n' f' ho' hL hv =>
    simp only [AV.frz1]
    split
    · exact .c _ _ (.any _)
    · rename_i hne
      exact .rp ad o' L i off ty' sz' n' f' (by simp [frzH, hne, ho', AObj.frz]) hL (by rw [upd_ne _ _ _ _ hne]; exact hv)
  | own A k c o' L ty' sz' n' f' ho' hL hv =>
    simp only [AV.frz1]
    split
    · rename_i he
      subst he
      rw [ho] at ho'
      injection ho' with e1 e2 e3 e4
      subst e1; subst e2; subst e3; subst e4
      split
      · rename_i hLn
        have hob := R.objs o'
        rw [ho] at hob
        rcases hv hLn with ⟨b, K, g1, rfl, rfl, rfl⟩ | ⟨g1, rfl, rfl⟩
        · rcases hob with ⟨q1, q2⟩ | ⟨b', K', cur, q1, q2, q3, q4, q5, q6, q7, q8⟩
          · rw [g1] at q1; cases q1
          · rw [g1] at q1
            simp only [Option.some.injEq, Prod.mk.injEq] at q1
            obtain ⟨rfl, rfl⟩ := q1
            have hkc : k * sz ≤ c * sz := Nat.mul_le_mul_right _ q4
            refine .c _ _ (.im _ k c sz f (fun j => cur.getD j undef) (nz _ _ g1) (R.fresh _ _ _ g1).2 q4 (fun j hj => ?_) q7 q6 fun i j hi hj => (q8 i j hi hj).later hl)
            rw [addr_lit, Nat.zero_add]
            exact cell_of_heap q2 (by omega)
        · rcases hob with ⟨q1, rfl⟩ | ⟨b', K', cur, q1, _⟩
          · exact .c _ _ (.nul _ _ _ _)
          · rw [g1] at q1; cases q1
      · exact .c _ _ (.any _)
    · rename_i hne
      exact .own A k c o' L ty' sz' n' f' (by simp [frzH, hne, ho', AObj.frz]) hL (by rw [upd_ne _ _ _ _ hne]; exact hv)
  | osub A k' c o' L off k ty' sz' n' f' ho' hL hv =>
    simp only [AV.frz1]
    split
    · rename_i he
      subst he
      rw [ho] at ho'
      injection ho' with e1 e2 e3 e4
      subst e1; subst e2; subst e3; subst e4
      split
      · rename_i hLn
        have hob := R.objs o'
        rw [ho] at hob
        obtain ⟨v1, rfl, v3, v4⟩ := hv hLn
        rcases Nat.eq_zero_or_pos k' with h0 | h0
        · subst h0
          exact .c _ _ (.nul _ _ _ _)
        · obtain ⟨b, K, g1, rfl⟩ := v4 h0
          rcases hob with ⟨q1, q2⟩ | ⟨b', K', cur, q1, q2, q3, q4, q5, q6, q7, q8⟩
          · rw [g1] at q1; cases q1
          · rw [g1] at q1
            simp only [Option.some.injEq, Prod.mk.injEq] at q1
            obtain ⟨rfl, rfl⟩ := q1
            have hnK : n * sz ≤ K * sz := Nat.mul_le_mul_right _ q4
            have ho2 : off * sz + k' * sz ≤ n * sz := by rw [← Nat.add_mul]; exact Nat.mul_le_mul_right _ v1
            refine .c _ _ (.im _ k' c sz _ (fun j => cur.getD (off * sz + j) undef) (nz _ _ g1) (R.fresh _ _ _ g1).2 v3 (fun j hj => ?_) (fun j hj => q7 _ (by omega)) (fun i hi => q6 _ (by omega)) fun i j hi hj => ?_)
            · rw [addr_lit]
              exact cell_of_heap q2 (by omega)
            · have := q8 (off + i) j (by omega) hj
              rw [Nat.add_mul, Nat.add_assoc] at this
              exact this.later hl
      · exact .c _ _ (.any _)
    · rename_i hne
      exact .osub A k' c o' L off k ty' sz' n' f' (by simp [frzH, hne, ho', AObj.frz]) hL (by rw [upd_ne _ _ _ _ hne]; exact hv)
  | emp A => exact .emp A
  | fn f' cs os hl' hh =>
    refine .fn f' cs os hl' fun i hi => ?_
    obtain ⟨b, K, ty', cells, e1, e2, e3⟩ := hh i hi
    have hne : os.getD i 0 ≠ o := fun e => by rw [e, ho] at e2; cases e2
    exact ⟨b, K, ty', cells.map (AV.frz o sz n f), e1, by simp only [frzH, hne, if_false, e2, AObj.frz], by rw [upd_ne _ _ _ _ hne]; exact e3⟩
  | when v b x _ hu ih => exact .when v b _ (fun e => ih e hn) hu

theorem RA.frz_ok [Glb] (R : RelG E nt s h gs a w) {o sz n : Nat} {ty : TypeId} {f : Nat → List CV} (ho : h o = .row ty sz n f) {v : Value} {x : AV} (hx : RA w (Zf E.Z gs) h gs v x) :
    RA w (Zf E.Z (upd gs o none)) (frzH o sz n f h) (upd gs o none) v (x.frz o sz n f) := by
  induction hx with
  | agg cs xs hl' ho' hh _ =>
    refine .agg cs _ (by simpa using hl') (fun i hi => ho' i (by simpa using hi)) fun i hi => ?_
    have hi' : i < xs.length := by simpa using hi
    have := (hh i hi').frz1_ok R ho (ho' i hi')
    rw [getD_lt hi'] at this
    rw [getD_lt hi, List.getElem_map]
    exact this
  | when v b x _ hu ih => exact .when v b _ (fun e => ih e) hu
  | c v x hx =>
    have hl : Later w w (Zf E.Z gs) (Zf E.Z (upd gs o none)) := ⟨Nat.le_refl _, fun _ _ _ => rfl, fun b hb _ => by
      rcases hb with hb | ⟨o', K, hb⟩
      · exact .inl hb
      · rw [upd_apply] at hb
        split at hb
        · cases hb
        · exact .inr ⟨o', K, hb⟩⟩
    exact .c v x (hx.later hl)
  | pim ad xs g hb hlt hc ho' hh => exact (RA.pim (gs := gs) (h := h) ad xs g hb hlt hc ho' hh).frz1_ok R ho rfl
  | ptr o' off b K ty cells ho' hg => exact (RA.ptr (w := w) (Z := Zf E.Z gs) o' off b K ty cells ho' hg).frz1_ok R ho rfl
  | rp ad o' L i off ty sz n f ho' hL hv => exact (RA.rp (w := w) (Z := Zf E.Z gs) ad o' L i off ty sz n f ho' hL hv).frz1_ok R ho rfl
  | own A k c o' L ty sz n f ho' hL hv => exact (RA.own (w := w) (Z := Zf E.Z gs) A k c o' L ty sz n f ho' hL hv).frz1_ok R ho rfl
  | osub A k' c o' L off k ty sz n f ho' hL hv => exact (RA.osub (w := w) (Z := Zf E.Z gs) A k' c o' L off k ty sz n f ho' hL hv).frz1_ok R ho rfl
  | emp A => exact .emp A
  | fn f' cs os hl' hh => exact (RA.fn (w := w) (Z := Zf E.Z gs) f' cs os hl' hh).frz1_ok R ho rfl

/-- A row of the frame's own becomes immutable. -/
theorem weak_freeze [Glb] {fo : List Nat} (o : Nat) (hfo : o ∉ fo) (ty : TypeId) (sz n : Nat) (f : Nat → List CV) (ho : h o = .row ty sz n f) : Weak fo s h (frzS o sz n f s) (frzH o sz n f h) := by
  intro E nt a w I ⟨gs, R⟩
  have hz : ∀ b, Zf E.Z (upd gs o none) b → Zf E.Z gs b := by
    intro b hb
    rcases hb with hb | ⟨o', K, hb⟩
    · exact .inl hb
    · rw [upd_apply] at hb
      split at hb
      · cases hb
      · exact .inr ⟨o', K, hb⟩
  have hl : Later w w (Zf E.Z gs) (Zf E.Z (upd gs o none)) := ⟨Nat.le_refl _, fun _ _ _ => rfl, fun b hb _ => hz b hb⟩
  have sub : ∀ o' b K', upd gs o none o' = some (b, K') → gs o' = some (b, K') := fun o' b K' e => by
    rw [upd_apply] at e
    split at e
    · cases e
    · exact e
  have hrk : Refs E.h0 E.gs0 (frzH o sz n f h) (upd gs o none) := by
    refine ⟨fun o' ty' cells e => ?_, fun o' ty' sz' n' f' e => ?_⟩
    · obtain ⟨⟨t1, c1, q1⟩, q2⟩ := R.refs.box o' ty' cells e
      have hne : o' ≠ o := fun e' => hfo (e' ▸ I o' (by rw [e]; simp))
      exact ⟨⟨t1, c1.map (AV.frz o sz n f), by simp [frzH, hne, q1, AObj.frz]⟩, by rw [upd_ne _ _ _ _ hne]; exact q2⟩
    · obtain ⟨n1, f1, q1, q2, q3⟩ := R.refs.row o' ty' sz' n' f' e
      have hne : o' ≠ o := fun e' => hfo (e' ▸ I o' (by rw [e]; simp))
      exact ⟨n1, f1, by simp [frzH, hne, q1, AObj.frz], q2, by rw [upd_ne _ _ _ _ hne]; exact q3⟩
  refine ⟨upd gs o none, R.below, R.zlt, R.zd, R.glob, fun o' b K e => R.fresh o' b K (sub _ _ _ e), fun o1 o2 b K1 K2 e1 e2 => R.inj o1 o2 b K1 K2 (sub _ _ _ e1) (sub _ _ _ e2), fun q => ?_, fun t => (R.slots t).frz_ok R ho, R.size, R.defers, hrk⟩
  by_cases hq : q = o
  · subst hq
    simp only [frzH, if_true]
    exact upd_same _ _ _
  · have hob := R.objs q
    have e1 : frzH o sz n f h q = (h q).frz o sz n f := by simp [frzH, hq]
    have e2 : upd gs o none q = gs q := upd_ne _ _ _ _ hq
    rw [e1]
    cases hx : h q with
    | gone =>
      rw [hx] at hob
      exact e2.trans hob
    | blk b ob =>
      rw [hx] at hob
      obtain ⟨K', g1, g2⟩ := hob
      exact ⟨K', e2.trans g1, g2⟩
    | box ty' cells =>
      rw [hx] at hob
      obtain ⟨b, K', cur, g1, g2, g3, g4, g5⟩ := hob
      refine ⟨b, K', cur, e2.trans g1, g2, by simpa using g3, fun j hj => g4 j (by simpa using hj), fun j hj => ?_⟩
      have hj' : j < cells.length := by simpa using hj
      have := (g5 j hj').frz_ok R ho
      rw [getD_lt hj'] at this
      rw [getD_lt hj, List.getElem_map]
      exact this
    | row ty' sz' n' f' =>
      rw [hx] at hob
      rcases hob with ⟨q1, q2⟩ | ⟨b', K', cur, q1, q2, q3, q4, q5, q6, q7, q8⟩
      · exact .inl ⟨e2.trans q1, q2⟩
      · exact .inr ⟨b', K', cur, e2.trans q1, q2, q3, q4, q5, q6, q7, fun i j hi hj => (q8 i j hi hj).later hl⟩
end

end Go.Am

/- The abstract machine, part 14: one operation at a time, with its questions in the order in which they are answered; states as finite lists. Generic over the program; no condition. -/
namespace Go.Am
open Go.RowKit

/-! States as finite lists. -/
def ofL : List (Nat × AV) → Slots
  | [] => fun _ => .c .any
  | (k, v) :: r => upd (ofL r) k v
def ofH : List (Nat × AObj) → AH
  | [] => fun _ => .gone
  | (k, v) :: r => upd (ofH r) k v
theorem ofL_nil (t : Nat) : ofL [] t = .c .any := rfl
theorem ofL_cons (k : Nat) (v : AV) (r : List (Nat × AV)) (t : Nat) : ofL ((k, v) :: r) t = if t = k then v else ofL r t := rfl
theorem ofH_nil (t : Nat) : ofH [] t = .gone := rfl
theorem ofH_cons (k : Nat) (v : AObj) (r : List (Nat × AObj)) (t : Nat) : ofH ((k, v) :: r) t = if t = k then v else ofH r t := rfl

theorem keepS_eq {s : Slots} : ∀ {l : List (Nat × AV)}, (∀ p ∈ l, s p.1 = p.2) → keepS (l.map Prod.fst) s = ofL l
  | [], _ => by funext t; simp [keepS, ofL]
  | (k, v) :: r, h => by
    have ih := keepS_eq (s := s) (l := r) fun p hp => h p (List.mem_cons_of_mem _ hp)
    funext t
    have h2 := congrFun ih t
    have hk := h (k, v) (List.mem_cons_self ..)
    rw [keepS_apply] at h2 ⊢
    rw [ofL_cons]
    by_cases e : t = k
    · subst e; simpa using hk
    · rw [if_neg e, ← h2]
      have : (t ∈ List.map Prod.fst ((k, v) :: r)) = (t ∈ List.map Prod.fst r) := by rw [List.map_cons, List.mem_cons, eq_iff_iff]; exact ⟨fun q => q.resolve_left e, .inr⟩
      simp only [this]
theorem keepH_eq {s : AH} : ∀ {l : List (Nat × AObj)}, (∀ p ∈ l, s p.1 = p.2) → keepH (l.map Prod.fst) s = ofH l
  | [], _ => by funext t; simp [keepH, ofH]
  | (k, v) :: r, h => by
    have ih := keepH_eq (s := s) (l := r) fun p hp => h p (List.mem_cons_of_mem _ hp)
    funext t
    have h2 := congrFun ih t
    have hk := h (k, v) (List.mem_cons_self ..)
    rw [keepH_apply] at h2 ⊢
    rw [ofH_cons]
    by_cases e : t = k
    · subst e; simpa using hk
    · rw [if_neg e, ← h2]
      have : (t ∈ List.map Prod.fst ((k, v) :: r)) = (t ∈ List.map Prod.fst r) := by rw [List.map_cons, List.mem_cons, eq_iff_iff]; exact ⟨fun q => q.resolve_left e, .inr⟩
      simp only [this]

/-- What a loop's head keeps: closed under the objects that it names. -/
def refsIn (os : List Nat) (l : List AV) : Bool := l.all fun x => x.refsw.all fun o => decide (o ∈ os)
def boxIn (os : List Nat) : AObj → Bool
  | .box _ cells => refsIn os cells
  | _ => true
/-! A row is the same where its elements are. -/
def objLe : AObj → AObj → Prop
  | .row ty sz n f, .row ty' sz' n' f' => ty = ty' ∧ sz = sz' ∧ n = n' ∧ ∀ i, i < n → Subs (f i) (f' i)
  | x, y => x = y
theorem Subs.of_eq {xs ys : List CV} (h : xs = ys) : Subs xs ys := h ▸ Subs.refl xs
theorem objLe_row {ty : TypeId} {sz n : Nat} {f f' : Nat → List CV} (h : ∀ i, i < n → f i = f' i) : objLe (.row ty sz n f) (.row ty sz n f') := ⟨rfl, rfl, rfl, fun i hi => Subs.of_eq (h i hi)⟩
theorem objLe_rown {ty : TypeId} {sz n n' : Nat} {f f' : Nat → List CV} (hn : n = n') (h : ∀ i, i < n → f i = f' i) : objLe (.row ty sz n f) (.row ty sz n' f') := ⟨rfl, rfl, hn, fun i hi => Subs.of_eq (h i hi)⟩
theorem objLe_rows {ty : TypeId} {sz n n' : Nat} {f f' : Nat → List CV} (hn : n = n') (h : ∀ i, i < n → Subs (f i) (f' i)) : objLe (.row ty sz n f) (.row ty sz n' f') := ⟨rfl, rfl, hn, h⟩
theorem objLe_refl (x : AObj) : objLe x x := by
  cases x with
  | row ty sz n f => exact ⟨rfl, rfl, rfl, fun i _ => Subs.refl _⟩
  | _ => exact rfl
theorem objLe_of {x y : AObj} (e : x = y) : objLe x y := e ▸ objLe_refl x
theorem objLe_box {ty : TypeId} {c : List AV} {y : AObj} (h : objLe (.box ty c) y) : y = .box ty c := by cases y <;> simp_all [objLe]
theorem objLe_box' {ty : TypeId} {c : List AV} {y : AObj} (h : objLe y (.box ty c)) : y = .box ty c := by cases y <;> simp_all [objLe]
theorem objLe_gone {y : AObj} (h : objLe .gone y) : y = .gone := by cases y <;> simp_all [objLe]
theorem objLe_blk {b : Nat} {ob : Obj} {y : AObj} (h : objLe (.blk b ob) y) : y = .blk b ob := by cases y <;> simp_all [objLe]
theorem objLe_rowx {ty : TypeId} {sz n : Nat} {f : Nat → List CV} {y : AObj} (h : objLe (.row ty sz n f) y) : ∃ f', y = .row ty sz n f' ∧ ∀ i, i < n → Subs (f i) (f' i) := by
  cases y <;> simp only [objLe, reduceCtorEq] at h
  obtain ⟨rfl, rfl, rfl, h⟩ := h
  exact ⟨_, rfl, h⟩

theorem RA.le {w : World} {Z : Nat → Prop} {h h' : AH} {gs : Gs} (hl : ∀ o, objLe (h o) (h' o)) {v : Value} {x : AV} (hx : RA w Z h gs v x) : RA w Z h' gs v x := by
  induction hx with
  | c v x hx => exact .c v x hx
  | agg cs xs hl ho hh ih => exact .agg cs xs hl ho ih
  | pim a xs g hb hlt hc ho hh => exact .pim a xs g hb hlt hc ho hh
  | ptr o off b K ty cells ho hg =>
    have := hl o
    rw [ho] at this
    exact .ptr o off b K ty cells (objLe_box this) hg
  | rp ad o L i off ty sz n f ho hL hv =>
    have := hl o
    rw [ho] at this
    obtain ⟨f', e, _⟩ := objLe_rowx this
    exact .rp ad o L i off ty sz n f' e hL hv
  | own A k c o L ty sz n f ho hL hv =>
    have := hl o
    rw [ho] at this
    obtain ⟨f', e, _⟩ := objLe_rowx this
    exact .own A k c o L ty sz n f' e hL hv
  | osub A k' c o L off k ty sz n f ho hL hv =>
    have := hl o
    rw [ho] at this
    obtain ⟨f', e, _⟩ := objLe_rowx this
    exact .osub A k' c o L off k ty sz n f' e hL hv
  | emp A => exact .emp A
  | fn f cs os hl' hh =>
    refine .fn f cs os hl' fun i hi => ?_
    obtain ⟨b, K, ty, cells, e1, e2, e3⟩ := hh i hi
    have := hl (os.getD i 0)
    rw [e2] at this
    exact ⟨b, K, ty, cells, e1, objLe_box this, e3⟩
  | when v b x hx hu ih => exact .when v b x ih hu

theorem weak_rows [Glb] {fo : List Nat} {s : Slots} {h h' : AH} (hl : ∀ o, objLe (h o) (h' o)) : Weak fo s h s h' := by
  intro E nt a w I ⟨gs, R⟩
  have hrk : Refs E.h0 E.gs0 h' gs := by
    refine ⟨fun o ty cells e => ?_, fun o ty sz n f e => ?_⟩
    · obtain ⟨⟨t1, c1, q1⟩, q2⟩ := R.refs.box o ty cells e
      have := hl o
      rw [q1] at this
      exact ⟨⟨t1, c1, objLe_box this⟩, q2⟩
    · obtain ⟨n1, f1, q1, q2, q3⟩ := R.refs.row o ty sz n f e
      have := hl o
      rw [q1] at this
      obtain ⟨f', e', _⟩ := objLe_rowx this
      exact ⟨n1, f', e', q2, q3⟩
  refine ⟨gs, R.below, R.zlt, R.zd, R.glob, R.fresh, R.inj, fun o => ?_, fun t => (R.slots t).le hl, R.size, R.defers, hrk⟩
  have ho := R.objs o
  have hx := hl o
  cases e : h o with
  | gone =>
    rw [e] at ho hx
    rw [objLe_gone hx]
    exact ho
  | blk b ob =>
    rw [e] at ho hx
    rw [objLe_blk hx]
    exact ho
  | box ty cells =>
    rw [e] at ho hx
    rw [objLe_box hx]
    obtain ⟨b, K, cur, q1, q2, q3, q4, q5⟩ := ho
    exact ⟨b, K, cur, q1, q2, q3, q4, fun j hj => (q5 j hj).le hl⟩
  | row ty sz n f =>
    rw [e] at ho hx
    obtain ⟨f', e', hf⟩ := objLe_rowx hx
    rw [e']
    rcases ho with ho | ⟨b, K, cur, q1, q2, q3, q4, q5, q6, q7, q8⟩
    · exact .inl ho
    · refine .inr ⟨b, K, cur, q1, q2, q3, q4, q5, fun i hi => ?_, q7, fun i j hi hj => ?_⟩
      · rw [← (hf i hi).length]; exact q6 i hi
      · exact (hf i hi).get j (by rw [q6 i hi]; exact hj) _ _ _ (q8 i j hi hj)

theorem ofH_le {h : AH} : ∀ {l : List (Nat × AObj)}, (∀ p ∈ l, objLe (h p.1) p.2) → ∀ o, o ∈ l.map Prod.fst → objLe (h o) (ofH l o)
  | (k, v) :: r, hl, o, ho => by
    rw [ofH_cons]
    by_cases e : o = k
    · subst e
      rw [if_pos rfl]
      exact hl (o, v) (List.mem_cons_self ..)
    · rw [if_neg e]
      refine ofH_le (fun p hp => hl p (List.mem_cons_of_mem _ hp)) o ?_
      rw [List.map_cons, List.mem_cons] at ho
      exact ho.resolve_left e
theorem ofH_mem : ∀ {l : List (Nat × AObj)} (o : Nat), o ∈ l.map Prod.fst → ∃ p ∈ l, ofH l o = p.2
  | (k, v) :: r, o, ho => by
    rw [ofH_cons]
    by_cases e : o = k
    · exact ⟨(k, v), List.mem_cons_self .., by rw [if_pos e]⟩
    · rw [if_neg e]
      rw [List.map_cons, List.mem_cons] at ho
      obtain ⟨p, hp, e2⟩ := ofH_mem o (ho.resolve_left e)
      exact ⟨p, List.mem_cons_of_mem _ hp, e2⟩
theorem ofH_out : ∀ {l : List (Nat × AObj)} (o : Nat), o ∉ l.map Prod.fst → ofH l o = .gone
  | [], o, _ => rfl
  | (k, v) :: r, o, ho => by
    rw [List.map_cons, List.mem_cons, not_or] at ho
    rw [ofH_cons, if_neg ho.1]
    exact ofH_out o ho.2

/-- Only the listed slots and objects stay. -/
theorem weak_cut [Glb] {fo : List Nat} {s : Slots} {h : AH} {l : List (Nat × AV)} {b : List (Nat × AObj)} (hfo : (fo.all fun o => decide (o ∈ (b).map Prod.fst)) = true) (hs : ∀ p ∈ l, s p.1 = p.2) (hh : ∀ p ∈ b, objLe (h p.1) p.2) (h1 : refsIn (b.map Prod.fst) (l.map Prod.snd) = true) (h2 : ∀ p ∈ b, boxIn (b.map Prod.fst) p.2 = true) :
    Weak fo s h (ofL l) (ofH b) := by
  have hle : ∀ o, objLe (h o) ((fun o => if o ∈ b.map Prod.fst then ofH b o else h o) o) := by
    intro o
    by_cases e : o ∈ b.map Prod.fst
    · simp only [e, if_true]; exact ofH_le hh o e
    · simp only [e, if_false]; exact objLe_refl _
  refine (weak_rows hle).trans ?_
  have hk : Keep (l.map Prod.fst) (b.map Prod.fst) s (fun o => if o ∈ b.map Prod.fst then ofH b o else h o) := by
    constructor
    · intro t ht o ho
      rw [List.mem_map] at ht
      obtain ⟨p, hp, rfl⟩ := ht
      rw [hs p hp] at ho
      unfold refsIn at h1
      rw [List.all_eq_true] at h1
      have := h1 p.2 (List.mem_map_of_mem hp)
      rw [List.all_eq_true] at this
      simpa using this o ho
    · intro o ho ty cells e x hx o' ho'
      simp only [ho, if_true] at e
      obtain ⟨p, hp, e2⟩ := ofH_mem o ho
      rw [e2] at e
      have := h2 p hp
      rw [e] at this
      unfold boxIn refsIn at this
      rw [List.all_eq_true] at this
      have := this x hx
      rw [List.all_eq_true] at this
      simpa using this o' ho'
  have := weak_keep (fo := fo) hk (fun o ho => by rw [List.all_eq_true] at hfo; simpa using hfo o ho)
  rw [keepS_eq hs] at this
  have e : keepH (b.map Prod.fst) (fun o => if o ∈ b.map Prod.fst then ofH b o else h o) = ofH b := by
    funext o
    rw [keepH_apply]
    by_cases e : o ∈ b.map Prod.fst
    · simp only [e, if_true]
    · simp only [e, if_false]; exact (ofH_out o e).symm
  rwa [e] at this

/-- A LOOP whose head is a finite state that depends on an index of any type. -/
theorem awp_for [Glb] {P : Program} {nt : Nat} {fo : List Nat} {Q : APost} {s : Slots} {h : AH} {c : Code} {ι : Type} (S : ι → List (Nat × AV)) (H : ι → List (Nat × AObj)) (m : ι → Nat) (J : ι → Prop) (i0 : ι) (h0 : J i0) (hs : ∀ p ∈ S i0, s p.1 = p.2) (hh : ∀ p ∈ H i0, objLe (h p.1) p.2)
    (hfo : ∀ i, J i → (fo.all fun o => decide (o ∈ (H i).map Prod.fst)) = true) (hr : ∀ i, J i → refsIn ((H i).map Prod.fst) ((S i).map Prod.snd) = true) (hb : ∀ i, J i → ((H i).all fun p => boxIn ((H i).map Prod.fst) p.2) = true)
    (round : ∀ i, J i → AWp P nt fo c (thenQ (fun s' h' => ∃ j, J j ∧ m j < m i ∧ (∀ p ∈ S j, s' p.1 = p.2) ∧ (∀ p ∈ H j, objLe (h' p.1) p.2)) Q) (ofL (S i)) (ofH (H i))) : AWp P nt fo (.loop c) Q s h := by
  intro E a w I R
  refine wp_loop_ghost (fun n a w => ∃ i, J i ∧ m i = n ∧ Rel E nt (ofL (S i)) (ofH (H i)) a w) (m i0) ⟨i0, h0, rfl, weak_cut (hfo i0 h0) hs hh (hr i0 h0) (List.all_eq_true.1 (hb i0 h0)) E nt a w I R⟩ ?_
  rintro n a w ⟨i, hj, rfl, R⟩
  refine wp_mono (round i hj E a w I R) fun e a' w' ⟨s', h', q, R'⟩ => ?_
  cases e with
  | normal =>
    obtain ⟨j, q1, q2, q3, q4⟩ := q
    exact ⟨m j, q2, j, q1, rfl, weak_cut (hfo j q1) q3 q4 (hr j q1) (List.all_eq_true.1 (hb j q1)) E nt a' w' I R'⟩
  | _ => exact ⟨s', h', q, R'⟩

/-- To forget: only the listed slots and objects stay. -/
theorem awp_cut [Glb] {P : Program} {nt : Nat} {fo : List Nat} {Q : APost} {s : Slots} {h : AH} {c : Code} (l : List (Nat × AV)) (b : List (Nat × AObj)) (hs : ∀ p ∈ l, s p.1 = p.2) (hh : ∀ p ∈ b, objLe (h p.1) p.2)
    (hfo : (fo.all fun o => decide (o ∈ b.map Prod.fst)) = true) (h1 : refsIn (b.map Prod.fst) (l.map Prod.snd) = true) (h2 : (b.all fun p => boxIn (b.map Prod.fst) p.2) = true) (hn : AWp P nt fo c Q (ofL l) (ofH b)) : AWp P nt fo c Q s h := AWp.weak (weak_cut hfo hs hh h1 (List.all_eq_true.1 h2)) hn

/-- A row becomes immutable, the rest is forgotten but for the listed. -/
theorem awp_frz [Glb] {P : Program} {nt : Nat} {fo : List Nat} {Q : APost} {s : Slots} {h : AH} {c : Code} (o : Nat) {ty : TypeId} {sz n : Nat} {f : Nat → List CV} (l : List (Nat × AV)) (b : List (Nat × AObj)) (ho : h o = .row ty sz n f) (hs : ∀ p ∈ l, frzS o sz n f s p.1 = p.2) (hh : ∀ p ∈ b, objLe (frzH o sz n f h p.1) p.2)
    (hof : (fo.all fun q => q != o) = true) (hfo : (fo.all fun o => decide (o ∈ b.map Prod.fst)) = true) (h1 : refsIn (b.map Prod.fst) (l.map Prod.snd) = true) (h2 : (b.all fun p => boxIn (b.map Prod.fst) p.2) = true) (hn : AWp P nt fo c Q (ofL l) (ofH b)) : AWp P nt fo c Q s h := AWp.weak ((weak_freeze o (fun hm => by rw [List.all_eq_true] at hof; simpa using hof o hm) ty sz n f ho).trans (weak_cut hfo hs hh h1 (List.all_eq_true.1 h2))) hn

theorem frzS_apply (o sz n : Nat) (f : Nat → List CV) (s : Slots) (t : Nat) : frzS o sz n f s t = (s t).frz o sz n f := rfl
theorem frzH_apply (o sz n : Nat) (f : Nat → List CV) (h : AH) (q : Nat) : frzH o sz n f h q = if q = o then .gone else (h q).frz o sz n f := rfl
theorem frz_c (o sz n : Nat) (f : Nat → List CV) (x : CV) : (AV.c x).frz o sz n f = .c x := rfl
theorem frz_ptr (o sz n : Nat) (f : Nat → List CV) (a b : Nat) : (AV.ptr a b).frz o sz n f = .ptr a b := rfl
theorem frz_emp (o sz n : Nat) (f : Nat → List CV) : AV.emp.frz o sz n f = .emp := rfl
theorem frz_own (o sz n : Nat) (f : Nat → List CV) (a L : Nat) : (AV.own a L).frz o sz n f = if a = o then (if L = n then .c (.im sz n f) else .c .any) else .own a L := rfl
theorem frz_agg (o sz n : Nat) (f : Nat → List CV) (xs : List AV) : (AV.agg xs).frz o sz n f = .agg (xs.map (AV.frz1 o sz n f)) := rfl
theorem frz_box (o sz n : Nat) (f : Nat → List CV) (ty : TypeId) (xs : List AV) : (AObj.box ty xs).frz o sz n f = .box ty (xs.map (AV.frz o sz n f)) := rfl
theorem frz_row (o sz n : Nat) (f : Nat → List CV) (ty : TypeId) (a b : Nat) (g : Nat → List CV) : (AObj.row ty a b g).frz o sz n f = .row ty a b g := rfl

theorem sub_agg {xs ys : List CV} (h : Subs xs ys) : CV.Sub (.agg xs) (.agg ys) := CV.Sub.agg h.length fun i hi => h.get i hi
theorem sub_tup {xs ys : List CV} (h : Subs xs ys) : CV.Sub (.tup xs) (.tup ys) := CV.Sub.tup h.length fun i hi => h.get i hi

theorem sub_im {sz n n' : Nat} {f f' : Nat → List CV} (hn : n = n') (h : ∀ i, i < n → Subs (f i) (f' i)) : CV.Sub (.im sz n f) (.im sz n' f') := by
  refine CV.Sub.im' hn (fun i hi => (h i hi).length.symm) fun i j hi hj => ?_
  by_cases hl : j < (f i).length
  · exact (h i hi).get j hl
  · have h2 := (h i hi).length
    rw [List.getD_eq_getElem?_getD, List.getD_eq_getElem?_getD, List.getElem?_eq_none (by omega), List.getElem?_eq_none (by omega)]
    exact CV.Sub.refl _

/-- A row after one element was appended. -/
theorem snoc_row {α : Type} (F : α → List CV) (d : α) (l : List α) (x : α) {ty : TypeId} {sz : Nat} :
    objLe (.row ty sz (l.length + 1) (fun q => if q < l.length then F (l.getD q d) else [F x].getD (q - l.length) [])) (.row ty sz (l ++ [x]).length (fun q => F ((l ++ [x]).getD q d))) := by
  refine objLe_rown (by simp) fun i hi => ?_
  by_cases h : i < l.length
  · simp only [h, if_true, List.getD_eq_getElem?_getD, List.getElem?_append_left h]
  · have : i = l.length := by omega
    subst this
    simp

section
variable {P : Program} {s : Slots} {h : AH} {G : Bool} {x : AV}

theorem k_move {y : Operand} (hx : ev s y = x) : aop0 P (.move y) (ev s) G x := hx.symm
theorem k_assign {y : Operand} (hx : ev s y = x) : aop0 P (.assign y) (ev s) G x := hx.symm
theorem k_pick {c y z : Operand} {u v w : AV} {b p q r : Bool} (h1 : ev s c = u) (h2 : ev s y = v) (h3 : ev s z = w) (e1 : u.strip = .bool b) (e2 : v.strip = .bool p) (e3 : w.strip = .bool q)
    (hw : G = true → u.wh = true ∧ (b = true → v.wh = true) ∧ (b = false → w.wh = true)) (hr : (bif b then p else q) = r) : aop0 P (.pick c y z) (ev s) G (.bool r) := by
  subst h1 h2 h3 hr
  exact ⟨b, p, q, e1, e2, e3, hw, rfl⟩
theorem k_bin {op : BinOp} {t t2 : TypeId} {y z : Operand} {u v : AV} {v1 v2 r : Value} (h1 : ev s y = u) (h2 : ev s z = v) (e1 : u.strip = .c (.raw v1)) (e2 : v.strip = .c (.raw v2)) (hb : bin op v1 v2 = some r)
    (hw : G = true → u.wh = true ∧ v.wh = true) : aop0 P (.binOp op t y z t2) (ev s) G (.c (.raw r)) := by
  subst h1 h2
  show match (ev s y).strip with
      | .c (.raw v1) => ∃ v2 v, (ev s z).strip = .c (.raw v2) ∧ (bin op v1 v2 = some v ∨ RawBin P op t v1 v2 v) ∧ (G = true → (ev s y).wh = true ∧ (ev s z).wh = true) ∧ AV.c (CV.raw r) = .c (.raw v)
      | q => ∃ us vs v, q.rawAgg = some us ∧ (ev s z).strip.rawAgg = some vs ∧ AggBin P op t us vs v ∧ (G = true → (ev s y).wh = true ∧ (ev s z).wh = true) ∧ AV.c (CV.raw r) = .c (.raw v)
  rw [e1]
  exact ⟨v2, r, e2, .inl hb, hw, rfl⟩
theorem k_binR [Glb] {op : BinOp} {t t2 : TypeId} {y z : Operand} {u v : AV} {v1 v2 r : Value} (h1 : ev s y = u) (h2 : ev s z = v) (e1 : u.strip = .c (.raw v1)) (e2 : v.strip = .c (.raw v2)) (hb : RawBin P op t v1 v2 r)
    (hw : G = true → u.wh = true ∧ v.wh = true) : aop0 P (.binOp op t y z t2) (ev s) G (.c (.raw r)) := by
  subst h1 h2
  show match (ev s y).strip with
      | .c (.raw v1) => ∃ v2 v, (ev s z).strip = .c (.raw v2) ∧ (bin op v1 v2 = some v ∨ RawBin P op t v1 v2 v) ∧ (G = true → (ev s y).wh = true ∧ (ev s z).wh = true) ∧ AV.c (CV.raw r) = .c (.raw v)
      | q => ∃ us vs v, q.rawAgg = some us ∧ (ev s z).strip.rawAgg = some vs ∧ AggBin P op t us vs v ∧ (G = true → (ev s y).wh = true ∧ (ev s z).wh = true) ∧ AV.c (CV.raw r) = .c (.raw v)
  rw [e1]
  exact ⟨v2, r, e2, .inr hb, hw, rfl⟩
theorem k_nil {y : Operand} {u : AV} (h1 : ev s y = u) (hw : G = true → u.wh = true) (hm : u.strip.isPtr = true) : aop0 P (.nilCheck y) (ev s) G u.strip := by
  subst h1
  exact ⟨hw, hm, rfl⟩
theorem k_idx {t : TypeId} {y z : Operand} {u v : AV} {b : ByteArray} {k : IntKind} {n m : Int} (ht : P.underlying t = some .string) (h1 : ev s y = u) (h2 : ev s z = v) (e1 : u.strip = .c (.raw (.string b))) (e2 : v.strip = .c (.raw (.int k n))) (hw : G = true → u.wh = true ∧ v.wh = true)
    (hn : G = true → 0 ≤ n ∧ n < (b.size : Int)) (hr : byteAt b n.toNat = m) : aop0 P (.index t y z) (ev s) G (.c (.raw (.int .u8 m))) := by
  subst h1 h2 hr
  exact ⟨ht, b, k, n, e1, e2, fun g => ⟨(hw g).1, (hw g).2, (hn g).1, (hn g).2⟩, rfl⟩
theorem k_mkI {t : TypeId} {y : Operand} {u : AV} {d : TypeDesc} {v : Value} (ht : P.underlying t = some d) (hd : notIface d = true) (h1 : ev s y = u) (hw : G = true → u.wh = true) (e1 : u.strip = .c (.raw v)) : aop0 P (.makeInterface t y) (ev s) G (.c (.raw (.iface t v))) := by
  subst h1
  exact ⟨⟨d, ht, hd⟩, hw, v, .inl e1, rfl⟩
theorem k_mkA {t : TypeId} {y : Operand} {u : AV} {d : TypeDesc} {us : List Value} (ht : P.underlying t = some d) (hd : notIface d = true) (h1 : ev s y = u) (hw : G = true → u.wh = true) (e1 : u.strip.rawAgg = some us) : aop0 P (.makeInterface t y) (ev s) G (.c (.raw (.iface t (.agg us.toArray)))) := by
  subst h1
  exact ⟨⟨d, ht, hd⟩, hw, _, .inr ⟨us, e1, rfl⟩, rfl⟩
theorem k_mkF {f : FuncId} {caps : Array Operand} {us : List AV} {os : List Nat} (h1 : (caps.toList.map (ev s)) = us) (hw : G = true → (us.all AV.wh) = true) (hm : (us.map AV.strip) = os.map (fun o => .ptr o 0)) : aop0 P (.makeFunc (.func f) #[] caps) (ev s) G (.fn f os) := by
  subst h1
  refine ⟨f, os, rfl, rfl, fun g y hy => ?_, by rw [List.map_map] at hm; exact hm, rfl⟩
  have := hw g
  rw [List.all_eq_true] at this
  exact this _ (List.mem_map_of_mem hy)
theorem k_binA {op : BinOp} {t t2 : TypeId} {y z : Operand} {u v : AV} {us vs : List Value} {r : Value} (h1 : ev s y = u) (h2 : ev s z = v) (e1 : u.strip.rawAgg = some us) (e2 : v.strip.rawAgg = some vs) (hb : AggBin P op t us vs r)
    (hw : G = true → u.wh = true ∧ v.wh = true) : aop0 P (.binOp op t y z t2) (ev s) G (.c (.raw r)) := by
  subst h1 h2
  show match (ev s y).strip with
      | .c (.raw v1) => ∃ v2 v, (ev s z).strip = .c (.raw v2) ∧ (bin op v1 v2 = some v ∨ RawBin P op t v1 v2 v) ∧ (G = true → (ev s y).wh = true ∧ (ev s z).wh = true) ∧ AV.c (CV.raw r) = .c (.raw v)
      | q => ∃ us vs v, q.rawAgg = some us ∧ (ev s z).strip.rawAgg = some vs ∧ AggBin P op t us vs v ∧ (G = true → (ev s y).wh = true ∧ (ev s z).wh = true) ∧ AV.c (CV.raw r) = .c (.raw v)
  split
  · rename_i v1 h1
    rw [h1] at e1
    simp [AV.rawAgg] at e1
  · exact ⟨us, vs, r, e1, e2, hb, hw, rfl⟩
theorem k_not {t : TypeId} {y : Operand} {u : AV} {b r : Bool} (h1 : ev s y = u) (e1 : u.strip = .bool b) (hw : G = true → u.wh = true) (hr : (!b) = r) : aop0 P (.unOp .not t y) (ev s) G (.bool r) := by
  subst h1 hr
  exact ⟨b, e1, hw, rfl⟩
theorem k_neg {t : TypeId} {y : Operand} {u : AV} {k : IntKind} {n r : Int} (h1 : ev s y = u) (e1 : u.strip = .c (.raw (.int k n))) (hw : G = true → u.wh = true) (hr : k.wrap (0 - n) = r) : aop0 P (.unOp .neg t y) (ev s) G (.c (.raw (.int k r))) := by
  subst h1 hr
  exact ⟨k, n, e1, hw, rfl⟩
theorem k_field {t : TypeId} {y : Operand} {f : Nat} {u : AV} {i : TI} {off sz : Nat} (h1 : ev s y = u) (ht : tinfo P t = some i) (hf : i.fields[f]? = some (off, sz)) (hz : (sz == 0) = false) (hx : addOff off u.strip = some x) (hw : G = true → u.wh = true) :
    aop0 P (.fieldAddr t y f) (ev s) G x := by
  subst h1
  exact ⟨i, off, sz, ht, hf, by simpa using hz, hx, hw⟩
theorem k_extract {y : Operand} {j : Nat} {u : AV} {xs : List CV} {c : CV} (h1 : ev s y = u) (e1 : u.strip = .c (.tup xs)) (hw : G = true → u.wh = true) (hl : (decide (j < xs.length)) = true) (hx : xs.getD j .any = c) : aop0 P (.extract y j) (ev s) G (.c c) := by
  subst h1 hx
  exact ⟨xs, e1, fun g => ⟨hw g, by simpa using hl⟩, rfl⟩
theorem k_build {t : TypeId} {parts : Array (Nat × Operand)} {i : TI} {ps : List (Nat × AV)} {cs : List AV} (ht : tinfo P t = some i) (h1 : i.agg = true) (h2 : i.zero.isEmpty = false) (h3 : i.fields.isEmpty = false) (h4 : (i.fields.all fun p => p.2 != 0) = true)
    (hp : (parts.toList.map fun p => (p.1, ev s p.2)) = ps) (hf : bfill i.fields (i.zero.map constAV1) (ps.map fun p => (p.1, p.2.strip)) = some cs) (hw : G = true → (ps.all fun p => p.2.wh) = true) : aop0 P (.build t parts) (ev s) G (.agg cs) := by
  subst hp
  refine ⟨i, cs, ht, h1, ?_, ?_, ?_, ?_, ?_, rfl⟩
  · intro e; simp [e] at h2
  · intro e; simp [e] at h3
  · intro p hp
    rw [List.all_eq_true] at h4
    have := h4 p hp
    simpa using this
  · rw [List.map_map] at hf
    exact hf
  · intro g p hp
    have := hw g
    rw [List.all_eq_true] at this
    exact this (p.1, ev s p.2) (List.mem_map_of_mem (f := fun p => (p.1, ev s p.2)) hp)
theorem k_slice0 {t : TypeId} {i : TI} {j : TI} (ht : tinfo P t = some i) (h1 : i.slice = true) (hj : tinfo P i.elem = some j) : aop0 P (.buildSlice t 0 #[]) (ev s) G .emp := by
  refine ⟨i, j, [], ht, h1, hj, rfl, by simp, rfl, .inl rfl, ?_, rfl⟩
  intro _ p hp
  simp at hp
theorem k_sliceN {t : TypeId} {n : Nat} {parts : Array (Nat × Operand)} {i j : TI} {l : List (List CV)} (ht : tinfo P t = some i) (h1 : i.slice = true) (hj : tinfo P i.elem = some j) (hn : n = parts.size) (h0 : (n == 0) = false) (hz : j.zero.isEmpty = false) (hb : decide (n * j.size ≤ 2 ^ 24) = true)
    (hp : partsC (ev s) parts.toList 0 j.size = some l) (hw : G = true → ∀ p ∈ parts.toList, (ev s p.2).wh = true) : aop0 P (.buildSlice t n parts) (ev s) G (.c (.im j.size n fun i => l.getD i [])) := by
  have h0' : n ≠ 0 := by simpa using h0
  refine ⟨i, j, l, ht, h1, hj, hn, by simpa using hb, hp, .inr ?_, hw, by rw [if_neg h0']⟩
  intro e; simp [e] at hz
theorem k_convert {t t2 : TypeId} {y : Operand} {u : AV} {d : TypeDesc} {k k' : IntKind} {n r : Int} (h1 : ev s y = u) (hd : P.underlying t = some d) (ht : P.underlying t2 = some (.int k)) (e1 : u.strip = .c (.raw (.int k' n))) (hw : G = true → u.wh = true) (hr : k.wrap n = r) :
    aop0 P (.convert t t2 y) (ev s) G (.c (.raw (.int k r))) := by
  subst h1 hr
  exact ⟨k, k', n, ⟨d, hd⟩, ht, e1, hw, rfl⟩

/-! Loads. -/
def loadM (h : AH) (i : TI) (G : Bool) (u x : AV) : Prop :=
  match u with
  | .pim xs => (G = true → i.size ≤ xs.length) ∧ x = loadC i xs
  | .ptr o off => ∃ ty cells, h o = .box ty cells ∧ (G = true → off + i.size ≤ cells.length) ∧ x = loadA i (cells.drop off)
  | .rp o L k off => ∃ ty sz n f, h o = .row ty sz n f ∧ (G = true → L = n ∧ k < n ∧ off + i.size ≤ sz) ∧ x = loadC i ((f k).drop off)
  | _ => False
theorem k_load [Glb] {t : TypeId} {y : Operand} {u : AV} {i : TI} (h1 : ev s y = u) (ht : tinfo P t = some i) (hs : (i.agg || i.size == 1) = true) (hw : G = true → u.wh = true) (hx : loadM h i G u.strip x) : aop1 P (.load t y) (ev s) h G x := by
  subst h1
  exact ⟨i, ht, fun e => by simpa [e] using hs, hw, hx⟩
theorem lm_ptr {o off : Nat} {i : TI} {ty : TypeId} {cells : List AV} (hb : h o = .box ty cells) (hx : loadA i (cells.drop off) = x) (hl : G = true → off + i.size ≤ cells.length) : loadM h i G (.ptr o off) x := ⟨ty, cells, hb, hl, hx.symm⟩
theorem lm_pim {xs : List CV} {i : TI} (hx : loadC i xs = x) (hl : G = true → i.size ≤ xs.length) : loadM h i G (.pim xs) x := ⟨hl, hx.symm⟩
theorem lm_rp {o L k off : Nat} {i : TI} {ty : TypeId} {sz n : Nat} {f : Nat → List CV} (hb : h o = .row ty sz n f) (hx : loadC i ((f k).drop off) = x) (hl : G = true → L = n ∧ k < n ∧ off + i.size ≤ sz) : loadM h i G (.rp o L k off) x := ⟨ty, sz, n, f, hb, hl, hx.symm⟩

/-! Lengths. -/
def lenM (P : Program) (h : AH) (t : TypeId) (G : Bool) (u x : AV) : Prop :=
  match u with
  | .c (.im _ n _) => (∃ el, P.underlying t = some (.slice el)) ∧ x = .int n
  | .own o L => (∃ el, P.underlying t = some (.slice el)) ∧ ∃ ty sz n f, h o = .row ty sz n f ∧ (G = true → L = n) ∧ x = .int L
  | .osub o L _ k => (∃ el, P.underlying t = some (.slice el)) ∧ ∃ ty sz n f, h o = .row ty sz n f ∧ (G = true → L = n) ∧ x = .int k
  | .emp => (∃ el, P.underlying t = some (.slice el)) ∧ x = .int 0
  | .c (.raw (.string s)) => P.underlying t = some .string ∧ x = .int s.size
  | _ => False
theorem k_len [Glb] {y : Operand} {t : TypeId} {u : AV} (h1 : ev s y = u) (hw : G = true → u.wh = true) (hx : lenM P h t G u.strip x) : aop1 P (.call { callee := .builtin .len, args := #[y], argTypes := #[t] }) (ev s) h G x := by
  subst h1
  exact ⟨y, t, rfl, rfl, hw, hx⟩
theorem nm_im {sz n : Nat} {f : Nat → List CV} {t el : TypeId} (hu : P.underlying t = some (.slice el)) : lenM P h t G (.c (.im sz n f)) (.int n) := ⟨⟨el, hu⟩, rfl⟩
theorem nm_emp {t el : TypeId} (hu : P.underlying t = some (.slice el)) : lenM P h t G .emp (.int 0) := ⟨⟨el, hu⟩, rfl⟩
theorem nm_own {o L : Nat} {t el : TypeId} {ty : TypeId} {sz n : Nat} {f : Nat → List CV} (hu : P.underlying t = some (.slice el)) (hb : h o = .row ty sz n f) (hl : G = true → L = n) : lenM P h t G (.own o L) (.int L) := ⟨⟨el, hu⟩, ty, sz, n, f, hb, hl, rfl⟩
theorem nm_osub {o L off k : Nat} {t el : TypeId} {ty : TypeId} {sz n : Nat} {f : Nat → List CV} (hu : P.underlying t = some (.slice el)) (hb : h o = .row ty sz n f) (hl : G = true → L = n) : lenM P h t G (.osub o L off k) (.int k) := ⟨⟨el, hu⟩, ty, sz, n, f, hb, hl, rfl⟩
theorem nm_str {b : ByteArray} {t : TypeId} (hu : P.underlying t = some .string) : lenM P h t G (.c (.raw (.string b))) (.int b.size) := ⟨hu, rfl⟩

/-! Addresses of elements. -/
def idxM (h : AH) (j : TI) (n : Int) (G : Bool) (u x : AV) : Prop :=
  match u with
  | .c (.im sz m f) => (G = true → sz = j.size ∧ 0 ≤ n ∧ n < m) ∧ x = .pim (f n.toNat)
  | .own o L => ∃ ty sz m f, h o = .row ty sz m f ∧ (G = true → L = m ∧ sz = j.size ∧ 0 ≤ n ∧ n < m) ∧ x = .rp o L n.toNat 0
  | .osub o L off q => ∃ ty sz m f, h o = .row ty sz m f ∧ (G = true → L = m ∧ sz = j.size ∧ 0 ≤ n ∧ n < q) ∧ x = .rp o L (off + n.toNat) 0
  | _ => False
theorem k_index [Glb] {t : TypeId} {y z : Operand} {u v : AV} {i j : TI} {k : IntKind} {n : Int} (h1 : ev s y = u) (h2 : ev s z = v) (ht : tinfo P t = some i) (hs : i.slice = true) (hj : tinfo P i.elem = some j) (e2 : v.strip = .c (.raw (.int k n))) (hw : G = true → u.wh = true ∧ v.wh = true) (hx : idxM h j n G u.strip x) :
    aop1 P (.indexAddr t y z) (ev s) h G x := by
  subst h1 h2
  exact ⟨i, j, k, n, ht, hs, hj, e2, hw, hx⟩
theorem im_im {sz m : Nat} {f : Nat → List CV} {j : TI} {n : Int} {c : List CV} (hx : f n.toNat = c) (hl : G = true → sz = j.size ∧ 0 ≤ n ∧ n < m) : idxM h j n G (.c (.im sz m f)) (.pim c) := ⟨hl, by rw [hx]⟩
theorem im_own {o L k : Nat} {j : TI} {n : Int} {ty : TypeId} {sz m : Nat} {f : Nat → List CV} (hb : h o = .row ty sz m f) (hk : n.toNat = k) (hl : G = true → L = m ∧ sz = j.size ∧ 0 ≤ n ∧ n < m) : idxM h j n G (.own o L) (.rp o L k 0) := ⟨ty, sz, m, f, hb, hl, by rw [hk]⟩
theorem im_osub {o L off q k : Nat} {j : TI} {n : Int} {ty : TypeId} {sz m : Nat} {f : Nat → List CV} (hb : h o = .row ty sz m f) (hk : off + n.toNat = k) (hl : G = true → L = m ∧ sz = j.size ∧ 0 ≤ n ∧ n < q) : idxM h j n G (.osub o L off q) (.rp o L k 0) := ⟨ty, sz, m, f, hb, hl, by rw [hk]⟩

/-! Slices of slices. -/
def bndOf (s : Slots) : Option Operand → Option AV
  | none => none
  | some z => some (ev s z)
def bnd (G : Bool) (d l : Nat) : Option AV → Prop
  | none => l = d
  | some v => (G = true → v.wh = true) ∧ ∃ k, v.strip = .c (.raw (.int k l))
theorem bd_no {d : Nat} : bnd G d d none := rfl
theorem bd_yes {d l : Nat} {v : AV} {k : IntKind} {n : Int} (hv : v.strip = .c (.raw (.int k n))) (hn : n = (l : Nat)) (hw : G = true → v.wh = true) : bnd G d l (some v) := ⟨hw, k, by rw [hv, hn]⟩
theorem bd_one {d : Nat} : bnd G d 1 (some (.c (.raw (.int .i64 1)))) := ⟨fun _ => rfl, .i64, rfl⟩
theorem bd_nat {d l : Nat} : bnd G d l (some (.c (.raw (.int .i64 (l : Nat))))) := ⟨fun _ => rfl, .i64, rfl⟩
theorem k_sl_im [Glb] {t : TypeId} {y : Operand} {lo hi : Option Operand} {u : AV} {L H : Option AV} {sz n l hh : Nat} {f : Nat → List CV} {i j : TI} (h1 : ev s y = u) (e1 : u.strip = .c (.im sz n f)) (h2 : bndOf s lo = L) (h3 : bndOf s hi = H) (ht : tinfo P t = some i) (hs : i.slice = true) (hj : tinfo P i.elem = some j)
    (b1 : bnd G 0 l L) (b2 : bnd G n hh H) (hw : G = true → u.wh = true) (hl : G = true → l ≤ hh ∧ sz = j.size ∧ hh ≤ n) : aop1 P (.slice t y lo hi none) (ev s) h G (.c (.im sz (hh - l) fun q => f (l + q))) := by
  subst h1 h2 h3
  refine ⟨l, hh, ?_, ?_, ?_, fun g => ⟨hw g, (hl g).1⟩, ?_⟩
  · intro z e; subst e; exact b1
  · intro e; subst e; exact b1
  · intro z e; subst e; exact b2
  · rw [e1]
    exact ⟨⟨i, j, ht, hs, hj, fun g => (hl g).2⟩, fun e => by subst e; exact b2, rfl⟩
theorem k_sl_own [Glb] {t : TypeId} {y : Operand} {lo hi : Option Operand} {u : AV} {L H : Option AV} {o M : Nat} {ty : TypeId} {sz n l hh : Nat} {f : Nat → List CV} {i j : TI} (h1 : ev s y = u) (e1 : u.strip = .own o M) (hb : h o = .row ty sz n f) (h2 : bndOf s lo = L) (h3 : bndOf s hi = H) (ht : tinfo P t = some i) (hs : i.slice = true) (hj : tinfo P i.elem = some j)
    (b1 : bnd G 0 l L) (b2 : bnd G n hh H) (hw : G = true → u.wh = true) (hl : G = true → l ≤ hh ∧ M = n ∧ sz = j.size ∧ hh ≤ n) : aop1 P (.slice t y lo hi none) (ev s) h G (.osub o M l (hh - l)) := by
  subst h1 h2 h3
  refine ⟨l, hh, ?_, ?_, ?_, fun g => ⟨hw g, (hl g).1⟩, ?_⟩
  · intro z e; subst e; exact b1
  · intro e; subst e; exact b1
  · intro z e; subst e; exact b2
  · rw [e1]
    exact ⟨ty, sz, n, f, hb, ⟨i, j, ht, hs, hj, fun g => (hl g).2.2⟩, fun g => (hl g).2.1, fun e => by subst e; exact b2, rfl⟩

/-! A call by its contract. -/
theorem k_call [Glb] {f : FuncId} {args : Array Operand} {ats : Array TypeId} {us : List AV} {vs cs : List CV} {r : CV} (h1 : args.toList.map (ev s) = us) (h2 : (us.all fun u => u.strip.live h) = true) (h3 : (us.map fun u => u.strip.view h) = vs) (hw : G = true → (us.all AV.wh) = true)
    (hc : (r.flat || us.all fun u => u.strip.closedA) = true) (hs : Subs vs cs) (hp : G = true → APure P f cs r) : aop1 P (.call { callee := .value (.func f), args := args, argTypes := ats }) (ev s) h G (.c r) := by
  subst h1 h3
  rw [List.map_map] at hs
  refine ⟨cs, r, ?_, hs, ?_, hp, ?_, rfl⟩
  · intro y hy
    rw [List.all_eq_true] at h2
    exact h2 _ (List.mem_map_of_mem hy)
  · intro g y hy
    have := hw g
    rw [List.all_eq_true] at this
    exact this _ (List.mem_map_of_mem hy)
  · rw [Bool.or_eq_true] at hc
    rcases hc with hc | hc
    · exact .inl hc
    · refine .inr fun y hy => ?_
      rw [List.all_eq_true] at hc
      exact hc _ (List.mem_map_of_mem hy)

theorem k_callV [Glb] {f : FuncId} {tt : Tmp} {ut : AV} {args : Array Operand} {ats : Array TypeId} {us : List AV} {vs cs : List CV} {r : CV} (ht : ev s (.tmp tt) = ut) (htw : G = true → ut.wh = true) (hte : ut.strip = .c (.raw (.func (.func f) #[] #[]))) (h1 : args.toList.map (ev s) = us) (h2 : (us.all fun u => u.strip.live h) = true) (h3 : (us.map fun u => u.strip.view h) = vs) (hw : G = true → (us.all AV.wh) = true)
    (hc : (r.flat || us.all fun u => u.strip.closedA) = true) (hs : Subs vs cs) (hp : G = true → APure P f cs r) : aop1 P (.call { callee := .value (.tmp tt), args := args, argTypes := ats }) (ev s) h G (.c r) := by
  subst h1 h3 ht
  rw [List.map_map] at hs
  refine ⟨f, htw, hte, cs, r, ?_, hs, ?_, hp, ?_, rfl⟩
  · intro y hy
    rw [List.all_eq_true] at h2
    exact h2 _ (List.mem_map_of_mem hy)
  · intro g y hy
    have := hw g
    rw [List.all_eq_true] at this
    exact this _ (List.mem_map_of_mem hy)
  · rw [Bool.or_eq_true] at hc
    rcases hc with hc | hc
    · exact .inl hc
    · refine .inr fun y hy => ?_
      rw [List.all_eq_true] at hc
      exact hc _ (List.mem_map_of_mem hy)

/-! Writes. -/
theorem k_store_ptr {t : TypeId} {y z : Operand} {u v : AV} {i : TI} {o off : Nat} {ty : TypeId} {cells l cells' : List AV} (h1 : ev s y = u) (h2 : ev s z = v) (ht : tinfo P t = some i) (w1 : u.wh = true) (w2 : v.wh = true) (e1 : u.strip = .ptr o off) (hb : h o = .box ty cells) (hl : v.strip.cells = some l) (hn : l.length = i.size)
    (hx : setL cells off l = cells') (hle : off + i.size ≤ cells.length) : aop2 P (.store t y z) (ev s) h none o (.box ty cells') x := by
  subst h1 h2
  refine ⟨rfl, i, ht, w1, w2, ?_⟩
  rw [e1]
  exact ⟨rfl, ty, cells, l, hb, hl, hn, hle, by rw [hx]⟩
theorem k_store_rp {t : TypeId} {y z : Operand} {u v : AV} {i : TI} {o L k off : Nat} {ty : TypeId} {sz n : Nat} {f : Nat → List CV} {l : List CV} (h1 : ev s y = u) (h2 : ev s z = v) (ht : tinfo P t = some i) (w1 : u.wh = true) (w2 : v.wh = true) (e1 : u.strip = .rp o L k off) (hb : h o = .row ty sz n f) (hl : v.strip.closedCells = some l) (hn : l.length = i.size)
    (hle : L = n ∧ k < n ∧ off + i.size ≤ sz) : aop2 P (.store t y z) (ev s) h none o (.row ty sz n (upd f k (setLC (f k) off l))) x := by
  subst h1 h2
  refine ⟨rfl, i, ht, w1, w2, ?_⟩
  rw [e1]
  exact ⟨rfl, ty, sz, n, f, l, hb, hle.1, hle.2.1, hl, hn, hle.2.2, rfl⟩
theorem k_app_own {y z : Operand} {t : TypeId} {u v : AV} {i j : TI} {sz m n o L : Nat} {g f : Nat → List CV} {ty : TypeId} {d : Option Tmp} (h1 : ev s y = u) (h2 : ev s z = v) (ht : tinfo P t = some i) (hsl : i.slice = true) (hj : tinfo P i.elem = some j) (hz : (decide (0 < j.size) && j.zero.length == j.size) = true)
    (w1 : u.wh = true) (w2 : v.wh = true) (hsrc : srcOf h v.strip = some (sz, m, g)) (e1 : u.strip = .own o L) (hb : h o = .row ty j.size n f) (hc : (m = 0 ∨ sz = j.size) ∧ ty = i.elem ∧ L = n) (hle : n + m ≤ maxLen ∧ (n + m) * j.bytes ≤ 140737488355328) :
    aop2 P (.call { callee := .builtin .append, args := #[y, z], argTypes := #[t, t] }) (ev s) h d o (.row ty j.size (n + m) (fun q => if q < n then f q else g (q - n))) (.own o (n + m)) := by
  subst h1 h2
  rw [Bool.and_eq_true, decide_eq_true_eq, beq_iff_eq] at hz
  refine ⟨y, z, t, i, j, sz, m, g, rfl, rfl, ht, hsl, hj, hz.1, hz.2, w1, w2, hsrc, hc.1, ?_⟩
  rw [e1]
  exact ⟨rfl, ty, n, f, hb, hc.2.1, hc.2.2, hle.1, hle.2, rfl, rfl⟩
theorem k_app_emp {y z : Operand} {t : TypeId} {u v : AV} {i j : TI} {sz m d : Nat} {g : Nat → List CV} (h1 : ev s y = u) (h2 : ev s z = v) (ht : tinfo P t = some i) (hsl : i.slice = true) (hj : tinfo P i.elem = some j) (hz : (decide (0 < j.size) && j.zero.length == j.size) = true)
    (w1 : u.wh = true) (w2 : v.wh = true) (hsrc : srcOf h v.strip = some (sz, m, g)) (e1 : u.strip = .emp) (hgo : h d = .gone) (hc : m = 0 ∨ sz = j.size) (hle : m ≤ maxLen ∧ m * j.bytes ≤ 140737488355328) :
    aop2 P (.call { callee := .builtin .append, args := #[y, z], argTypes := #[t, t] }) (ev s) h (some d) d (.row i.elem j.size m g) (.own d m) := by
  subst h1 h2
  rw [Bool.and_eq_true, decide_eq_true_eq, beq_iff_eq] at hz
  refine ⟨y, z, t, i, j, sz, m, g, rfl, rfl, ht, hsl, hj, hz.1, hz.2, w1, w2, hsrc, hc, ?_⟩
  rw [e1]
  exact ⟨rfl, hgo, hle.1, hle.2, rfl, rfl⟩
theorem k_copy_own {y z : Operand} {t t2 : TypeId} {u v : AV} {i j : TI} {sz m n o L : Nat} {g f : Nat → List CV} {ty : TypeId} {d : Option Tmp} (h1 : ev s y = u) (h2 : ev s z = v) (ht : tinfo P t = some i) (hsl : i.slice = true) (hj : tinfo P i.elem = some j)
    (w1 : u.wh = true) (w2 : v.wh = true) (hsrc : srcOf h v.strip = some (sz, m, g)) (e1 : u.strip = .own o L) (hb : h o = .row ty j.size n f) (hc : (m = 0 ∨ sz = j.size) ∧ L = n) :
    aop2 P (.call { callee := .builtin .copy, args := #[y, z], argTypes := #[t, t2] }) (ev s) h d o (.row ty j.size n (fun q => if q < Nat.min m n then g q else f q)) (.int (Nat.min m n : Nat)) := by
  subst h1 h2
  refine ⟨y, z, t, t2, i, j, sz, m, g, rfl, rfl, ht, hsl, hj, w1, w2, hsrc, hc.1, ?_⟩
  rw [e1]
  exact ⟨rfl, ty, n, f, hb, hc.2, rfl, rfl⟩
theorem k_copy_osub {y z : Operand} {t t2 : TypeId} {u v : AV} {i j : TI} {sz m n o L off k : Nat} {g f : Nat → List CV} {ty : TypeId} {d : Option Tmp} (h1 : ev s y = u) (h2 : ev s z = v) (ht : tinfo P t = some i) (hsl : i.slice = true) (hj : tinfo P i.elem = some j)
    (w1 : u.wh = true) (w2 : v.wh = true) (hsrc : srcOf h v.strip = some (sz, m, g)) (e1 : u.strip = .osub o L off k) (hb : h o = .row ty j.size n f) (hc : (m = 0 ∨ sz = j.size) ∧ L = n) :
    aop2 P (.call { callee := .builtin .copy, args := #[y, z], argTypes := #[t, t2] }) (ev s) h d o (.row ty j.size n (fun q => if off ≤ q ∧ q < off + Nat.min m k then g (q - off) else f q)) (.int (Nat.min m k : Nat)) := by
  subst h1 h2
  refine ⟨y, z, t, t2, i, j, sz, m, g, rfl, rfl, ht, hsl, hj, w1, w2, hsrc, hc.1, ?_⟩
  rw [e1]
  exact ⟨rfl, ty, n, f, hb, hc.2, rfl, rfl⟩

/-! New objects. -/
theorem k_box {t : TypeId} {y : Operand} {u : AV} {d : Nat} {l : List AV} (h1 : ev s y = u) (w1 : u.wh = true) (hl : u.strip.cells = some l) : aop3 P (.box t y) (ev s) d (.box t l) (.ptr d 0) := by
  subst h1
  exact ⟨l, w1, hl, rfl, rfl⟩
theorem k_alloc {t : TypeId} {d : Nat} {i : TI} {l : List AV} (ht : tinfo P t = some i) (hz : i.zero.isEmpty = false) (hl : i.zero.map constAV1 = l) : aop3 P (.alloc t) (ev s) d (.box t l) (.ptr d 0) := by
  subst hl
  exact ⟨i, ht, fun e => by simp [e] at hz, rfl, rfl⟩
theorem k_make {t : TypeId} {y z : Operand} {u v : AV} {i j : TI} {k1 k2 : IntKind} {n n' : Int} {m d : Nat} {c : List CV} (h1 : ev s y = u) (h2 : ev s z = v) (ht : tinfo P t = some i) (hsl : i.slice = true) (hj : tinfo P i.elem = some j) (hz : (decide (0 < j.size) && j.zero.length == j.size) = true) (w1 : u.wh = true) (w2 : v.wh = true)
    (e1 : u.strip = .c (.raw (.int k1 n))) (e2 : v.strip = .c (.raw (.int k2 n'))) (hc : (j.zero.map fun v => (constAV1 v).closed1.getD .any) = c) (hn : n = n' ∧ n = (m : Nat) ∧ n ≤ 9223372036854775807 ∧ j.bytes * n ≤ 281474976710656) :
    aop3 P (.makeSlice t y z) (ev s) d (.row i.elem j.size m fun _ => c) (.own d m) := by
  subst h1 h2 hc
  obtain ⟨rfl, rfl, h3, h4⟩ := hn
  rw [Bool.and_eq_true, decide_eq_true_eq, beq_iff_eq] at hz
  exact ⟨i, j, k1, k2, m, ht, hsl, hj, hz.2, hz.1, w1, w2, e1, e2, by omega, h3, h4, by simp, by simp⟩
end

theorem cond_and (b p : Bool) : (bif b then p else false) = (b && p) := by cases b <;> rfl
theorem cond_or (b p : Bool) : (bif b then true else p) = (b || p) := by cases b <;> rfl

attribute [go_sem] List.set_cons_zero List.set_cons_succ frzS_apply frzH_apply frz_c frz_ptr frz_emp frz_own frz_agg frz_box frz_row Bool.and_false Bool.false_and Bool.or_false Bool.false_or Bool.or_true Bool.true_or ofL_nil ofH_nil bndOf AV.one cond_and cond_or List.cons_append List.nil_append List.append_nil bfill partsC AV.closedCells srcOf
attribute [go_sem] ne_eq not_false_eq_true not_true_eq_false true_and and_true forall_const imp_self implies_true Bool.true_and Bool.and_true Bool.false_eq_true false_implies List.getElem?_cons_zero List.getElem?_cons_succ List.drop_zero List.drop_succ_cons
attribute [go_sem] List.length_cons List.length_nil List.headD_cons List.take_succ_cons List.take_zero List.map_cons List.map_nil Nat.add_zero Nat.zero_add List.all_cons List.all_nil Bool.and_self or_self Int.toNat_natCast decide_eq_true_eq List.getElem?_toArray Option.bind_some List.getD_cons_zero List.getD_cons_succ List.toList_toArray
attribute [go_sem] List.mem_cons List.not_mem_nil or_false false_or or_true true_or forall_eq_or_imp forall_eq eq_self and_self
end Go.Am

/- The abstract machine, part 15: functions that are handed objects of their caller's and may change them, or panic: their contracts, and calls of them. Generic over the program; no condition. -/
namespace Go.Am
open Go.RowKit

/-- The objects as a world holds them. -/
structure HeapOk (w : World) (Z : Nat → Prop) (h : AH) (gs : Gs) : Prop where
  fresh : ∀ o b K, gs o = some (b, K) → b < w.heap.size ∧ ¬ Z b
  inj : ∀ o o' b K K', gs o = some (b, K) → gs o' = some (b, K') → o = o'
  objs : ∀ o, RObj w (Zf Z gs) h gs o (h o)

/-- How a call ends. -/
inductive Out where
  | ret (x : AV)
  | pan (chain : List PanicEntry)

def outOk (R : Value → AV → Prop) : Ending → Out → Prop
  | .returned v, .ret x => R v x
  | .panicked c, .pan c' => c = c'
  | _, _ => False

/-- THE CONTRACT of a function that is handed objects: wherever the arguments read as xs over the objects h, the call ends as Q says; nothing else that was there is changed. -/
def AFun [Glb] (P : Program) (f : FuncId) (xs : List AV) (h : AH) (Q : Out → AH → Prop) : Prop := Enters P f ∧
  ∀ (Z : Nat → Prop) (w : World) (gs : Gs) (vs : List Value), (∀ b, Z b → b < w.heap.size) → (∀ b, Glb.A b → Z b ∧ w.heap[b]? = Glb.M b) → HeapOk w Z h gs → vs.length = xs.length → (∀ i, i < xs.length → RA w (Zf Z gs) h gs (vs.getD i undef) (xs.getD i default)) →
    Calls P f vs.toArray w fun e w' => ∃ out h' gs', Q out h' ∧ outOk (RA w' (Zf Z gs') h' gs') e out ∧ HeapOk w' Z h' gs' ∧ BelowX (fun b => ∃ o K, gs o = some (b, K)) w w' ∧ Refs h gs h' gs' ∧
      ∀ o b K, gs' o = some (b, K) → w.heap.size ≤ b ∨ ∃ o' K', gs o' = some (b, K')

theorem AFun.mono [Glb] {P : Program} {f : FuncId} {xs : List AV} {h : AH} {Q Q' : Out → AH → Prop} (hf : AFun P f xs h Q) (hq : ∀ o h, Q o h → Q' o h) : AFun P f xs h Q' :=
  ⟨hf.1, fun Z w gs vs h1 h2 h3 h4 h5 => (hf.2 Z w gs vs h1 h2 h3 h4 h5).mono fun _ _ ⟨out, h', gs', q, r⟩ => ⟨out, h', gs', hq _ _ q, r⟩⟩

/-! Names. ρ: from the callee's numbers of the objects to the caller's. -/
def AV.ren1 (ρ : Nat → Nat) : AV → AV
  | .ptr o off => .ptr (ρ o) off
  | .rp o L i off => .rp (ρ o) L i off
  | .own o L => .own (ρ o) L
  | .osub o L off n => .osub (ρ o) L off n
  | .fn f os => .fn f (os.map ρ)
  | .when b x => .when b (x.ren1 ρ)
  | x => x
def AV.ren (ρ : Nat → Nat) : AV → AV
  | .agg xs => .agg (xs.map (AV.ren1 ρ))
  | .when b x => .when b (x.ren ρ)
  | x => x.ren1 ρ
def AObj.ren (ρ : Nat → Nat) : AObj → AObj
  | .box ty cells => .box ty (cells.map (AV.ren ρ))
  | x => x

theorem ren_row {ρ : Nat → Nat} {x : AObj} {ty : TypeId} {sz n : Nat} {f : Nat → List CV} (h : x.ren ρ = .row ty sz n f) : x = .row ty sz n f := by
  cases x <;> simp_all [AObj.ren]
theorem ren_box {ρ : Nat → Nat} {x : AObj} {ty : TypeId} {cells : List AV} (h : x.ren ρ = .box ty cells) : ∃ cs, x = .box ty cs ∧ cells = cs.map (AV.ren ρ) := by
  cases x with
  | box t c =>
    simp only [AObj.ren, AObj.box.injEq] at h
    exact ⟨c, by rw [h.1], h.2.symm⟩
  | _ => simp [AObj.ren] at h

section
variable {w : World} {Z Z' : Nat → Prop} {h h1 : AH} {gs g1 : Gs} {ρ : Nat → Nat}

/-- From the caller's names to the callee's, one cell. -/
theorem RA.unren1 (hz : ∀ b, Z' b → Z b) (x : AV) {v : Value} (hk : ∀ k ∈ x.ref1w, h (ρ k) = (h1 k).ren ρ ∧ g1 k = gs (ρ k)) (hn : v.oneCell' = true) (hx : RA w Z h gs v (x.ren1 ρ)) : RA w Z' h1 g1 v x := by
  have hl : Later w w Z Z' := ⟨Nat.le_refl _, fun _ _ _ => rfl, fun b hb _ => hz b hb⟩
  cases x with
  | c y => cases hx with | c _ _ hx => exact .c _ _ (hx.later hl)
  | agg xs => cases hx with | agg cs _ _ _ _ => simp [Value.oneCell'] at hn
  | pim xs => cases hx with | pim a _ g hb hlt hc ho hh => exact .pim a xs g (fun q => hb (hz _ q)) hlt hc ho fun j hj => (hh j hj).later hl
  | ptr o off =>
    obtain ⟨e1, e2⟩ := hk o (by simp [AV.ref1w])
    cases hx with
    | ptr _ _ b K ty cells ho hg =>
      rw [e1] at ho
      obtain ⟨cs, e3, _⟩ := ren_box ho
      exact .ptr o off b K ty cs e3 (e2.trans hg)
  | rp o L i off =>
    obtain ⟨e1, e2⟩ := hk o (by simp [AV.ref1w])
    cases hx with
    | rp ad _ _ _ _ ty sz n f ho hL hv => exact .rp ad o L i off ty sz n f (ren_row (e1 ▸ ho)) hL (by rw [e2]; exact hv)
  | own o L =>
    obtain ⟨e1, e2⟩ := hk o (by simp [AV.ref1w])
    cases hx with
    | own A k c _ _ ty sz n f ho hL hv => exact .own A k c o L ty sz n f (ren_row (e1 ▸ ho)) hL (by rw [e2]; exact hv)
  | osub o L off n =>
    obtain ⟨e1, e2⟩ := hk o (by simp [AV.ref1w])
    cases hx with
    | osub A k' c _ _ _ _ ty sz n f ho hL hv => exact .osub A k' c o L off _ ty sz n f (ren_row (e1 ▸ ho)) hL (by rw [e2]; exact hv)
  | emp => cases hx with | emp A => exact .emp A
  | fn f os =>
    cases hx with
    | fn _ cs _ hl' hh =>
      refine .fn f cs os (by simpa using hl') fun i hi => ?_
      obtain ⟨b, K, ty, cells, e1, e2, e3⟩ := hh i (by simpa using hi)
      obtain ⟨q1, q2⟩ := hk (os.getD i 0) (by rw [getD_lt hi]; exact List.getElem_mem hi)
      have e4 : (os.map ρ).getD i 0 = ρ (os.getD i 0) := by rw [getD_lt (by simpa using hi), getD_lt hi, List.getElem_map]
      rw [e4, q1] at e2
      rw [e4] at e3
      obtain ⟨cs', e5, _⟩ := ren_box e2
      exact ⟨b, K, ty, cs', e1, e5, q2.trans e3⟩
  | «when» b x =>
    cases hx with
    | «when» _ _ _ hx hu => exact .when v b x (fun e => RA.unren1 hz x hk hn (hx e)) hu

theorem RA.unren (hz : ∀ b, Z' b → Z b) (x : AV) {v : Value} (hk : ∀ k ∈ x.refsw, h (ρ k) = (h1 k).ren ρ ∧ g1 k = gs (ρ k)) (hx : RA w Z h gs v (x.ren ρ)) : RA w Z' h1 g1 v x := by
  cases x with
  | agg xs =>
    cases hx with
    | agg cs _ hl' ho hh =>
      have hl2 : cs.size = xs.length := by simpa using hl'
      refine .agg cs xs hl2 (fun i hi => ho i (by simpa using hi)) fun i hi => ?_
      have h2 := hh i (by simpa using hi)
      rw [getD_lt (by simpa using hi), List.getElem_map] at h2
      rw [getD_lt hi]
      exact RA.unren1 hz _ (fun k hm => hk k (List.mem_flatMap.2 ⟨_, List.getElem_mem hi, hm⟩)) (ho i (by simpa using hi)) h2
  | «when» b x =>
    cases hx with
    | «when» _ _ _ hx hu => exact .when v b x (fun e => RA.unren hz x hk (hx e)) hu
  | c y => cases hx with | c _ _ hx => exact .c _ _ (hx.later ⟨Nat.le_refl _, fun _ _ _ => rfl, fun b hb _ => hz b hb⟩)
  | pim xs => exact RA.unren1 hz _ hk (by cases hx; rfl) hx
  | ptr o off => exact RA.unren1 hz _ hk (by cases hx; rfl) hx
  | rp o L i off => exact RA.unren1 hz _ hk (by cases hx; rfl) hx
  | own o L => exact RA.unren1 hz _ hk (by cases hx; rfl) hx
  | osub o L off n => exact RA.unren1 hz _ hk (by cases hx; rfl) hx
  | emp => exact RA.unren1 hz _ hk (by cases hx; rfl) hx
  | fn f os => exact RA.unren1 hz _ hk (by cases hx; rfl) hx

/-- From the callee's names to the caller's, one cell. -/
theorem RA.reren1 (hz : ∀ b, Z b → Z' b) (x : AV) {v : Value} (hk : ∀ k ∈ x.ref1w, h (ρ k) = (h1 k).ren ρ ∧ gs (ρ k) = g1 k) (hn : v.oneCell' = true) (hx : RA w Z' h1 g1 v x) : RA w Z h gs v (x.ren1 ρ) := by
  have hl : Later w w Z' Z := ⟨Nat.le_refl _, fun _ _ _ => rfl, fun b hb _ => hz b hb⟩
  cases x with
  | c y => cases hx with | c _ _ hx => exact .c _ _ (hx.later hl)
  | agg xs => cases hx with | agg cs _ _ _ _ => simp [Value.oneCell'] at hn
  | pim xs => cases hx with | pim a _ g hb hlt hc ho hh => exact .pim a xs g (fun q => hb (hz _ q)) hlt hc ho fun j hj => (hh j hj).later hl
  | ptr o off =>
    obtain ⟨e1, e2⟩ := hk o (by simp [AV.ref1w])
    cases hx with
    | ptr _ _ b K ty cells ho hg => exact .ptr (ρ o) off b K ty (cells.map (AV.ren ρ)) (by rw [e1, ho]; rfl) (e2.trans hg)
  | rp o L i off =>
    obtain ⟨e1, e2⟩ := hk o (by simp [AV.ref1w])
    cases hx with
    | rp ad _ _ _ _ ty sz n f ho hL hv => exact .rp ad (ρ o) L i off ty sz n f (by rw [e1, ho]; rfl) hL (by rw [e2]; exact hv)
  | own o L =>
    obtain ⟨e1, e2⟩ := hk o (by simp [AV.ref1w])
    cases hx with
    | own A k c _ _ ty sz n f ho hL hv => exact .own A k c (ρ o) L ty sz n f (by rw [e1, ho]; rfl) hL (by rw [e2]; exact hv)
  | osub o L off n =>
    obtain ⟨e1, e2⟩ := hk o (by simp [AV.ref1w])
    cases hx with
    | osub A k' c _ _ _ _ ty sz n f ho hL hv => exact .osub A k' c (ρ o) L off _ ty sz n f (by rw [e1, ho]; rfl) hL (by rw [e2]; exact hv)
  | emp => cases hx with | emp A => exact .emp A
  | fn f os =>
    cases hx with
    | fn _ cs _ hl' hh =>
      refine .fn f cs (os.map ρ) (by simpa using hl') fun i hi => ?_
      have hi' : i < os.length := by simpa using hi
      obtain ⟨b, K, ty, cells, e1, e2, e3⟩ := hh i hi'
      obtain ⟨q1, q2⟩ := hk (os.getD i 0) (by rw [getD_lt hi']; exact List.getElem_mem hi')
      have e4 : (os.map ρ).getD i 0 = ρ (os.getD i 0) := by rw [getD_lt hi, getD_lt hi', List.getElem_map]
      rw [e4]
      exact ⟨b, K, ty, cells.map (AV.ren ρ), e1, by rw [q1, e2]; rfl, q2.trans e3⟩
  | «when» b x =>
    cases hx with
    | «when» _ _ _ hx hu => exact .when v b _ (fun e => RA.reren1 hz x hk hn (hx e)) hu

theorem RA.reren (hz : ∀ b, Z b → Z' b) (x : AV) {v : Value} (hk : ∀ k ∈ x.refsw, h (ρ k) = (h1 k).ren ρ ∧ gs (ρ k) = g1 k) (hx : RA w Z' h1 g1 v x) : RA w Z h gs v (x.ren ρ) := by
  cases x with
  | agg xs =>
    cases hx with
    | agg cs _ hl' ho hh =>
      refine .agg cs _ (by simpa using hl') (fun i hi => ho i (by simpa using hi)) fun i hi => ?_
      have hi' : i < xs.length := by simpa using hi
      have h2 := hh i hi'
      rw [getD_lt hi'] at h2
      rw [getD_lt hi, List.getElem_map]
      exact RA.reren1 hz _ (fun k hm => hk k (List.mem_flatMap.2 ⟨_, List.getElem_mem hi', hm⟩)) (ho i hi') h2
  | «when» b x =>
    cases hx with
    | «when» _ _ _ hx hu => exact .when v b _ (fun e => RA.reren hz x hk (hx e)) hu
  | c y => cases hx with | c _ _ hx => exact .c _ _ (hx.later ⟨Nat.le_refl _, fun _ _ _ => rfl, fun b hb _ => hz b hb⟩)
  | pim xs => exact RA.reren1 hz _ hk (by cases hx; rfl) hx
  | ptr o off => exact RA.reren1 hz _ hk (by cases hx; rfl) hx
  | rp o L i off => exact RA.reren1 hz _ hk (by cases hx; rfl) hx
  | own o L => exact RA.reren1 hz _ hk (by cases hx; rfl) hx
  | osub o L off n => exact RA.reren1 hz _ hk (by cases hx; rfl) hx
  | emp => exact RA.reren1 hz _ hk (by cases hx; rfl) hx
  | fn f os => exact RA.reren1 hz _ hk (by cases hx; rfl) hx
end
end Go.Am

/- The abstract machine, part 16: a call of a function that is handed objects of the caller's. Generic over the program; no condition. -/
namespace Go.Am
open Go.RowKit

/-- The listed objects of the caller's as the callee left them. -/
def appL {α β : Type} (ρ : Nat → Nat) (g : α → β) (x : Nat → α) : List Nat → (Nat → β) → Nat → β
  | [], h => h
  | k :: ks, h => appL ρ g x ks (upd h (ρ k) (g (x k)))

theorem appL_out {α β : Type} {ρ : Nat → Nat} {g : α → β} {x : Nat → α} : ∀ {ks : List Nat} {h : Nat → β} {o : Nat}, (∀ k ∈ ks, ρ k ≠ o) → appL ρ g x ks h o = h o
  | [], h, o, _ => rfl
  | k :: ks, h, o, hn => by
    rw [appL, appL_out fun k' hk' => hn k' (List.mem_cons_of_mem _ hk'), upd_ne _ _ _ _ (Ne.symm (hn k (List.mem_cons_self ..)))]
theorem appL_in {α β : Type} {ρ : Nat → Nat} {g : α → β} {x : Nat → α} : ∀ {ks : List Nat} {h : Nat → β} {k : Nat}, k ∈ ks → (∀ a ∈ ks, ∀ b ∈ ks, ρ a = ρ b → a = b) → appL ρ g x ks h (ρ k) = g (x k)
  | k0 :: ks, h, k, hk, hi => by
    rw [appL]
    by_cases hm : k ∈ ks
    · exact appL_in hm fun a ha b hb => hi a (List.mem_cons_of_mem _ ha) b (List.mem_cons_of_mem _ hb)
    · have e : k = k0 := (List.mem_cons.1 hk).resolve_right hm
      subst e
      rw [appL_out fun k' hk' e => hm (hi k' (List.mem_cons_of_mem _ hk') k (List.mem_cons_self ..) e ▸ hk'), upd_same]

/-- What a contract's objects must be: nothing outside the list, and what they lead to is in the list. -/
structure Foot (ks : List Nat) (h : AH) : Prop where
  out : ∀ k, k ∉ ks → h k = .gone
  closed : ∀ k ∈ ks, ∀ ty cells, h k = .box ty cells → ∀ x ∈ cells, ∀ k' ∈ x.refsw, k' ∈ ks

section
variable {E : Env} {w w' : World} {nt : Nat} {s : Slots} {h h1 h1' : AH} {gs g1' : Gs} {a : Act} {ρ : Nat → Nat} {ks : List Nat}

/-- The callee's view of where the objects lie. -/
def gsub (ks : List Nat) (ρ : Nat → Nat) (gs : Gs) : Gs := fun k => if k ∈ ks then gs (ρ k) else none
/-- What the callee's immutable values avoid. -/
def zsub (ks : List Nat) (ρ : Nat → Nat) (Z : Nat → Prop) (gs : Gs) : Nat → Prop := fun b => Zf Z gs b ∧ ¬ ∃ k ∈ ks, ∃ K, gs (ρ k) = some (b, K)

theorem gsub_in {k : Nat} (h : k ∈ ks) : gsub ks ρ gs k = gs (ρ k) := by simp [gsub, h]
theorem gsub_some {k b K : Nat} (e : gsub ks ρ gs k = some (b, K)) : k ∈ ks ∧ gs (ρ k) = some (b, K) := by
  unfold gsub at e
  split at e
  · exact ⟨by assumption, e⟩
  · cases e

theorem zf_sub {Z : Nat → Prop} (b : Nat) : Zf (zsub ks ρ Z gs) (gsub ks ρ gs) b ↔ Zf Z gs b := by
  constructor
  · rintro (hb | ⟨k, K, e⟩)
    · exact hb.1
    · exact .inr ⟨ρ k, K, (gsub_some e).2⟩
  · intro hb
    by_cases hk : ∃ k ∈ ks, ∃ K, gs (ρ k) = some (b, K)
    · obtain ⟨k, h1, K, e⟩ := hk
      exact .inr ⟨k, K, by rw [gsub_in h1]; exact e⟩
    · exact .inl ⟨hb, hk⟩

theorem heap_sub [Glb] (R : RelG E nt s h gs a w) (hi : ∀ a ∈ ks, ∀ b ∈ ks, ρ a = ρ b → a = b) (hf : Foot ks h1) (hh : ∀ k ∈ ks, h (ρ k) = (h1 k).ren ρ) : HeapOk w (zsub ks ρ E.Z gs) h1 (gsub ks ρ gs) := by
  have hz : ∀ b, Zf (zsub ks ρ E.Z gs) (gsub ks ρ gs) b → Zf E.Z gs b := fun b => (zf_sub b).1
  have hl : Later w w (Zf E.Z gs) (Zf (zsub ks ρ E.Z gs) (gsub ks ρ gs)) := ⟨Nat.le_refl _, fun _ _ _ => rfl, fun b hb _ => hz b hb⟩
  refine ⟨fun k b K e => ?_, fun k k' b K K' e e' => ?_, fun k => ?_⟩
  · obtain ⟨q1, q2⟩ := gsub_some e
    exact ⟨(R.fresh _ _ _ q2).2, fun hb => hb.2 ⟨k, q1, K, q2⟩⟩
  · obtain ⟨q1, q2⟩ := gsub_some e
    obtain ⟨q3, q4⟩ := gsub_some e'
    exact hi k q1 k' q3 (R.inj _ _ _ _ _ q2 q4)
  · by_cases hk : k ∈ ks
    · have hob := R.objs (ρ k)
      rw [hh k hk] at hob
      have hg := gsub_in (ρ := ρ) (gs := gs) hk
      cases hx : h1 k with
      | gone =>
        rw [hx] at hob
        exact hg.trans hob
      | blk b ob =>
        rw [hx] at hob
        obtain ⟨K, q1, q2⟩ := hob
        exact ⟨K, hg.trans q1, q2⟩
      | box ty cells =>
        rw [hx] at hob
        obtain ⟨b, K, cur, q1, q2, q3, q4, q5⟩ := hob
        refine ⟨b, K, cur, hg.trans q1, q2, by simpa using q3, fun j hj => q4 j (by simpa using hj), fun j hj => ?_⟩
        have h5 := q5 j (by simpa using hj)
        rw [getD_lt (by simpa using hj), List.getElem_map] at h5
        rw [getD_lt hj]
        exact RA.unren hz _ (fun k' hk' => by
          have hm := hf.closed k hk ty cells hx _ (List.getElem_mem hj) k' hk'
          exact ⟨hh k' hm, gsub_in hm⟩) h5
      | row ty sz n f =>
        rw [hx] at hob
        rcases hob with ⟨q1, q2⟩ | ⟨b', K', cur, q1, q2, q3, q4, q5, q6, q7, q8⟩
        · exact .inl ⟨hg.trans q1, q2⟩
        · exact .inr ⟨b', K', cur, hg.trans q1, q2, q3, q4, q5, q6, q7, fun i j hi hj => (q8 i j hi hj).later hl⟩
    · rw [hf.out k hk]
      show gsub ks ρ gs k = none
      simp [gsub, hk]

/-- Behind the call. -/
theorem heap_back [Glb] (R : RelG E nt s h gs a w) (hi : ∀ a ∈ ks, ∀ b ∈ ks, ρ a = ρ b → a = b) (hf : Foot ks h1) (hh : ∀ k ∈ ks, h (ρ k) = (h1 k).ren ρ) (hf' : Foot ks h1')
    (hok : HeapOk w' (zsub ks ρ E.Z gs) h1' g1') (hb : BelowX (fun b => ∃ o K, gsub ks ρ gs o = some (b, K)) w w') (hr : Refs h1 (gsub ks ρ gs) h1' g1')
    (hnew : ∀ o b K, g1' o = some (b, K) → w.heap.size ≤ b ∨ ∃ o' K', gsub ks ρ gs o' = some (b, K')) :
    RelG E nt s (appL ρ (AObj.ren ρ) h1' ks h) (appL ρ id g1' ks gs) a w' ∧ ∀ v x, (∀ k ∈ x.refsw, k ∈ ks) → RA w' (Zf (zsub ks ρ E.Z gs) g1') h1' g1' v x → RA w' (Zf E.Z (appL ρ id g1' ks gs)) (appL ρ (AObj.ren ρ) h1' ks h) (appL ρ id g1' ks gs) v (x.ren ρ) := by
  have hH : ∀ k ∈ ks, appL ρ (AObj.ren ρ) h1' ks h (ρ k) = (h1' k).ren ρ := fun k hk => appL_in hk hi
  have hG : ∀ k ∈ ks, appL ρ id g1' ks gs (ρ k) = g1' k := fun k hk => appL_in hk hi
  have hHo : ∀ o, (∀ k ∈ ks, ρ k ≠ o) → appL ρ (AObj.ren ρ) h1' ks h o = h o := fun o ho => appL_out ho
  have hGo : ∀ o, (∀ k ∈ ks, ρ k ≠ o) → appL ρ id g1' ks gs o = gs o := fun o ho => appL_out ho
  generalize appL ρ (AObj.ren ρ) h1' ks h = hN at *
  generalize appL ρ id g1' ks gs = gN at *
  have dec : ∀ o, (∃ k ∈ ks, ρ k = o) ∨ ∀ k ∈ ks, ρ k ≠ o := fun o => by
    by_cases q : ∃ k ∈ ks, ρ k = o
    · exact .inl q
    · exact .inr fun k hk e => q ⟨k, hk, e⟩
  have gout : ∀ k, k ∉ ks → g1' k = none := fun k hk => by
    have := hok.objs k
    rw [hf'.out k hk] at this
    exact this
  have foot : ∀ k b K, g1' k = some (b, K) → k ∈ ks := fun k b K e => by
    by_cases hk : k ∈ ks
    · exact hk
    · rw [gout k hk] at e; cases e
  have hz : ∀ b, Zf E.Z gN b → Zf (zsub ks ρ E.Z gs) g1' b := by
    rintro b (hb' | ⟨o, K, e⟩)
    · refine .inl ⟨.inl hb', ?_⟩
      rintro ⟨k, _, K, e⟩
      have h1 := R.zlt b hb'
      rcases (R.fresh _ _ _ e).1 with h2 | h2
      · omega
      · exact (R.zd b h2).1 hb'
    · rcases dec o with ⟨k, hk, rfl⟩ | hno
      · rw [hG k hk] at e
        exact .inr ⟨k, K, e⟩
      · rw [hGo o hno] at e
        refine .inl ⟨.inr ⟨o, K, e⟩, ?_⟩
        rintro ⟨k, hk, K', e'⟩
        exact hno k hk (R.inj _ _ _ _ _ e' e)
  have hL : Later w w' (Zf E.Z gs) (Zf E.Z gN) := by
    refine ⟨hb.size, fun b hb' hlt => hb.block b hlt ?_, fun b hb' hlt => ?_⟩
    · rintro ⟨k, K, e⟩
      exact hb' (.inr ⟨ρ k, K, (gsub_some e).2⟩)
    · rcases hb' with hb' | ⟨o, K, e⟩
      · exact .inl hb'
      · rcases dec o with ⟨k, hk, rfl⟩ | hno
        · rw [hG k hk] at e
          rcases hnew k b K e with q | ⟨k', K', q⟩
          · omega
          · exact .inr ⟨ρ k', K', (gsub_some q).2⟩
        · rw [hGo o hno] at e
          exact .inr ⟨o, K, e⟩
  have hrefs : Refs h gs hN gN := by
    refine ⟨fun o ty cells e => ?_, fun o ty sz n f e => ?_⟩
    · rcases dec o with ⟨k, hk, rfl⟩ | hno
      · rw [hh k hk] at e
        obtain ⟨cs, e1, _⟩ := ren_box e
        obtain ⟨⟨ty', cs', e2⟩, e3⟩ := hr.box k ty cs e1
        rw [hH k hk, hG k hk, e3, gsub_in hk, e2]
        exact ⟨⟨ty', _, rfl⟩, rfl⟩
      · rw [hHo o hno, hGo o hno]
        exact ⟨⟨ty, cells, e⟩, rfl⟩
    · rcases dec o with ⟨k, hk, rfl⟩ | hno
      · rw [hh k hk] at e
        obtain ⟨n', f', e1, e2, e3⟩ := hr.row k ty sz n f (ren_row e)
        rw [hH k hk, hG k hk, e1]
        exact ⟨n', f', rfl, e2, fun q => by rw [e3 q, gsub_in hk]⟩
      · rw [hHo o hno, hGo o hno]
        exact ⟨n, f, e, Nat.le_refl _, fun _ => rfl⟩
  have hl' : Later w' w' (Zf (zsub ks ρ E.Z gs) g1') (Zf E.Z gN) := ⟨Nat.le_refl _, fun _ _ _ => rfl, fun b hb' _ => hz b hb'⟩
  refine ⟨⟨?_, R.zlt, R.zd, R.glob, ?_, ?_, ?_, fun t => (R.slots t).later hL hrefs, R.size, R.defers, R.refs.trans hrefs⟩, fun v x hx hv => RA.reren hz _ (fun k hk => ⟨hH k (hx k hk), hG k (hx k hk)⟩) hv⟩
  · refine ⟨hb.os.trans R.below.os, hb.tape.trans R.below.tape, hb.output.trans R.below.output, Nat.le_trans R.below.size hb.size, fun k hk hd => ?_⟩
    refine (hb.block k (Nat.lt_of_lt_of_le hk R.below.size) ?_).trans (R.below.block k hk hd)
    rintro ⟨o, K, e⟩
    rcases (R.fresh _ _ _ (gsub_some e).2).1 with q | q
    · omega
    · exact hd q
  · intro o b K e
    rcases dec o with ⟨k, hk, rfl⟩ | hno
    · rw [hG k hk] at e
      refine ⟨?_, (hok.fresh k b K e).1⟩
      rcases hnew k b K e with q | ⟨k', K', q⟩
      · exact .inl (Nat.le_trans R.below.size q)
      · exact (R.fresh _ _ _ (gsub_some q).2).1
    · rw [hGo o hno] at e
      have := R.fresh o b K e
      exact ⟨this.1, Nat.lt_of_lt_of_le this.2 hb.size⟩
  · intro o o' b K K' e e'
    have cross : ∀ k o' b K K', k ∈ ks → (∀ k ∈ ks, ρ k ≠ o') → g1' k = some (b, K) → gs o' = some (b, K') → False := by
      intro k o' b K K' hk hno e1 e2
      rcases hnew k b K e1 with q | ⟨k', K'', q⟩
      · have := (R.fresh _ _ _ e2).2
        omega
      · obtain ⟨q1, q2⟩ := gsub_some q
        exact hno k' q1 (R.inj _ _ _ _ _ q2 e2)
    rcases dec o with ⟨k, hk, rfl⟩ | hno <;> rcases dec o' with ⟨k', hk', rfl⟩ | hno'
    · rw [hG k hk] at e
      rw [hG k' hk'] at e'
      rw [hok.inj k k' b K K' e e']
    · rw [hG k hk] at e
      rw [hGo o' hno'] at e'
      exact (cross k o' b K K' hk hno' e e').elim
    · rw [hGo o hno] at e
      rw [hG k' hk'] at e'
      exact (cross k' o b K' K hk' hno e' e).elim
    · rw [hGo o hno] at e
      rw [hGo o' hno'] at e'
      exact R.inj o o' b K K' e e'
  · intro o
    rcases dec o with ⟨k, hk, rfl⟩ | hno
    · have hob := hok.objs k
      rw [hH k hk]
      cases hx : h1' k with
      | gone =>
        rw [hx] at hob
        exact (hG k hk).trans hob
      | blk b ob =>
        rw [hx] at hob
        obtain ⟨K, q1, q2⟩ := hob
        exact ⟨K, (hG k hk).trans q1, q2⟩
      | box ty cells =>
        rw [hx] at hob
        obtain ⟨b, K, cur, q1, q2, q3, q4, q5⟩ := hob
        refine ⟨b, K, cur, (hG k hk).trans q1, q2, by simpa using q3, fun j hj => q4 j (by simpa using hj), fun j hj => ?_⟩
        have hj' : j < cells.length := by simpa using hj
        have h5 := q5 j hj'
        rw [getD_lt hj'] at h5
        rw [getD_lt hj, List.getElem_map]
        exact RA.reren hz _ (fun k' hk' => by
          have hm := hf'.closed k hk ty cells hx _ (List.getElem_mem hj') k' hk'
          exact ⟨hH k' hm, hG k' hm⟩) h5
      | row ty sz n f =>
        rw [hx] at hob
        rcases hob with ⟨q1, q2⟩ | ⟨b', K', cur, q1, q2, q3, q4, q5, q6, q7, q8⟩
        · exact .inl ⟨(hG k hk).trans q1, q2⟩
        · exact .inr ⟨b', K', cur, (hG k hk).trans q1, q2, q3, q4, q5, q6, q7, fun i j hi hj => (q8 i j hi hj).later hl'⟩
    · rw [hHo o hno]
      refine (R.objs o).later hL hrefs (hGo o hno) fun b K e => hb.block b (R.fresh o b K e).2 ?_
      rintro ⟨k, K', e'⟩
      obtain ⟨q1, q2⟩ := gsub_some e'
      exact hno k q1 (R.inj _ _ _ _ _ q2 e)
end
end Go.Am

/- The abstract machine, part 17: the contract of a function that is handed objects, from its body; calls and panics in a region. Generic over the program; no condition. -/
namespace Go.Am
open Go.RowKit

section
variable {P : Program} {E : Env} {w : World} {nt : Nat} {s : Slots} {h : AH} {gs : Gs} {a : Act} {fo : List Nat}

/-- What is left of the objects. -/
def gkeep (fo : List Nat) (gs : Gs) : Gs := fun o => if o ∈ fo then gs o else none

theorem view1_gen [Glb] (R : RelG E nt s h gs a w) {Z : Nat → Prop} (hz : ∀ b, Z b → Zf E.Z gs b) {v : Value} {x : AV} (hnz : ∀ o ∈ x.ref1w, ∀ b K, gs o = some (b, K) → ¬ Z b) (hx : RA w (Zf E.Z gs) h gs v x) : RC w Z v (x.view1 h) := by
  have less : ∀ {v : Value} {x : CV}, RC w (Zf E.Z gs) v x → RC w Z v x := fun hx => hx.less hz
  cases hx with
  | c _ y hy => exact less hy
  | emp A => exact .nul _ _ _ _
  | own A k c o L ty sz n f ho hL hv =>
    have nz := hnz o (by simp [AV.ref1w])
    simp only [AV.view1, ho]
    split
    · rename_i hl
      have hob := R.objs o
      rw [ho] at hob
      rcases hv hl with ⟨b, K, g1, rfl, rfl, rfl⟩ | ⟨g1, rfl, rfl⟩
      · rcases hob with ⟨q1, q2⟩ | ⟨b', K', cur, q1, q2, q3, q4, q5, q6, q7, q8⟩
        · rw [g1] at q1; cases q1
        · rw [g1] at q1
          simp only [Option.some.injEq, Prod.mk.injEq] at q1
          obtain ⟨rfl, rfl⟩ := q1
          have hn : k * sz ≤ c * sz := Nat.mul_le_mul_right _ q4
          refine .im _ k c sz f (fun j => cur.getD j undef) (nz _ _ g1) (R.fresh _ _ _ g1).2 q4 (fun j hj => ?_) q7 q6 fun i j hi hj => less (q8 i j hi hj)
          rw [addr_lit, Nat.zero_add]
          exact cell_of_heap q2 (by omega)
      · rcases hob with ⟨q1, rfl⟩ | ⟨b', K', cur, q1, _⟩
        · exact .nul _ _ _ _
        · rw [g1] at q1; cases q1
    · exact .any _
  | osub A k' c o L off k ty sz n f ho hL hv =>
    have nz := hnz o (by simp [AV.ref1w])
    simp only [AV.view1, ho]
    split
    · rename_i hl
      have hob := R.objs o
      rw [ho] at hob
      obtain ⟨v1, rfl, v3, v4⟩ := hv hl
      rcases Nat.eq_zero_or_pos k' with h0 | h0
      · subst h0
        exact .nul _ _ _ _
      · obtain ⟨b, K, g1, rfl⟩ := v4 h0
        rcases hob with ⟨q1, q2⟩ | ⟨b', K', cur, q1, q2, q3, q4, q5, q6, q7, q8⟩
        · rw [g1] at q1; cases q1
        · rw [g1] at q1
          simp only [Option.some.injEq, Prod.mk.injEq] at q1
          obtain ⟨rfl, rfl⟩ := q1
          have hn : n * sz ≤ K * sz := Nat.mul_le_mul_right _ q4
          have ho2 : off * sz + k' * sz ≤ n * sz := by rw [← Nat.add_mul]; exact Nat.mul_le_mul_right _ v1
          refine .im _ k' c sz _ (fun j => cur.getD (off * sz + j) undef) (nz _ _ g1) (R.fresh _ _ _ g1).2 v3 (fun j hj => ?_) (fun j hj => q7 _ (by omega)) (fun i hi => q6 _ (by omega)) fun i j hi hj => ?_
          · rw [addr_lit]
            exact cell_of_heap q2 (by omega)
          · have := q8 (off + i) j (by omega) hj
            rw [Nat.add_mul, Nat.add_assoc] at this
            exact less this
    · exact .any _
  | _ => exact .any _

theorem view_gen [Glb] (R : RelG E nt s h gs a w) {Z : Nat → Prop} (hz : ∀ b, Z b → Zf E.Z gs b) {v : Value} {x : AV} (hnz : ∀ o ∈ x.refsw, ∀ b K, gs o = some (b, K) → ¬ Z b) (hx : RA w (Zf E.Z gs) h gs v x) : RC w Z v (x.view h) := by
  cases hx with
  | agg cs xs hl ho hh =>
    refine .agg cs _ (by simpa using hl) (fun i hi => ho i (by simpa using hi)) fun i hi => ?_
    have hi' : i < xs.length := by simpa using hi
    rw [getD_lt hi, List.getElem_map]
    have h1 := hh i hi'
    rw [getD_lt hi'] at h1
    exact view1_gen R hz (fun o hm => hnz o (List.mem_flatMap.2 ⟨_, List.getElem_mem hi', hm⟩)) h1
  | c _ y hy => exact view1_gen R hz hnz (.c _ y hy)
  | emp A => exact view1_gen R hz hnz (.emp A)
  | own A k c o L ty sz n f ho hL hv => exact view1_gen R hz hnz (.own A k c o L ty sz n f ho hL hv)
  | osub A k' c o L off k ty sz n f ho hL hv => exact view1_gen R hz hnz (.osub A k' c o L off k ty sz n f ho hL hv)
  | _ => exact .any _

theorem rets_gen [Glb] (R : RelG E nt s h gs a w) {Z : Nat → Prop} (hz : ∀ b, Z b → Zf E.Z gs b) {fn : Func} {xs : List AV} (hnz : ∀ x ∈ xs, ∀ o ∈ x.refsw, ∀ b K, gs o = some (b, K) → ¬ Z b) (hr : retAll P s h fn.results.toList xs) :
    ∃ v, (results fn a.tmps).run P w = .ok v w ∧ RC w Z v (tupled (xs.map fun x => x.view h)) ∧ ∀ x, xs = [x] → RA w (Zf E.Z gs) h gs v x := by
  obtain ⟨vs, h1, h2, h3⟩ := rets_run R _ xs hr
  have hm : (results fn a.tmps).run P w = .ok (if hh : vs.toArray.size = 1 then vs.toArray[0] else .tuple vs.toArray) w := by
    rw [results_eq, ← Array.toArray_toList (xs := fn.results), List.mapM_toArray]
    simp only [Sem.run_bind, Sem.run_map, h1, Result.andThen_ok, Sem.run_pure]
  refine ⟨_, hm, ?_⟩
  clear hm h1 hr
  match vs, xs, h2, h3, hnz with
  | [v], [x], _, h3, hnz => exact ⟨view_gen R hz (hnz x (by simp)) (h3 0 (by simp)), fun y e => by injection e with e; subst e; exact h3 0 (by simp)⟩
  | [], [], _, _, _ => exact ⟨.tup #[] [] rfl fun i hi => by simp at hi, fun y e => by cases e⟩
  | v1 :: v2 :: vs, x1 :: x2 :: xs, h2, h3, hnz =>
    have hne : ¬ (v1 :: v2 :: vs).toArray.size = 1 := by simp
    rw [dif_neg hne]
    refine ⟨.tup _ _ (by simpa using h2) fun i hi => ?_, fun y e => by cases e⟩
    have hi' : i < (x1 :: x2 :: xs).length := by simpa using hi
    have hiv : i < (v1 :: v2 :: vs).length := by rw [h2]; exact hi'
    have h5 := h3 i hi'
    rw [getD_lt hiv, getD_lt hi'] at h5
    have h4 := view_gen R hz (hnz _ (List.getElem_mem hi')) h5
    have e1 : (v1 :: v2 :: vs).toArray.getD i undef = (v1 :: v2 :: vs)[i] := by
      have : i < (v1 :: v2 :: vs).toArray.size := by simpa using hiv
      simp only [Array.getD, this, dite_true, Array.getInternal_eq_getElem, List.getElem_toArray]
    rw [e1, getD_lt hi]
    simp only [← List.map_cons, List.getElem_map]
    exact h4
end

/-- What a body hands back. -/
def FRetQ [Glb] (P : Program) (fn : Func) (fo : List Nat) (Q : Out → AH → Prop) : APost
  | .ret, s, h | .normal, s, h => (fo.all fun o => boxIn fo (h o)) = true ∧ ∃ xs, retAll P s h fn.results.toList xs ∧
      ((∃ r, (∀ x ∈ xs, ∀ o ∈ x.refsw, o ∉ fo) ∧ CV.Sub (tupled (xs.map fun x => x.view h)) r ∧ Q (.ret (.c r)) (keepH fo h)) ∨ ∃ x, xs = [x] ∧ (∀ o ∈ x.refsw, o ∈ fo) ∧ Q (.ret x) (keepH fo h))
  | .panic c, _, h => (fo.all fun o => boxIn fo (h o)) = true ∧ Q (.pan c) (keepH fo h)
  | _, _, _ => False

def entryA (xs : List AV) : Slots := fun t => xs.getD t (.c .any)

theorem keep_of_boxIn {fo : List Nat} {s : Slots} {h : AH} (hb : (fo.all fun o => boxIn fo (h o)) = true) : Keep [] fo s h := by
  refine ⟨fun t ht => by simp at ht, fun o ho ty cells e x hx o' ho' => ?_⟩
  rw [List.all_eq_true] at hb
  have := hb o ho
  rw [e] at this
  unfold boxIn refsIn at this
  rw [List.all_eq_true] at this
  have := this x hx
  rw [List.all_eq_true] at this
  simpa using this o' ho'

/-- How a frame ends, as its caller sees it. -/
def FEnd [Glb] (Z : Nat → Prop) (w : World) (h : AH) (gs : Gs) (Q : Out → AH → Prop) (e : Ending) (w' : World) : Prop := ∃ out h' gs', Q out h' ∧ outOk (RA w' (Zf Z gs') h' gs') e out ∧ HeapOk w' Z h' gs' ∧ BelowX (fun b => ∃ o K, gs o = some (b, K)) w w' ∧ Refs h gs h' gs' ∧
      ∀ o b K, gs' o = some (b, K) → w.heap.size ≤ b ∨ ∃ o' K', gs o' = some (b, K')

theorem frame_wp [Glb] {P : Program} {fn : Func} {c : Code} {s0 : Slots} {h : AH} {fo : List Nat} {Q : Out → AH → Prop} (hfo : ∀ o, h o ≠ .gone → o ∈ fo) (hc : AWp P fn.ntmps fo c (FRetQ P fn fo Q) s0 h) {Z : Nat → Prop} {w : World} {gs : Gs} {a0 : Act} (hR : Rel ⟨w, Z, h, gs, []⟩ fn.ntmps s0 h a0 w) :
    c.wp P (bodyPost P fn (FEnd Z w h gs Q)) a0 w := by
  have key : ∀ (a' : Act) (w' : World) (s' : Slots) (h' : AH) (gs' : Gs), RelG ⟨w, Z, h, gs, []⟩ fn.ntmps s' h' gs' a' w' → (fo.all fun o => boxIn fo (h' o)) = true →
      HeapOk w' Z (keepH fo h') (gkeep fo gs') ∧ BelowX (fun b => ∃ o K, gs o = some (b, K)) w w' ∧ Refs h gs (keepH fo h') (gkeep fo gs') ∧ ∀ o b K, gkeep fo gs' o = some (b, K) → w.heap.size ≤ b ∨ ∃ o' K', gs o' = some (b, K') := by
    intro a' w' s' h' gs' R' hbx
    have sub : ∀ o b K, gkeep fo gs' o = some (b, K) → gs' o = some (b, K) := fun o b K e => by
      unfold gkeep at e
      split at e
      · exact e
      · cases e
    have hK := keep_of_boxIn (s := s') hbx
    have hz : ∀ b, Zf Z (gkeep fo gs') b → Zf Z gs' b := by
      rintro b (hb | ⟨o, K, e⟩)
      · exact .inl hb
      · exact .inr ⟨o, K, sub _ _ _ e⟩
    have hl : Later w' w' (Zf Z gs') (Zf Z (gkeep fo gs')) := ⟨Nat.le_refl _, fun _ _ _ => rfl, fun b hb _ => hz b hb⟩
    have hk : ∀ o, o ∈ fo → keepH fo h' o = h' o ∧ gkeep fo gs' o = gs' o := fun o ho => ⟨by simp [keepH, ho], by simp [gkeep, ho]⟩
    refine ⟨⟨fun o b K e => ?_, fun o o' b K K' e e' => R'.inj _ _ _ _ _ (sub _ _ _ e) (sub _ _ _ e'), fun o => ?_⟩, R'.below, ?_, fun o b K e => (R'.fresh _ _ _ (sub _ _ _ e)).1⟩
    · have h1 := R'.fresh _ _ _ (sub _ _ _ e)
      refine ⟨h1.2, fun hZ => ?_⟩
      rcases h1.1 with q | q
      · have := R'.zlt b hZ
        dsimp only at this q
        omega
      · exact (R'.zd b q).1 hZ
    · by_cases ho : o ∈ fo
      · have hob := R'.objs o
        rw [(hk o ho).1]
        cases hx : h' o with
        | gone =>
          rw [hx] at hob
          exact (hk o ho).2.trans hob
        | blk b ob =>
          rw [hx] at hob
          obtain ⟨K', g1, g2⟩ := hob
          exact ⟨K', (hk o ho).2.trans g1, g2⟩
        | box ty cells =>
          rw [hx] at hob
          obtain ⟨b, K', cur, g1, g2, g3, g4, g5⟩ := hob
          refine ⟨b, K', cur, (hk o ho).2.trans g1, g2, g3, g4, fun j hj => (g5 j hj).kept hz fun o' ho' => hk o' (hK.boxes o ho ty cells hx _ ?_ o' ho')⟩
          rw [getD_lt hj]
          exact List.getElem_mem hj
        | row ty sz n f =>
          rw [hx] at hob
          rcases hob with ⟨q1, q2⟩ | ⟨b', K', cur, q1, q2, q3, q4, q5, q6, q7, q8⟩
          · exact .inl ⟨(hk o ho).2.trans q1, q2⟩
          · exact .inr ⟨b', K', cur, (hk o ho).2.trans q1, q2, q3, q4, q5, q6, q7, fun i j hi hj => (q8 i j hi hj).later hl⟩
      · have : keepH fo h' o = .gone := by simp [keepH, ho]
        rw [this]
        show gkeep fo gs' o = none
        simp [gkeep, ho]
    · refine ⟨fun o ty cells e => ?_, fun o ty sz n f e => ?_⟩
      · have hm := hk o (hfo o (by rw [e]; simp))
        rw [hm.1, hm.2]
        exact R'.refs.box o ty cells e
      · have hm := hk o (hfo o (by rw [e]; simp))
        rw [hm.1, hm.2]
        exact R'.refs.row o ty sz n f e
  refine wp_mono (hc ⟨w, Z, h, gs, []⟩ _ w hfo hR) fun e a' w' ⟨s', h', q, gs', R'⟩ => ?_
  have done : FRetQ P fn fo Q .ret s' h' → a'.defers = [] ∧ ∃ v, (results fn a'.tmps).run P w' = .ok v w' ∧ ∃ out h' gs', Q out h' ∧ outOk (RA w' (Zf Z gs') h' gs') (.returned v) out ∧ HeapOk w' Z h' gs' ∧ BelowX (fun b => ∃ o K, gs o = some (b, K)) w w' ∧ Refs h gs h' gs' ∧
      ∀ o b K, gs' o = some (b, K) → w.heap.size ≤ b ∨ ∃ o' K', gs o' = some (b, K') := by
    rintro ⟨hbx, ys, q1, q2⟩
    obtain ⟨k1, k2, k3, k4⟩ := key a' w' s' h' gs' R' hbx
    have hz : ∀ b, Zf Z (gkeep fo gs') b → Zf Z gs' b := by
      rintro b (hb | ⟨o, K, e⟩)
      · exact .inl hb
      · unfold gkeep at e
        split at e
        · exact .inr ⟨o, K, e⟩
        · cases e
    rcases q2 with ⟨r, hno, hsub, hq⟩ | ⟨x, rfl, hin, hq⟩
    · obtain ⟨v, h1, h2, _⟩ := rets_gen R' (Z := Zf Z (gkeep fo gs')) hz (fun x hx o ho b K e hb => by
        rcases hb with hb | ⟨o', K', e'⟩
        · have h1 := R'.fresh _ _ _ e
          rcases h1.1 with q | q
          · have := R'.zlt b hb
            dsimp only at this q
            omega
          · exact (R'.zd b q).1 hb
        · unfold gkeep at e'
          split at e'
          · rename_i hm
            have := R'.inj _ _ _ _ _ e e'
            subst this
            exact hno x hx o ho hm
          · cases e') q1
      exact ⟨R'.defers, v, h1, _, _, _, hq, .c _ _ (hsub _ _ _ h2), k1, k2, k3, k4⟩
    · obtain ⟨v, h1, _, h3⟩ := rets_gen R' (Z := fun _ => False) (fun _ hb => hb.elim) (fun _ _ _ _ _ _ _ hb => hb) q1
      exact ⟨R'.defers, v, h1, _, _, _, hq, (h3 x rfl).kept hz (fun o ho => ⟨by simp [keepH, hin o ho], by simp [gkeep, hin o ho]⟩), k1, k2, k3, k4⟩
  cases e with
  | normal => exact done q
  | ret => exact done q
  | panic ch =>
    obtain ⟨hbx, hq⟩ := q
    obtain ⟨k1, k2, k3, k4⟩ := key a' w' s' h' gs' R' hbx
    exact ⟨R'.defers, _, _, _, hq, rfl, k1, k2, k3, k4⟩
  | _ => exact q.elim

/-- THE CONTRACT OF A FUNCTION that is handed objects, from its body. -/
theorem afun_of [Glb] {P : Program} {f : FuncId} {fn : Func} {c : Code} {xs : List AV} {h : AH} {fo : List Nat} {Q : Out → AH → Prop} (hf : P.funcs[f]? = some fn) (hb : fn.body = some c) (hn : (fn.name == "runtime.NumGoroutine") = false) (hl : xs.length ≤ fn.ntmps)
    (hfo : ∀ o, h o ≠ .gone → o ∈ fo) (hc : AWp P fn.ntmps fo c (FRetQ P fn fo Q) (entryA xs) h) : AFun P f xs h Q := by
  refine ⟨⟨fn, hf, hn, by rw [hb]; rfl⟩, fun Z w gs vs hz hgl hok hlen hx => ?_⟩
  have hR : Rel ⟨w, Z, h, gs, []⟩ fn.ntmps (entryA xs) h { tmps := vs.toArray ++ Array.replicate (fn.ntmps - vs.toArray.size) undef, defers := [] } w := by
    refine ⟨gs, BelowX.refl _ _, hz, fun b hb => (by obtain ⟨o, K, e⟩ := hb; exact ⟨(hok.fresh o b K e).2, (hok.fresh o b K e).1⟩), hgl, fun o b K e => ⟨.inr ⟨o, K, e⟩, (hok.fresh o b K e).1⟩, hok.inj, hok.objs, fun t => ?_, by simp; omega, rfl, Refs.refl _ _⟩
    by_cases ht : t < xs.length
    · have e : (vs.toArray ++ Array.replicate (fn.ntmps - vs.toArray.size) undef).getD t undef = vs.getD t undef := by
        simp only [Array.getD_eq_getD_getElem?, List.getD_eq_getElem?_getD]
        rw [Array.getElem?_append_left (by simp; omega)]
        simp
      have e2 : entryA xs t = xs.getD t default := by unfold entryA; rw [getD_lt ht, getD_lt ht]
      simp only [e, e2]
      exact hx t ht
    · have : entryA xs t = .c .any := by
        unfold entryA
        rw [List.getD_eq_getElem?_getD, List.getElem?_eq_none (by omega)]
        rfl
      rw [this]
      exact .c _ _ (.any _)
  exact calls_of_wp hf hb (frame_wp hfo hc hR)
end Go.Am

/- The abstract machine, part 18: regions operation by operation: calls of functions that are handed objects, of closures; panics. Generic over the program; no condition. -/
namespace Go.Am
open Go.RowKit

/-- The rest of a region, in the order of its text. -/
def AWpL [Glb] (P : Program) (nt : Nat) (fo : List Nat) (ops : Array Oper) (l : List Oper) (Q : APost) (s : Slots) (h : AH) : Prop :=
  ∀ (E : Env) (a : Act) (w : World), E.In fo → Rel E nt s h a w → wpList P ops (fun e a' w' => ∃ s' h', Q e s' h' ∧ Rel E nt s' h' a' w') l a w

def dOk (nt : Nat) : Option Tmp → Bool
  | some d => decide (d < nt)
  | none => true

section
variable {P : Program} {nt : Nat} {fo : List Nat} {ops : Array Oper} {l : List Oper} {Q : APost} {s : Slots} {h : AH}

theorem awpl_end [Glb] (hq : Q .normal s h) : AWpL P nt fo ops [] Q s h := fun _ _ _ _ R => ⟨s, h, hq, R⟩

theorem run_nil [Glb] {K : Slots → AH → Prop} (hk : K s h) : aRun P ops K [] s h := hk

/-- One plain operation. -/
theorem awpl_op [Glb] {o : Oper} (hd : (match o.dst with | some d => decide (d < nt) | none => true) = true) (hg : (match o.guard with | some (j, _) => (match (ops[j]?).bind (·.dst) with | some t => decide (t < nt) | none => true) | none => true) = true)
    (hr : aRun P ops (AWpL P nt fo ops l Q) [o] s h) : AWpL P nt fo ops (o :: l) Q s h := by
  intro E a w I ⟨gs, R⟩
  obtain ⟨x, eff, h1, h2⟩ := hr
  have hd' : ∀ t, o.dst = some t → t < nt := fun t e => by rw [e] at hd; simpa using hd
  have hg' : ∀ j b t, o.guard = some (j, b) → (ops[j]?).bind (·.dst) = some t → t < nt := fun j b t e1 e2 => by rw [e1] at hg; simp only [e2] at hg; simpa using hg
  unfold wpList
  rcases step_ok (Q := fun e a' w' => ∃ s' h', Q e s' h' ∧ Rel E nt s' h' a' w') R hd' hg' h1 with ⟨hw, hp⟩ | ⟨hw, hp⟩
  · rw [if_pos hw]
    exact .inl (Oper.wp_mono (fun a' w' R' => h2 E a' w' I R') hp)
  · rw [if_neg (by simp [hw])]
    exact h2 E _ w I hp

theorem awp_regL [Glb] {id : Nat} {ops : List Oper} (hr : AWpL P nt fo ops.toArray ops Q s h) : AWp P nt fo (.region id ops.toArray false) Q s h := fun E a w I R => wp_region_list (by simpa using hr E a w I R)
theorem awp_seqL [Glb] {id : Nat} {ops : List Oper} {y : Code} (hr : AWpL P nt fo ops.toArray ops (thenQ (AWp P nt fo y Q) Q) s h) : AWp P nt fo (.seq (.region id ops.toArray false) y) Q s h := awp_seq (awp_regL hr)

/-- What must hold behind a call. -/
def CallQ [Glb] (P : Program) (nt : Nat) (fo : List Nat) (ops : Array Oper) (l : List Oper) (Q : APost) (d : Option Tmp) (ks : List Nat) (ρ : Nat → Nat) (s : Slots) (h : AH) : Out → AH → Prop
  | .ret x, h1 => (∀ k ∈ x.refsw, k ∈ ks) ∧ Foot ks h1 ∧ AWpL P nt fo ops l Q (updO s d (x.ren ρ)) (appL ρ (AObj.ren ρ) h1 ks h)
  | .pan c, h1 => Foot ks h1 ∧ Q (.panic c) s (appL ρ (AObj.ren ρ) h1 ks h)

theorem enter_core [Glb] {o : Oper} {f : FuncId} {xs : List AV} {h1 : AH} {ks : List Nat} {ρ : Nat → Nat} (hgd : o.guard = none) (hd : ∀ t, o.dst = some t → t < nt)
    (hf : AFun P f xs h1 (CallQ P nt fo ops l Q o.dst ks ρ s h)) (hi : ∀ a ∈ ks, ∀ b ∈ ks, ρ a = ρ b → a = b) (hft : Foot ks h1) (hh : ∀ k ∈ ks, h (ρ k) = (h1 k).ren ρ) (hx : ∀ x ∈ xs, ∀ k ∈ x.refsw, k ∈ ks)
    (hrun : ∀ (E : Env) (a : Act) (w : World) (gs : Gs), RelG E nt s h gs a w → Enters P f → ∃ vs : List Value, (execOp a.eval o).run P w = .ok (.enter f vs.toArray) w ∧ vs.length = xs.length ∧ ∀ i, i < xs.length → RA w (Zf E.Z gs) h gs (vs.getD i undef) ((xs.getD i default).ren ρ)) :
    AWpL P nt fo ops (o :: l) Q s h := by
  intro E a w I ⟨gs, R⟩
  obtain ⟨vs, hr, hlen, hv⟩ := hrun E a w gs R hf.1
  unfold wpList
  rw [if_pos (by simp [Region.wanted, hgd])]
  refine .inl ?_
  unfold Oper.wp
  rw [hr]
  have hz : ∀ b, Zf (zsub ks ρ E.Z gs) (gsub ks ρ gs) b → Zf E.Z gs b := fun b => (zf_sub b).1
  have hcall := hf.2 (zsub ks ρ E.Z gs) w (gsub ks ρ gs) vs (fun b hb => by
      rcases hb.1 with q | ⟨o, K, q⟩
      · exact Nat.lt_of_lt_of_le (R.zlt b q) R.below.size
      · exact (R.fresh o b K q).2) (fun b hb => by
      have hg := R.glb b hb
      refine ⟨⟨.inl hg.1, ?_⟩, hg.2⟩
      rintro ⟨k, _, K, e⟩
      rcases (R.fresh _ _ _ e).1 with q | q
      · have := R.zlt b hg.1
        omega
      · exact (R.zd b q).1 hg.1) (heap_sub R hi hft hh) hlen (fun i hi' => by
      refine RA.unren hz _ (fun k hk => ?_) (hv i hi')
      have hm : k ∈ ks := hx _ (by rw [getD_lt hi']; exact List.getElem_mem hi') k hk
      exact ⟨hh k hm, gsub_in hm⟩)
  refine hcall.mono fun e w' ⟨out, h1', g1', q, hout, hok, hb, hrf, hnew⟩ => ?_
  cases e with
  | returned v =>
    cases out with
    | pan c => exact hout.elim
    | ret x =>
      obtain ⟨q1, q2, q3⟩ := q
      obtain ⟨R', hval⟩ := heap_back R hi hft hh q2 hok hb hrf hnew
      exact q3 E _ w' I ⟨_, R'.putO hd (hval v x q1 hout)⟩
  | panicked c =>
    cases out with
    | ret x => exact hout.elim
    | pan c' =>
      obtain ⟨q2, q3⟩ := q
      obtain ⟨R', _⟩ := heap_back R hi hft hh q2 hok hb hrf hnew
      have : c = c' := hout
      subst this
      exact ⟨_, _, q3, _, R'⟩
  | outgrown => cases out <;> exact hout.elim

/-- A call of a function by its name. -/
theorem awpl_call [Glb] {d : Option Tmp} {f : FuncId} {args : Array Operand} {ats : Array TypeId} {ty : TypeId} {pos : String} {af : Array Edge} {xs : List AV} {h1 : AH} (ks : List Nat) (ρ : Nat → Nat)
    (hf : AFun P f xs h1 (CallQ P nt fo ops l Q d ks ρ s h)) (hd : dOk nt d = true) (hx : args.toList.map (ev s) = xs.map (AV.ren ρ))
    (hi : ∀ a ∈ ks, ∀ b ∈ ks, ρ a = ρ b → a = b) (hft : Foot ks h1) (hh : ∀ k ∈ ks, h (ρ k) = (h1 k).ren ρ) (hxr : ∀ x ∈ xs, ∀ k ∈ x.refsw, k ∈ ks) :
    AWpL P nt fo ops (⟨d, .call ⟨.value (.func f), args, ats⟩, ty, pos, af, none⟩ :: l) Q s h := by
  refine enter_core (o := ⟨d, .call ⟨.value (.func f), args, ats⟩, ty, pos, af, none⟩) rfl (fun t e => by simp only at e; subst e; simpa [dOk] using hd) hf hi hft hh hxr fun E a w gs R hen => ?_
  obtain ⟨fn, f1, f2, f3⟩ := hen
  have f2' : ¬ fn.name = "runtime.NumGoroutine" := by simpa using f2
  have f3' : ¬ fn.body = none := fun e => by rw [e] at f3; simp at f3
  refine ⟨args.toList.map a.eval, ?_, ?_, fun i hi' => ?_⟩
  · have hvs : (args.toList.map a.eval).toArray = args.map a.eval := Array.ext' (by simp)
    rw [hvs]
    simp [execOp, resolve, Deferred.ofValue, Act.eval, invoke, callFunc, f1, f2', f3']
  · have := congrArg List.length hx
    simpa using this
  · have hl : args.toList.length = xs.length := by simpa using congrArg List.length hx
    have hia : i < args.toList.length := by omega
    have e1 : (args.toList.map a.eval).getD i undef = a.eval args.toList[i] := by rw [getD_lt (by simpa using hia), List.getElem_map]
    have e2 : (xs.getD i default).ren ρ = ev s args.toList[i] := by
      have h3 : (args.toList.map (ev s))[i]'(by simpa using hia) = (xs.map (AV.ren ρ))[i]'(by simpa using hi') := by simp only [hx]
      rw [List.getElem_map, List.getElem_map] at h3
      rw [getD_lt hi', h3]
    rw [e1, e2]
    exact ev_ok R _

/-- A call of a closure in a slot. -/
theorem awpl_callV [Glb] {d : Option Tmp} {t : Tmp} {f : FuncId} {os : List Nat} {args : Array Operand} {ats : Array TypeId} {ty : TypeId} {pos : String} {af : Array Edge} {xs : List AV} {h1 : AH} (ks : List Nat) (ρ : Nat → Nat)
    (hf : AFun P f xs h1 (CallQ P nt fo ops l Q d ks ρ s h)) (hs : s t = .fn f os) (hd : dOk nt d = true) (hx : args.toList.map (ev s) ++ os.map (fun o => .ptr o 0) = xs.map (AV.ren ρ))
    (hi : ∀ a ∈ ks, ∀ b ∈ ks, ρ a = ρ b → a = b) (hft : Foot ks h1) (hh : ∀ k ∈ ks, h (ρ k) = (h1 k).ren ρ) (hxr : ∀ x ∈ xs, ∀ k ∈ x.refsw, k ∈ ks) :
    AWpL P nt fo ops (⟨d, .call ⟨.value (.tmp t), args, ats⟩, ty, pos, af, none⟩ :: l) Q s h := by
  refine enter_core (o := ⟨d, .call ⟨.value (.tmp t), args, ats⟩, ty, pos, af, none⟩) rfl (fun t e => by simp only at e; subst e; simpa [dOk] using hd) hf hi hft hh hxr fun E a w gs R hen => ?_
  obtain ⟨fn, f1, f2, f3⟩ := hen
  have f2' : ¬ fn.name = "runtime.NumGoroutine" := by simpa using f2
  have f3' : ¬ fn.body = none := fun e => by rw [e] at f3; simp at f3
  have hv := R.slots t
  rw [hs] at hv
  generalize hvt : a.tmps.getD t undef = v at hv
  cases hv with
  | fn _ cs _ hl' hh' =>
    have hlen : args.size + os.length = xs.length := by simpa using congrArg List.length hx
    refine ⟨args.toList.map a.eval ++ cs.toList, ?_, by simp; omega, fun i hi' => ?_⟩
    · have hvs : (args.toList.map a.eval ++ cs.toList).toArray = args.map a.eval ++ cs := Array.ext' (by simp)
      have het : a.eval (.tmp t) = .func (.func f) #[] cs := hvt
      rw [hvs]
      simp [execOp, resolve, Deferred.ofValue, het, invoke, callFunc, f1, f2', f3']
    · have e2 : (xs.getD i default).ren ρ = (args.toList.map (ev s) ++ os.map (fun o => AV.ptr o 0))[i]'(by simp; omega) := by
        have h3 : (args.toList.map (ev s) ++ os.map (fun o => AV.ptr o 0))[i]'(by simp; omega) = (xs.map (AV.ren ρ))[i]'(by simpa using hi') := by simp only [hx]
        rw [h3, List.getElem_map, getD_lt hi']
      rw [e2]
      by_cases hia : i < args.size
      · have e1 : (args.toList.map a.eval ++ cs.toList).getD i undef = a.eval (args.toList[i]'(by simpa using hia)) := by
          rw [List.getD_eq_getElem?_getD, List.getElem?_append_left (by simpa using hia)]
          rw [List.getElem?_map, List.getElem?_eq_getElem (by simpa using hia)]
          rfl
        rw [e1, List.getElem_append_left (by simpa using hia), List.getElem_map]
        exact ev_ok R _
      · have hio : i - args.size < os.length := by omega
        obtain ⟨b, K, tb, cells, q1, q2, q3⟩ := hh' _ hio
        have e1 : (args.toList.map a.eval ++ cs.toList).getD i undef = cs.getD (i - args.size) undef := by
          rw [List.getD_eq_getElem?_getD, List.getElem?_append_right (by simpa using Nat.le_of_not_lt hia)]
          simp [Array.getD_eq_getD_getElem?]
        rw [e1, q1, List.getElem_append_right (by simpa using Nat.le_of_not_lt hia), List.getElem_map]
        rw [getD_lt hio] at q2 q3
        simp only [List.length_map]
        exact .ptr _ 0 b K tb cells q2 q3

/-- The statement 'panic'. -/
theorem awpl_panic [Glb] {d : Option Tmp} {y : Operand} {ty : TypeId} {pos : String} {af : Array Edge} {u : TypeId} {x : Value} (hy : ev s y = .c (.raw (.iface u x)))
    (hq : Q (.panic [{ v := .iface u x, recovered := false }]) s h) : AWpL P nt fo ops (⟨d, .panic y, ty, pos, af, none⟩ :: l) Q s h := by
  intro E a w I ⟨gs, R⟩
  have hv := ev_ok R y
  rw [hy] at hv
  have he := hv.raw_inv
  unfold wpList
  rw [if_pos (by simp [Region.wanted])]
  refine .inl ?_
  unfold Oper.wp
  have : (execOp a.eval ⟨d, .panic y, ty, pos, af, none⟩).run P w = .halt (.panic (.iface u x)) w := by
    simp [execOp, he, Instr.panic, goPanic]
    try rfl
  rw [this]
  exact ⟨s, h, hq, gs, R⟩
end
end Go.Am

/- The abstract machine, part 16: one lemma an operation, its questions answered by default; facts lie in the hypothesis FF. Generic over the program; no condition. Printed by a program. -/
namespace Go.Am
open Go.RowKit
set_option linter.unusedVariables false
section
variable {P : Program} {ops : Array Oper} {K : Slots → AH → Prop} {r : List Oper} {s : Slots} {h : AH} {d : Nat} {ty : TypeId} {pos : String} {af : Array Edge} {x : AV}
theorem m_move [Glb] {y : Operand}  (hn : aRun P ops K r (upd s d (x)) h) (h1 : ev s y = x := by simp only [go_sem, reduceIte, Nat.reduceEqDiff, FF] <;> rfl) : aRun P ops K (⟨some d, .move y, ty, pos, af, none⟩ :: r) s h := st0 rfl (k_move h1) hn
theorem g_move [Glb] {j0 t0 : Nat} {want g0 G : Bool} {u0 : AV} {y : Operand}  (hn : aRun P ops K r (upd s d (.when G (x))) h) (ht : (ops[j0]?).bind (·.dst) = some t0 := by rfl) (hs : s t0 = u0 := by simp only [go_sem, reduceIte, Nat.reduceEqDiff, FF] <;> rfl) (hu : u0.strip = .bool g0 := by rfl) (hG : (u0.wh && g0 == want) = G := by simp only [go_sem, reduceIte, Nat.reduceEqDiff, FF] <;> rfl) (h1 : ev s y = x := by simp only [go_sem, reduceIte, Nat.reduceEqDiff, FF] <;> rfl) : aRun P ops K (⟨some d, .move y, ty, pos, af, some (j0, want)⟩ :: r) s h := sg0 rfl ht hs hu hG (k_move h1) hn
theorem m_assign [Glb] {y : Operand}  (hn : aRun P ops K r (upd s d (x)) h) (h1 : ev s y = x := by simp only [go_sem, reduceIte, Nat.reduceEqDiff, FF] <;> rfl) : aRun P ops K (⟨some d, .assign y, ty, pos, af, none⟩ :: r) s h := st0 rfl (k_assign h1) hn
theorem g_assign [Glb] {j0 t0 : Nat} {want g0 G : Bool} {u0 : AV} {y : Operand}  (hn : aRun P ops K r (upd s d (.when G (x))) h) (ht : (ops[j0]?).bind (·.dst) = some t0 := by rfl) (hs : s t0 = u0 := by simp only [go_sem, reduceIte, Nat.reduceEqDiff, FF] <;> rfl) (hu : u0.strip = .bool g0 := by rfl) (hG : (u0.wh && g0 == want) = G := by simp only [go_sem, reduceIte, Nat.reduceEqDiff, FF] <;> rfl) (h1 : ev s y = x := by simp only [go_sem, reduceIte, Nat.reduceEqDiff, FF] <;> rfl) : aRun P ops K (⟨some d, .assign y, ty, pos, af, some (j0, want)⟩ :: r) s h := sg0 rfl ht hs hu hG (k_assign h1) hn
theorem m_pick [Glb] {c y z : Operand} {u1 u2 u3 : AV} {q1 q2 q3 q4 : Bool}  (hn : aRun P ops K r (upd s d (.bool q4)) h) (h1 : ev s c = u1 := by simp only [go_sem, reduceIte, Nat.reduceEqDiff, FF] <;> rfl) (h2 : ev s y = u2 := by simp only [go_sem, reduceIte, Nat.reduceEqDiff, FF] <;> rfl) (h3 : ev s z = u3 := by simp only [go_sem, reduceIte, Nat.reduceEqDiff, FF] <;> rfl) (e1 : u1.strip = .bool q1 := by rfl) (e2 : u2.strip = .bool q2 := by rfl) (e3 : u3.strip = .bool q3 := by rfl) (hw : true = true → u1.wh = true ∧ (q1 = true → u2.wh = true) ∧ (q1 = false → u3.wh = true) := by intro hG; first | (simp only [go_sem, reduceIte, Nat.reduceEqDiff, FF]; done) | (simp [go_sem]; done) | (simp [go_sem] at hG ⊢ <;> simp [hG] <;> (intros; simp_all); done) | (simp [go_sem] <;> (intros; simp_all); done) | (refine ⟨?_, ?_, ?_⟩ <;> intros <;> simp_all [go_sem])) (hr : (bif q1 then q2 else q3) = q4 := by first | (simp only [go_sem, reduceIte, Nat.reduceEqDiff, FF] <;> rfl) | rfl) : aRun P ops K (⟨some d, .pick c y z, ty, pos, af, none⟩ :: r) s h := st0 rfl (k_pick h1 h2 h3 e1 e2 e3 hw hr) hn
theorem g_pick [Glb] {j0 t0 : Nat} {want g0 G : Bool} {u0 : AV} {c y z : Operand} {u1 u2 u3 : AV} {q1 q2 q3 q4 : Bool}  (hn : aRun P ops K r (upd s d (.when G (.bool q4))) h) (ht : (ops[j0]?).bind (·.dst) = some t0 := by rfl) (hs : s t0 = u0 := by simp only [go_sem, reduceIte, Nat.reduceEqDiff, FF] <;> rfl) (hu : u0.strip = .bool g0 := by rfl) (hG : (u0.wh && g0 == want) = G := by simp only [go_sem, reduceIte, Nat.reduceEqDiff, FF] <;> rfl) (h1 : ev s c = u1 := by simp only [go_sem, reduceIte, Nat.reduceEqDiff, FF] <;> rfl) (h2 : ev s y = u2 := by simp only [go_sem, reduceIte, Nat.reduceEqDiff, FF] <;> rfl) (h3 : ev s z = u3 := by simp only [go_sem, reduceIte, Nat.reduceEqDiff, FF] <;> rfl) (e1 : u1.strip = .bool q1 := by rfl) (e2 : u2.strip = .bool q2 := by rfl) (e3 : u3.strip = .bool q3 := by rfl) (hw : G = true → u1.wh = true ∧ (q1 = true → u2.wh = true) ∧ (q1 = false → u3.wh = true) := by intro hG; first | (simp only [go_sem, reduceIte, Nat.reduceEqDiff, FF]; done) | (simp [go_sem]; done) | (simp [go_sem] at hG ⊢ <;> simp [hG] <;> (intros; simp_all); done) | (simp [go_sem] <;> (intros; simp_all); done) | (refine ⟨?_, ?_, ?_⟩ <;> intros <;> simp_all [go_sem])) (hr : (bif q1 then q2 else q3) = q4 := by first | (simp only [go_sem, reduceIte, Nat.reduceEqDiff, FF] <;> rfl) | rfl) : aRun P ops K (⟨some d, .pick c y z, ty, pos, af, some (j0, want)⟩ :: r) s h := sg0 rfl ht hs hu hG (k_pick h1 h2 h3 e1 e2 e3 hw hr) hn
theorem m_bin [Glb] {op : BinOp} {t t2 : TypeId} {y z : Operand} {u v : AV} {v1 v2 res : Value}  (hn : aRun P ops K r (upd s d (.c (.raw res))) h) (h1 : ev s y = u := by simp only [go_sem, reduceIte, Nat.reduceEqDiff, FF] <;> rfl) (h2 : ev s z = v := by simp only [go_sem, reduceIte, Nat.reduceEqDiff, FF] <;> rfl) (e1 : u.strip = .c (.raw v1) := by rfl) (e2 : v.strip = .c (.raw v2) := by rfl) (hb : bin op v1 v2 = some res := by simp only [go_sem, reduceIte, Nat.reduceEqDiff, FF] <;> rfl) (hw : true = true → u.wh = true ∧ v.wh = true := by intro hG; simp only [go_sem]) : aRun P ops K (⟨some d, .binOp op t y z t2, ty, pos, af, none⟩ :: r) s h := st0 rfl (k_bin h1 h2 e1 e2 hb hw) hn
theorem g_bin [Glb] {j0 t0 : Nat} {want g0 G : Bool} {u0 : AV} {op : BinOp} {t t2 : TypeId} {y z : Operand} {u v : AV} {v1 v2 res : Value}  (hn : aRun P ops K r (upd s d (.when G (.c (.raw res)))) h) (ht : (ops[j0]?).bind (·.dst) = some t0 := by rfl) (hs : s t0 = u0 := by simp only [go_sem, reduceIte, Nat.reduceEqDiff, FF] <;> rfl) (hu : u0.strip = .bool g0 := by rfl) (hG : (u0.wh && g0 == want) = G := by simp only [go_sem, reduceIte, Nat.reduceEqDiff, FF] <;> rfl) (h1 : ev s y = u := by simp only [go_sem, reduceIte, Nat.reduceEqDiff, FF] <;> rfl) (h2 : ev s z = v := by simp only [go_sem, reduceIte, Nat.reduceEqDiff, FF] <;> rfl) (e1 : u.strip = .c (.raw v1) := by rfl) (e2 : v.strip = .c (.raw v2) := by rfl) (hb : bin op v1 v2 = some res := by simp only [go_sem, reduceIte, Nat.reduceEqDiff, FF] <;> rfl) (hw : G = true → u.wh = true ∧ v.wh = true := by intro hG; simp only [go_sem, hG]) : aRun P ops K (⟨some d, .binOp op t y z t2, ty, pos, af, some (j0, want)⟩ :: r) s h := sg0 rfl ht hs hu hG (k_bin h1 h2 e1 e2 hb hw) hn
theorem m_binA [Glb] {op : BinOp} {t t2 : TypeId} {y z : Operand} {u v : AV} {us vs : List Value} {res : Value} (hb : AggBin P op t us vs res) (hn : aRun P ops K r (upd s d (.c (.raw res))) h) (h1 : ev s y = u := by simp only [go_sem, reduceIte, Nat.reduceEqDiff, FF] <;> rfl) (h2 : ev s z = v := by simp only [go_sem, reduceIte, Nat.reduceEqDiff, FF] <;> rfl) (e1 : u.strip.rawAgg = some us := by simp only [go_sem, reduceIte, Nat.reduceEqDiff, FF] <;> rfl) (e2 : v.strip.rawAgg = some vs := by simp only [go_sem, reduceIte, Nat.reduceEqDiff, FF] <;> rfl) (hw : true = true → u.wh = true ∧ v.wh = true := by intro hG; simp only [go_sem]) : aRun P ops K (⟨some d, .binOp op t y z t2, ty, pos, af, none⟩ :: r) s h := st0 rfl (k_binA h1 h2 e1 e2 hb hw) hn
theorem g_binA [Glb] {j0 t0 : Nat} {want g0 G : Bool} {u0 : AV} {op : BinOp} {t t2 : TypeId} {y z : Operand} {u v : AV} {us vs : List Value} {res : Value} (hb : AggBin P op t us vs res) (hn : aRun P ops K r (upd s d (.when G (.c (.raw res)))) h) (ht : (ops[j0]?).bind (·.dst) = some t0 := by rfl) (hs : s t0 = u0 := by simp only [go_sem, reduceIte, Nat.reduceEqDiff, FF] <;> rfl) (hu : u0.strip = .bool g0 := by rfl) (hG : (u0.wh && g0 == want) = G := by simp only [go_sem, reduceIte, Nat.reduceEqDiff, FF] <;> rfl) (h1 : ev s y = u := by simp only [go_sem, reduceIte, Nat.reduceEqDiff, FF] <;> rfl) (h2 : ev s z = v := by simp only [go_sem, reduceIte, Nat.reduceEqDiff, FF] <;> rfl) (e1 : u.strip.rawAgg = some us := by simp only [go_sem, reduceIte, Nat.reduceEqDiff, FF] <;> rfl) (e2 : v.strip.rawAgg = some vs := by simp only [go_sem, reduceIte, Nat.reduceEqDiff, FF] <;> rfl) (hw : G = true → u.wh = true ∧ v.wh = true := by intro hG; simp only [go_sem, hG]) : aRun P ops K (⟨some d, .binOp op t y z t2, ty, pos, af, some (j0, want)⟩ :: r) s h := sg0 rfl ht hs hu hG (k_binA h1 h2 e1 e2 hb hw) hn
theorem m_not [Glb] {t : TypeId} {y : Operand} {u : AV} {q1 q2 : Bool}  (hn : aRun P ops K r (upd s d (.bool q2)) h) (h1 : ev s y = u := by simp only [go_sem, reduceIte, Nat.reduceEqDiff, FF] <;> rfl) (e1 : u.strip = .bool q1 := by rfl) (hw : true = true → u.wh = true := by intro hG; simp only [go_sem]) (hr : (!q1) = q2 := by first | (simp only [go_sem, reduceIte, Nat.reduceEqDiff, FF] <;> rfl) | rfl) : aRun P ops K (⟨some d, .unOp .not t y, ty, pos, af, none⟩ :: r) s h := st0 rfl (k_not h1 e1 hw hr) hn
theorem g_not [Glb] {j0 t0 : Nat} {want g0 G : Bool} {u0 : AV} {t : TypeId} {y : Operand} {u : AV} {q1 q2 : Bool}  (hn : aRun P ops K r (upd s d (.when G (.bool q2))) h) (ht : (ops[j0]?).bind (·.dst) = some t0 := by rfl) (hs : s t0 = u0 := by simp only [go_sem, reduceIte, Nat.reduceEqDiff, FF] <;> rfl) (hu : u0.strip = .bool g0 := by rfl) (hG : (u0.wh && g0 == want) = G := by simp only [go_sem, reduceIte, Nat.reduceEqDiff, FF] <;> rfl) (h1 : ev s y = u := by simp only [go_sem, reduceIte, Nat.reduceEqDiff, FF] <;> rfl) (e1 : u.strip = .bool q1 := by rfl) (hw : G = true → u.wh = true := by intro hG; simp only [go_sem, hG]) (hr : (!q1) = q2 := by first | (simp only [go_sem, reduceIte, Nat.reduceEqDiff, FF] <;> rfl) | rfl) : aRun P ops K (⟨some d, .unOp .not t y, ty, pos, af, some (j0, want)⟩ :: r) s h := sg0 rfl ht hs hu hG (k_not h1 e1 hw hr) hn
theorem m_neg [Glb] {t : TypeId} {y : Operand} {u : AV} {k : IntKind} {n n2 : Int}  (hn : aRun P ops K r (upd s d (.c (.raw (.int k n2)))) h) (h1 : ev s y = u := by simp only [go_sem, reduceIte, Nat.reduceEqDiff, FF] <;> rfl) (e1 : u.strip = .c (.raw (.int k n)) := by rfl) (hw : true = true → u.wh = true := by intro hG; simp only [go_sem]) (hr : k.wrap (0 - n) = n2 := by first | (simp only [go_sem, reduceIte, Nat.reduceEqDiff, FF] <;> rfl) | rfl) : aRun P ops K (⟨some d, .unOp .neg t y, ty, pos, af, none⟩ :: r) s h := st0 rfl (k_neg h1 e1 hw hr) hn
theorem g_neg [Glb] {j0 t0 : Nat} {want g0 G : Bool} {u0 : AV} {t : TypeId} {y : Operand} {u : AV} {k : IntKind} {n n2 : Int}  (hn : aRun P ops K r (upd s d (.when G (.c (.raw (.int k n2))))) h) (ht : (ops[j0]?).bind (·.dst) = some t0 := by rfl) (hs : s t0 = u0 := by simp only [go_sem, reduceIte, Nat.reduceEqDiff, FF] <;> rfl) (hu : u0.strip = .bool g0 := by rfl) (hG : (u0.wh && g0 == want) = G := by simp only [go_sem, reduceIte, Nat.reduceEqDiff, FF] <;> rfl) (h1 : ev s y = u := by simp only [go_sem, reduceIte, Nat.reduceEqDiff, FF] <;> rfl) (e1 : u.strip = .c (.raw (.int k n)) := by rfl) (hw : G = true → u.wh = true := by intro hG; simp only [go_sem, hG]) (hr : k.wrap (0 - n) = n2 := by first | (simp only [go_sem, reduceIte, Nat.reduceEqDiff, FF] <;> rfl) | rfl) : aRun P ops K (⟨some d, .unOp .neg t y, ty, pos, af, some (j0, want)⟩ :: r) s h := sg0 rfl ht hs hu hG (k_neg h1 e1 hw hr) hn
theorem m_field [Glb] {t : TypeId} {y : Operand} {f : Nat} {u : AV} {i : TI} {off sz : Nat}  (hn : aRun P ops K r (upd s d (x)) h) (h1 : ev s y = u := by simp only [go_sem, reduceIte, Nat.reduceEqDiff, FF] <;> rfl) (ht1 : tinfo P t = some i := by simp only [go_sem] <;> rfl) (hf : i.fields[f]? = some (off, sz) := by rfl) (hz : (sz == 0) = false := by rfl) (hx : addOff off u.strip = some x := by simp only [go_sem, reduceIte, Nat.reduceEqDiff, FF, Nat.reduceAdd, Nat.reduceSub, Nat.reduceMul, Nat.reduceLeDiff] <;> rfl) (hw : true = true → u.wh = true := by intro hG; simp only [go_sem]) : aRun P ops K (⟨some d, .fieldAddr t y f, ty, pos, af, none⟩ :: r) s h := st0 rfl (k_field h1 ht1 hf hz hx hw) hn
theorem g_field [Glb] {j0 t0 : Nat} {want g0 G : Bool} {u0 : AV} {t : TypeId} {y : Operand} {f : Nat} {u : AV} {i : TI} {off sz : Nat}  (hn : aRun P ops K r (upd s d (.when G (x))) h) (ht : (ops[j0]?).bind (·.dst) = some t0 := by rfl) (hs : s t0 = u0 := by simp only [go_sem, reduceIte, Nat.reduceEqDiff, FF] <;> rfl) (hu : u0.strip = .bool g0 := by rfl) (hG : (u0.wh && g0 == want) = G := by simp only [go_sem, reduceIte, Nat.reduceEqDiff, FF] <;> rfl) (h1 : ev s y = u := by simp only [go_sem, reduceIte, Nat.reduceEqDiff, FF] <;> rfl) (ht1 : tinfo P t = some i := by simp only [go_sem] <;> rfl) (hf : i.fields[f]? = some (off, sz) := by rfl) (hz : (sz == 0) = false := by rfl) (hx : addOff off u.strip = some x := by simp only [go_sem, reduceIte, Nat.reduceEqDiff, FF, Nat.reduceAdd, Nat.reduceSub, Nat.reduceMul, Nat.reduceLeDiff] <;> rfl) (hw : G = true → u.wh = true := by intro hG; simp only [go_sem, hG]) : aRun P ops K (⟨some d, .fieldAddr t y f, ty, pos, af, some (j0, want)⟩ :: r) s h := sg0 rfl ht hs hu hG (k_field h1 ht1 hf hz hx hw) hn
theorem m_extract [Glb] {y : Operand} {j : Nat} {u : AV} {xs : List CV} {c : CV}  (hn : aRun P ops K r (upd s d (.c c)) h) (h1 : ev s y = u := by simp only [go_sem, reduceIte, Nat.reduceEqDiff, FF] <;> rfl) (e1 : u.strip = .c (.tup xs) := by rfl) (hw : true = true → u.wh = true := by intro hG; simp only [go_sem]) (hl : (decide (j < xs.length)) = true := by rfl) (hx : xs.getD j .any = c := by rfl) : aRun P ops K (⟨some d, .extract y j, ty, pos, af, none⟩ :: r) s h := st0 rfl (k_extract h1 e1 hw hl hx) hn
theorem g_extract [Glb] {j0 t0 : Nat} {want g0 G : Bool} {u0 : AV} {y : Operand} {j : Nat} {u : AV} {xs : List CV} {c : CV}  (hn : aRun P ops K r (upd s d (.when G (.c c))) h) (ht : (ops[j0]?).bind (·.dst) = some t0 := by rfl) (hs : s t0 = u0 := by simp only [go_sem, reduceIte, Nat.reduceEqDiff, FF] <;> rfl) (hu : u0.strip = .bool g0 := by rfl) (hG : (u0.wh && g0 == want) = G := by simp only [go_sem, reduceIte, Nat.reduceEqDiff, FF] <;> rfl) (h1 : ev s y = u := by simp only [go_sem, reduceIte, Nat.reduceEqDiff, FF] <;> rfl) (e1 : u.strip = .c (.tup xs) := by rfl) (hw : G = true → u.wh = true := by intro hG; simp only [go_sem, hG]) (hl : (decide (j < xs.length)) = true := by rfl) (hx : xs.getD j .any = c := by rfl) : aRun P ops K (⟨some d, .extract y j, ty, pos, af, some (j0, want)⟩ :: r) s h := sg0 rfl ht hs hu hG (k_extract h1 e1 hw hl hx) hn
theorem m_build [Glb] {t : TypeId} {parts : Array (Nat × Operand)} {i : TI} {ps : List (Nat × AV)} {cs : List AV}  (hn : aRun P ops K r (upd s d (.agg cs)) h) (ht1 : tinfo P t = some i := by simp only [go_sem] <;> rfl) (h1 : i.agg = true := by rfl) (h2 : i.zero.isEmpty = false := by rfl) (h3 : i.fields.isEmpty = false := by rfl) (h4 : (i.fields.all fun p => p.2 != 0) = true := by rfl) (hp : (parts.toList.map fun p => (p.1, ev s p.2)) = ps := by simp only [go_sem, reduceIte, Nat.reduceEqDiff, FF] <;> rfl) (hf : bfill i.fields (i.zero.map constAV1) (ps.map fun p => (p.1, p.2.strip)) = some cs := by simp only [go_sem, reduceIte, Nat.reduceEqDiff, FF, Nat.reduceAdd, Nat.reduceSub, Nat.reduceMul, Nat.reduceLeDiff] <;> rfl) (hw : true = true → (ps.all fun p => p.2.wh) = true := by intro hG; simp only [go_sem, reduceIte, Nat.reduceEqDiff, FF]) : aRun P ops K (⟨some d, .build t parts, ty, pos, af, none⟩ :: r) s h := st0 rfl (k_build ht1 h1 h2 h3 h4 hp hf hw) hn
theorem g_build [Glb] {j0 t0 : Nat} {want g0 G : Bool} {u0 : AV} {t : TypeId} {parts : Array (Nat × Operand)} {i : TI} {ps : List (Nat × AV)} {cs : List AV}  (hn : aRun P ops K r (upd s d (.when G (.agg cs))) h) (ht : (ops[j0]?).bind (·.dst) = some t0 := by rfl) (hs : s t0 = u0 := by simp only [go_sem, reduceIte, Nat.reduceEqDiff, FF] <;> rfl) (hu : u0.strip = .bool g0 := by rfl) (hG : (u0.wh && g0 == want) = G := by simp only [go_sem, reduceIte, Nat.reduceEqDiff, FF] <;> rfl) (ht1 : tinfo P t = some i := by simp only [go_sem] <;> rfl) (h1 : i.agg = true := by rfl) (h2 : i.zero.isEmpty = false := by rfl) (h3 : i.fields.isEmpty = false := by rfl) (h4 : (i.fields.all fun p => p.2 != 0) = true := by rfl) (hp : (parts.toList.map fun p => (p.1, ev s p.2)) = ps := by simp only [go_sem, reduceIte, Nat.reduceEqDiff, FF] <;> rfl) (hf : bfill i.fields (i.zero.map constAV1) (ps.map fun p => (p.1, p.2.strip)) = some cs := by simp only [go_sem, reduceIte, Nat.reduceEqDiff, FF, Nat.reduceAdd, Nat.reduceSub, Nat.reduceMul, Nat.reduceLeDiff] <;> rfl) (hw : G = true → (ps.all fun p => p.2.wh) = true := by intro hG; simp only [go_sem, reduceIte, Nat.reduceEqDiff, FF]) : aRun P ops K (⟨some d, .build t parts, ty, pos, af, some (j0, want)⟩ :: r) s h := sg0 rfl ht hs hu hG (k_build ht1 h1 h2 h3 h4 hp hf hw) hn
theorem m_slice0 [Glb] {t : TypeId} {i j : TI}  (hn : aRun P ops K r (upd s d (.emp)) h) (ht1 : tinfo P t = some i := by simp only [go_sem] <;> rfl) (h1 : i.slice = true := by rfl) (hj : tinfo P i.elem = some j := by simp only [go_sem] <;> rfl) : aRun P ops K (⟨some d, .buildSlice t 0 #[], ty, pos, af, none⟩ :: r) s h := st0 rfl (k_slice0 ht1 h1 hj) hn
theorem g_slice0 [Glb] {j0 t0 : Nat} {want g0 G : Bool} {u0 : AV} {t : TypeId} {i j : TI}  (hn : aRun P ops K r (upd s d (.when G (.emp))) h) (ht : (ops[j0]?).bind (·.dst) = some t0 := by rfl) (hs : s t0 = u0 := by simp only [go_sem, reduceIte, Nat.reduceEqDiff, FF] <;> rfl) (hu : u0.strip = .bool g0 := by rfl) (hG : (u0.wh && g0 == want) = G := by simp only [go_sem, reduceIte, Nat.reduceEqDiff, FF] <;> rfl) (ht1 : tinfo P t = some i := by simp only [go_sem] <;> rfl) (h1 : i.slice = true := by rfl) (hj : tinfo P i.elem = some j := by simp only [go_sem] <;> rfl) : aRun P ops K (⟨some d, .buildSlice t 0 #[], ty, pos, af, some (j0, want)⟩ :: r) s h := sg0 rfl ht hs hu hG (k_slice0 ht1 h1 hj) hn
theorem m_sliceN [Glb] {t : TypeId} {n : Nat} {parts : Array (Nat × Operand)} {i j : TI} {l : List (List CV)}  (hn : aRun P ops K r (upd s d (.c (.im j.size n fun i => l.getD i []))) h) (ht1 : tinfo P t = some i := by simp only [go_sem] <;> rfl) (h1 : i.slice = true := by rfl) (hj : tinfo P i.elem = some j := by simp only [go_sem] <;> rfl) (hn1 : n = parts.size := by rfl) (h0 : (n == 0) = false := by rfl) (hz : j.zero.isEmpty = false := by rfl) (hb : decide (n * j.size ≤ 2 ^ 24) = true := by rfl) (hp : partsC (ev s) parts.toList 0 j.size = some l := by simp only [go_sem, reduceIte, Nat.reduceEqDiff, FF, Nat.reduceAdd, Nat.reduceSub, Nat.reduceMul, Nat.reduceLeDiff] <;> rfl) (hw : true = true → ∀ p ∈ parts.toList, (ev s p.2).wh = true := by intro hG; simp only [go_sem, reduceIte, Nat.reduceEqDiff, FF]) : aRun P ops K (⟨some d, .buildSlice t n parts, ty, pos, af, none⟩ :: r) s h := st0 rfl (k_sliceN ht1 h1 hj hn1 h0 hz hb hp hw) hn
theorem g_sliceN [Glb] {j0 t0 : Nat} {want g0 G : Bool} {u0 : AV} {t : TypeId} {n : Nat} {parts : Array (Nat × Operand)} {i j : TI} {l : List (List CV)}  (hn : aRun P ops K r (upd s d (.when G (.c (.im j.size n fun i => l.getD i [])))) h) (ht : (ops[j0]?).bind (·.dst) = some t0 := by rfl) (hs : s t0 = u0 := by simp only [go_sem, reduceIte, Nat.reduceEqDiff, FF] <;> rfl) (hu : u0.strip = .bool g0 := by rfl) (hG : (u0.wh && g0 == want) = G := by simp only [go_sem, reduceIte, Nat.reduceEqDiff, FF] <;> rfl) (ht1 : tinfo P t = some i := by simp only [go_sem] <;> rfl) (h1 : i.slice = true := by rfl) (hj : tinfo P i.elem = some j := by simp only [go_sem] <;> rfl) (hn1 : n = parts.size := by rfl) (h0 : (n == 0) = false := by rfl) (hz : j.zero.isEmpty = false := by rfl) (hb : decide (n * j.size ≤ 2 ^ 24) = true := by rfl) (hp : partsC (ev s) parts.toList 0 j.size = some l := by simp only [go_sem, reduceIte, Nat.reduceEqDiff, FF, Nat.reduceAdd, Nat.reduceSub, Nat.reduceMul, Nat.reduceLeDiff] <;> rfl) (hw : G = true → ∀ p ∈ parts.toList, (ev s p.2).wh = true := by intro hG; simp only [go_sem, reduceIte, Nat.reduceEqDiff, FF]) : aRun P ops K (⟨some d, .buildSlice t n parts, ty, pos, af, some (j0, want)⟩ :: r) s h := sg0 rfl ht hs hu hG (k_sliceN ht1 h1 hj hn1 h0 hz hb hp hw) hn
theorem m_convert [Glb] {t t2 : TypeId} {y : Operand} {u : AV} {d0 : TypeDesc} {k k' : IntKind} {n n2 : Int}  (hn : aRun P ops K r (upd s d (.c (.raw (.int k n2)))) h) (h1 : ev s y = u := by simp only [go_sem, reduceIte, Nat.reduceEqDiff, FF] <;> rfl) (hd : P.underlying t = some d0 := by simp only [go_sem] <;> rfl) (ht1 : P.underlying t2 = some (.int k) := by simp only [go_sem] <;> rfl) (e1 : u.strip = .c (.raw (.int k' n)) := by rfl) (hw : true = true → u.wh = true := by intro hG; simp only [go_sem]) (hr : k.wrap n = n2 := by first | (simp only [go_sem, reduceIte, Nat.reduceEqDiff, FF] <;> rfl) | rfl) : aRun P ops K (⟨some d, .convert t t2 y, ty, pos, af, none⟩ :: r) s h := st0 rfl (k_convert h1 hd ht1 e1 hw hr) hn
theorem g_convert [Glb] {j0 t0 : Nat} {want g0 G : Bool} {u0 : AV} {t t2 : TypeId} {y : Operand} {u : AV} {d0 : TypeDesc} {k k' : IntKind} {n n2 : Int}  (hn : aRun P ops K r (upd s d (.when G (.c (.raw (.int k n2))))) h) (ht : (ops[j0]?).bind (·.dst) = some t0 := by rfl) (hs : s t0 = u0 := by simp only [go_sem, reduceIte, Nat.reduceEqDiff, FF] <;> rfl) (hu : u0.strip = .bool g0 := by rfl) (hG : (u0.wh && g0 == want) = G := by simp only [go_sem, reduceIte, Nat.reduceEqDiff, FF] <;> rfl) (h1 : ev s y = u := by simp only [go_sem, reduceIte, Nat.reduceEqDiff, FF] <;> rfl) (hd : P.underlying t = some d0 := by simp only [go_sem] <;> rfl) (ht1 : P.underlying t2 = some (.int k) := by simp only [go_sem] <;> rfl) (e1 : u.strip = .c (.raw (.int k' n)) := by rfl) (hw : G = true → u.wh = true := by intro hG; simp only [go_sem, hG]) (hr : k.wrap n = n2 := by first | (simp only [go_sem, reduceIte, Nat.reduceEqDiff, FF] <;> rfl) | rfl) : aRun P ops K (⟨some d, .convert t t2 y, ty, pos, af, some (j0, want)⟩ :: r) s h := sg0 rfl ht hs hu hG (k_convert h1 hd ht1 e1 hw hr) hn
theorem k_max [Glb] {G : Bool} {y z : Operand} {ats : Array TypeId} {u v : AV} {k : IntKind} {a b c : Int} (h1 : ev s y = u) (h2 : ev s z = v) (e1 : u.strip = .c (.raw (.int k a))) (e2 : v.strip = .c (.raw (.int k b)))
    (hw : G = true → u.wh = true ∧ v.wh = true) (hr : (if a < b then b else a) = c) : aop0 P (.call { callee := .builtin .max, args := #[y, z], argTypes := ats }) (ev s) G (.c (.raw (.int k c))) := by
  subst h1 h2 hr
  exact ⟨y, z, k, a, b, rfl, e1, e2, hw, rfl⟩
theorem m_max [Glb] {y z : Operand} {ats : Array TypeId} {u v : AV} {k : IntKind} {a b c : Int}  (hn : aRun P ops K r (upd s d (.c (.raw (.int k c)))) h) (h1 : ev s y = u := by simp only [go_sem, reduceIte, Nat.reduceEqDiff, FF] <;> rfl) (h2 : ev s z = v := by simp only [go_sem, reduceIte, Nat.reduceEqDiff, FF] <;> rfl) (e1 : u.strip = .c (.raw (.int k a)) := by rfl) (e2 : v.strip = .c (.raw (.int k b)) := by rfl) (hw : true = true → u.wh = true ∧ v.wh = true := by intro hG; simp only [go_sem]) (hr : (if a < b then b else a) = c := by first | (simp only [go_sem, reduceIte, Nat.reduceEqDiff, FF] <;> rfl) | rfl) : aRun P ops K (⟨some d, .call { callee := .builtin .max, args := #[y, z], argTypes := ats }, ty, pos, af, none⟩ :: r) s h := st0 rfl (k_max h1 h2 e1 e2 hw hr) hn
theorem g_max [Glb] {j0 t0 : Nat} {want g0 G : Bool} {u0 : AV} {y z : Operand} {ats : Array TypeId} {u v : AV} {k : IntKind} {a b c : Int}  (hn : aRun P ops K r (upd s d (.when G (.c (.raw (.int k c))))) h) (ht : (ops[j0]?).bind (·.dst) = some t0 := by rfl) (hs : s t0 = u0 := by simp only [go_sem, reduceIte, Nat.reduceEqDiff, FF] <;> rfl) (hu : u0.strip = .bool g0 := by rfl) (hG : (u0.wh && g0 == want) = G := by simp only [go_sem, reduceIte, Nat.reduceEqDiff, FF] <;> rfl) (h1 : ev s y = u := by simp only [go_sem, reduceIte, Nat.reduceEqDiff, FF] <;> rfl) (h2 : ev s z = v := by simp only [go_sem, reduceIte, Nat.reduceEqDiff, FF] <;> rfl) (e1 : u.strip = .c (.raw (.int k a)) := by rfl) (e2 : v.strip = .c (.raw (.int k b)) := by rfl) (hw : G = true → u.wh = true ∧ v.wh = true := by intro hG; simp only [go_sem, hG]) (hr : (if a < b then b else a) = c := by first | (simp only [go_sem, reduceIte, Nat.reduceEqDiff, FF] <;> rfl) | rfl) : aRun P ops K (⟨some d, .call { callee := .builtin .max, args := #[y, z], argTypes := ats }, ty, pos, af, some (j0, want)⟩ :: r) s h := sg0 rfl ht hs hu hG (k_max h1 h2 e1 e2 hw hr) hn
theorem m_nil [Glb] {y : Operand} {u : AV}  (hn : aRun P ops K r (upd s d (u.strip)) h) (h1 : ev s y = u := by simp only [go_sem, reduceIte, Nat.reduceEqDiff, FF] <;> rfl) (hw : true = true → u.wh = true := by intro hG; simp only [go_sem]) (hm : u.strip.isPtr = true := by rfl) : aRun P ops K (⟨some d, .nilCheck y, ty, pos, af, none⟩ :: r) s h := st0 rfl (k_nil h1 hw hm) hn
theorem g_nil [Glb] {j0 t0 : Nat} {want g0 G : Bool} {u0 : AV} {y : Operand} {u : AV}  (hn : aRun P ops K r (upd s d (.when G (u.strip))) h) (ht : (ops[j0]?).bind (·.dst) = some t0 := by rfl) (hs : s t0 = u0 := by simp only [go_sem, reduceIte, Nat.reduceEqDiff, FF] <;> rfl) (hu : u0.strip = .bool g0 := by rfl) (hG : (u0.wh && g0 == want) = G := by simp only [go_sem, reduceIte, Nat.reduceEqDiff, FF] <;> rfl) (h1 : ev s y = u := by simp only [go_sem, reduceIte, Nat.reduceEqDiff, FF] <;> rfl) (hw : G = true → u.wh = true := by intro hG; simp only [go_sem, hG]) (hm : u.strip.isPtr = true := by rfl) : aRun P ops K (⟨some d, .nilCheck y, ty, pos, af, some (j0, want)⟩ :: r) s h := sg0 rfl ht hs hu hG (k_nil h1 hw hm) hn
theorem m_idx [Glb] {t : TypeId} {y z : Operand} {u v : AV} {b : ByteArray} {k : IntKind} {n m : Int}  (hn : aRun P ops K r (upd s d (.c (.raw (.int .u8 m)))) h) (ht1 : P.underlying t = some .string := by simp only [go_sem] <;> rfl) (h1 : ev s y = u := by simp only [go_sem, reduceIte, Nat.reduceEqDiff, FF] <;> rfl) (h2 : ev s z = v := by simp only [go_sem, reduceIte, Nat.reduceEqDiff, FF] <;> rfl) (e1 : u.strip = .c (.raw (.string b)) := by rfl) (e2 : v.strip = .c (.raw (.int k n)) := by rfl) (hw : true = true → u.wh = true ∧ v.wh = true := by intro hG; simp only [go_sem]) (hn1 : true = true → 0 ≤ n ∧ n < (b.size : Int) := by intro hG; (repeat' apply And.intro) <;> first | rfl | omega | (dsimp only; omega) | (simp; done)) (hr : byteAt b n.toNat = m := by first | (simp only [go_sem, reduceIte, Nat.reduceEqDiff, FF, Nat.reduceAdd, Nat.reduceSub, Nat.reduceMul, Nat.reduceLeDiff, Int.reduceToNat] <;> rfl) | rfl) : aRun P ops K (⟨some d, .index t y z, ty, pos, af, none⟩ :: r) s h := st0 rfl (k_idx ht1 h1 h2 e1 e2 hw hn1 hr) hn
theorem g_idx [Glb] {j0 t0 : Nat} {want g0 G : Bool} {u0 : AV} {t : TypeId} {y z : Operand} {u v : AV} {b : ByteArray} {k : IntKind} {n m : Int}  (hn : aRun P ops K r (upd s d (.when G (.c (.raw (.int .u8 m))))) h) (ht : (ops[j0]?).bind (·.dst) = some t0 := by rfl) (hs : s t0 = u0 := by simp only [go_sem, reduceIte, Nat.reduceEqDiff, FF] <;> rfl) (hu : u0.strip = .bool g0 := by rfl) (hG : (u0.wh && g0 == want) = G := by simp only [go_sem, reduceIte, Nat.reduceEqDiff, FF] <;> rfl) (ht1 : P.underlying t = some .string := by simp only [go_sem] <;> rfl) (h1 : ev s y = u := by simp only [go_sem, reduceIte, Nat.reduceEqDiff, FF] <;> rfl) (h2 : ev s z = v := by simp only [go_sem, reduceIte, Nat.reduceEqDiff, FF] <;> rfl) (e1 : u.strip = .c (.raw (.string b)) := by rfl) (e2 : v.strip = .c (.raw (.int k n)) := by rfl) (hw : G = true → u.wh = true ∧ v.wh = true := by intro hG; simp only [go_sem, hG]) (hn1 : G = true → 0 ≤ n ∧ n < (b.size : Int) := by intro hG; (repeat' apply And.intro) <;> first | rfl | omega | (simp only [Bool.not_eq_true', Bool.or_eq_false_iff, Bool.and_eq_true, decide_eq_true_eq, decide_eq_false_iff_not, beq_iff_eq] at hG; omega) | (dsimp only; omega) | (simp; done)) (hr : byteAt b n.toNat = m := by first | (simp only [go_sem, reduceIte, Nat.reduceEqDiff, FF, Nat.reduceAdd, Nat.reduceSub, Nat.reduceMul, Nat.reduceLeDiff, Int.reduceToNat] <;> rfl) | rfl) : aRun P ops K (⟨some d, .index t y z, ty, pos, af, some (j0, want)⟩ :: r) s h := sg0 rfl ht hs hu hG (k_idx ht1 h1 h2 e1 e2 hw hn1 hr) hn
theorem m_mkI [Glb] {t : TypeId} {y : Operand} {u : AV} {d0 : TypeDesc} {v : Value}  (hn : aRun P ops K r (upd s d (.c (.raw (.iface t v)))) h) (ht1 : P.underlying t = some d0 := by simp only [go_sem] <;> rfl) (hd : notIface d0 = true := by rfl) (h1 : ev s y = u := by simp only [go_sem, reduceIte, Nat.reduceEqDiff, FF] <;> rfl) (hw : true = true → u.wh = true := by intro hG; simp only [go_sem]) (e1 : u.strip = .c (.raw v) := by rfl) : aRun P ops K (⟨some d, .makeInterface t y, ty, pos, af, none⟩ :: r) s h := st0 rfl (k_mkI ht1 hd h1 hw e1) hn
theorem g_mkI [Glb] {j0 t0 : Nat} {want g0 G : Bool} {u0 : AV} {t : TypeId} {y : Operand} {u : AV} {d0 : TypeDesc} {v : Value}  (hn : aRun P ops K r (upd s d (.when G (.c (.raw (.iface t v))))) h) (ht : (ops[j0]?).bind (·.dst) = some t0 := by rfl) (hs : s t0 = u0 := by simp only [go_sem, reduceIte, Nat.reduceEqDiff, FF] <;> rfl) (hu : u0.strip = .bool g0 := by rfl) (hG : (u0.wh && g0 == want) = G := by simp only [go_sem, reduceIte, Nat.reduceEqDiff, FF] <;> rfl) (ht1 : P.underlying t = some d0 := by simp only [go_sem] <;> rfl) (hd : notIface d0 = true := by rfl) (h1 : ev s y = u := by simp only [go_sem, reduceIte, Nat.reduceEqDiff, FF] <;> rfl) (hw : G = true → u.wh = true := by intro hG; simp only [go_sem, hG]) (e1 : u.strip = .c (.raw v) := by rfl) : aRun P ops K (⟨some d, .makeInterface t y, ty, pos, af, some (j0, want)⟩ :: r) s h := sg0 rfl ht hs hu hG (k_mkI ht1 hd h1 hw e1) hn
theorem m_mkA [Glb] {t : TypeId} {y : Operand} {u : AV} {d0 : TypeDesc} {us : List Value}  (hn : aRun P ops K r (upd s d (.c (.raw (.iface t (.agg us.toArray))))) h) (ht1 : P.underlying t = some d0 := by simp only [go_sem] <;> rfl) (hd : notIface d0 = true := by rfl) (h1 : ev s y = u := by simp only [go_sem, reduceIte, Nat.reduceEqDiff, FF] <;> rfl) (hw : true = true → u.wh = true := by intro hG; simp only [go_sem]) (e1 : u.strip.rawAgg = some us := by simp only [go_sem, reduceIte, Nat.reduceEqDiff, FF] <;> rfl) : aRun P ops K (⟨some d, .makeInterface t y, ty, pos, af, none⟩ :: r) s h := st0 rfl (k_mkA ht1 hd h1 hw e1) hn
theorem g_mkA [Glb] {j0 t0 : Nat} {want g0 G : Bool} {u0 : AV} {t : TypeId} {y : Operand} {u : AV} {d0 : TypeDesc} {us : List Value}  (hn : aRun P ops K r (upd s d (.when G (.c (.raw (.iface t (.agg us.toArray)))))) h) (ht : (ops[j0]?).bind (·.dst) = some t0 := by rfl) (hs : s t0 = u0 := by simp only [go_sem, reduceIte, Nat.reduceEqDiff, FF] <;> rfl) (hu : u0.strip = .bool g0 := by rfl) (hG : (u0.wh && g0 == want) = G := by simp only [go_sem, reduceIte, Nat.reduceEqDiff, FF] <;> rfl) (ht1 : P.underlying t = some d0 := by simp only [go_sem] <;> rfl) (hd : notIface d0 = true := by rfl) (h1 : ev s y = u := by simp only [go_sem, reduceIte, Nat.reduceEqDiff, FF] <;> rfl) (hw : G = true → u.wh = true := by intro hG; simp only [go_sem, hG]) (e1 : u.strip.rawAgg = some us := by simp only [go_sem, reduceIte, Nat.reduceEqDiff, FF] <;> rfl) : aRun P ops K (⟨some d, .makeInterface t y, ty, pos, af, some (j0, want)⟩ :: r) s h := sg0 rfl ht hs hu hG (k_mkA ht1 hd h1 hw e1) hn
theorem m_mkF [Glb] {f : FuncId} {caps : Array Operand} {us : List AV} {os : List Nat}  (hn : aRun P ops K r (upd s d (.fn f os)) h) (h1 : (caps.toList.map (ev s)) = us := by simp only [go_sem, reduceIte, Nat.reduceEqDiff, FF] <;> rfl) (hw : true = true → (us.all AV.wh) = true := by intro hG; simp only [go_sem]) (hm : (us.map AV.strip) = os.map (fun o => .ptr o 0) := by rfl) : aRun P ops K (⟨some d, .makeFunc (.func f) #[] caps, ty, pos, af, none⟩ :: r) s h := st0 rfl (k_mkF h1 hw hm) hn
theorem g_mkF [Glb] {j0 t0 : Nat} {want g0 G : Bool} {u0 : AV} {f : FuncId} {caps : Array Operand} {us : List AV} {os : List Nat}  (hn : aRun P ops K r (upd s d (.when G (.fn f os))) h) (ht : (ops[j0]?).bind (·.dst) = some t0 := by rfl) (hs : s t0 = u0 := by simp only [go_sem, reduceIte, Nat.reduceEqDiff, FF] <;> rfl) (hu : u0.strip = .bool g0 := by rfl) (hG : (u0.wh && g0 == want) = G := by simp only [go_sem, reduceIte, Nat.reduceEqDiff, FF] <;> rfl) (h1 : (caps.toList.map (ev s)) = us := by simp only [go_sem, reduceIte, Nat.reduceEqDiff, FF] <;> rfl) (hw : G = true → (us.all AV.wh) = true := by intro hG; simp only [go_sem, hG]) (hm : (us.map AV.strip) = os.map (fun o => .ptr o 0) := by rfl) : aRun P ops K (⟨some d, .makeFunc (.func f) #[] caps, ty, pos, af, some (j0, want)⟩ :: r) s h := sg0 rfl ht hs hu hG (k_mkF h1 hw hm) hn
theorem m_binR [Glb] {op : BinOp} {t t2 : TypeId} {y z : Operand} {u v : AV} {v1 v2 res : Value} (hb : RawBin P op t v1 v2 res) (hn : aRun P ops K r (upd s d (.c (.raw res))) h) (h1 : ev s y = u := by simp only [go_sem, reduceIte, Nat.reduceEqDiff, FF] <;> rfl) (h2 : ev s z = v := by simp only [go_sem, reduceIte, Nat.reduceEqDiff, FF] <;> rfl) (e1 : u.strip = .c (.raw v1) := by rfl) (e2 : v.strip = .c (.raw v2) := by rfl) (hw : true = true → u.wh = true ∧ v.wh = true := by intro hG; simp only [go_sem]) : aRun P ops K (⟨some d, .binOp op t y z t2, ty, pos, af, none⟩ :: r) s h := st0 rfl (k_binR h1 h2 e1 e2 hb hw) hn
theorem g_binR [Glb] {j0 t0 : Nat} {want g0 G : Bool} {u0 : AV} {op : BinOp} {t t2 : TypeId} {y z : Operand} {u v : AV} {v1 v2 res : Value} (hb : RawBin P op t v1 v2 res) (hn : aRun P ops K r (upd s d (.when G (.c (.raw res)))) h) (ht : (ops[j0]?).bind (·.dst) = some t0 := by rfl) (hs : s t0 = u0 := by simp only [go_sem, reduceIte, Nat.reduceEqDiff, FF] <;> rfl) (hu : u0.strip = .bool g0 := by rfl) (hG : (u0.wh && g0 == want) = G := by simp only [go_sem, reduceIte, Nat.reduceEqDiff, FF] <;> rfl) (h1 : ev s y = u := by simp only [go_sem, reduceIte, Nat.reduceEqDiff, FF] <;> rfl) (h2 : ev s z = v := by simp only [go_sem, reduceIte, Nat.reduceEqDiff, FF] <;> rfl) (e1 : u.strip = .c (.raw v1) := by rfl) (e2 : v.strip = .c (.raw v2) := by rfl) (hw : G = true → u.wh = true ∧ v.wh = true := by intro hG; simp only [go_sem, hG]) : aRun P ops K (⟨some d, .binOp op t y z t2, ty, pos, af, some (j0, want)⟩ :: r) s h := sg0 rfl ht hs hu hG (k_binR h1 h2 e1 e2 hb hw) hn
theorem m_load [Glb] {t : TypeId} {y : Operand} {u : AV} {i : TI}  (hn : aRun P ops K r (upd s d (x)) h) (h1 : ev s y = u := by simp only [go_sem, reduceIte, Nat.reduceEqDiff, FF] <;> rfl) (ht1 : tinfo P t = some i := by simp only [go_sem] <;> rfl) (hs1 : (i.agg || i.size == 1) = true := by rfl) (hw : true = true → u.wh = true := by intro hG; simp only [go_sem]) (hx : loadM h i true u.strip x := by first | exact lm_ptr (by simp only [go_sem, reduceIte, Nat.reduceEqDiff, FF] <;> rfl) (by simp only [go_sem, reduceIte, Nat.reduceEqDiff, FF, Nat.reduceAdd, Nat.reduceSub, Nat.reduceMul, Nat.reduceLeDiff] <;> rfl) (fun _ => Nat.le_of_ble_eq_true rfl) | exact lm_pim (by simp only [go_sem, reduceIte, Nat.reduceEqDiff, FF, Nat.reduceAdd, Nat.reduceSub, Nat.reduceMul, Nat.reduceLeDiff] <;> rfl) (fun _ => Nat.le_of_ble_eq_true rfl) | exact lm_rp (by simp only [go_sem, reduceIte, Nat.reduceEqDiff, FF] <;> rfl) (by simp only [go_sem, reduceIte, Nat.reduceEqDiff, FF, Nat.reduceAdd, Nat.reduceSub, Nat.reduceMul, Nat.reduceLeDiff] <;> rfl) (by intro hG; (repeat' apply And.intro) <;> first | rfl | omega | (dsimp only; omega) | (simp; done))) : aRun P ops K (⟨some d, .load t y, ty, pos, af, none⟩ :: r) s h := st1 rfl (k_load h1 ht1 hs1 hw hx) hn
theorem g_load [Glb] {j0 t0 : Nat} {want g0 G : Bool} {u0 : AV} {t : TypeId} {y : Operand} {u : AV} {i : TI}  (hn : aRun P ops K r (upd s d (.when G (x))) h) (ht : (ops[j0]?).bind (·.dst) = some t0 := by rfl) (hs : s t0 = u0 := by simp only [go_sem, reduceIte, Nat.reduceEqDiff, FF] <;> rfl) (hu : u0.strip = .bool g0 := by rfl) (hG : (u0.wh && g0 == want) = G := by simp only [go_sem, reduceIte, Nat.reduceEqDiff, FF] <;> rfl) (h1 : ev s y = u := by simp only [go_sem, reduceIte, Nat.reduceEqDiff, FF] <;> rfl) (ht1 : tinfo P t = some i := by simp only [go_sem] <;> rfl) (hs1 : (i.agg || i.size == 1) = true := by rfl) (hw : G = true → u.wh = true := by intro hG; simp only [go_sem, hG]) (hx : loadM h i G u.strip x := by first | exact lm_ptr (by simp only [go_sem, reduceIte, Nat.reduceEqDiff, FF] <;> rfl) (by simp only [go_sem, reduceIte, Nat.reduceEqDiff, FF, Nat.reduceAdd, Nat.reduceSub, Nat.reduceMul, Nat.reduceLeDiff] <;> rfl) (fun _ => Nat.le_of_ble_eq_true rfl) | exact lm_pim (by simp only [go_sem, reduceIte, Nat.reduceEqDiff, FF, Nat.reduceAdd, Nat.reduceSub, Nat.reduceMul, Nat.reduceLeDiff] <;> rfl) (fun _ => Nat.le_of_ble_eq_true rfl) | exact lm_rp (by simp only [go_sem, reduceIte, Nat.reduceEqDiff, FF] <;> rfl) (by simp only [go_sem, reduceIte, Nat.reduceEqDiff, FF, Nat.reduceAdd, Nat.reduceSub, Nat.reduceMul, Nat.reduceLeDiff] <;> rfl) (by intro hG; (repeat' apply And.intro) <;> first | rfl | omega | (simp only [Bool.not_eq_true', Bool.or_eq_false_iff, Bool.and_eq_true, decide_eq_true_eq, decide_eq_false_iff_not, beq_iff_eq] at hG; omega) | (dsimp only; omega) | (simp; done))) : aRun P ops K (⟨some d, .load t y, ty, pos, af, some (j0, want)⟩ :: r) s h := sg1 rfl ht hs hu hG (k_load h1 ht1 hs1 hw hx) hn
theorem m_index [Glb] {t : TypeId} {y z : Operand} {u v : AV} {i j : TI} {k : IntKind} {n : Int}  (hn : aRun P ops K r (upd s d (x)) h) (h1 : ev s y = u := by simp only [go_sem, reduceIte, Nat.reduceEqDiff, FF] <;> rfl) (h2 : ev s z = v := by simp only [go_sem, reduceIte, Nat.reduceEqDiff, FF] <;> rfl) (ht1 : tinfo P t = some i := by simp only [go_sem] <;> rfl) (hs1 : i.slice = true := by rfl) (hj : tinfo P i.elem = some j := by simp only [go_sem] <;> rfl) (e2 : v.strip = .c (.raw (.int k n)) := by rfl) (hw : true = true → u.wh = true ∧ v.wh = true := by intro hG; simp only [go_sem]) (hx : idxM h j n true u.strip x := by first | exact im_im (by first | (simp only [go_sem, reduceIte, Nat.reduceEqDiff, FF, Nat.reduceAdd, Nat.reduceSub, Nat.reduceMul, Nat.reduceLeDiff, Int.reduceToNat] <;> rfl) | rfl) (by intro hG; (repeat' apply And.intro) <;> first | rfl | omega | (dsimp only; omega) | (simp; done)) | exact im_own (by simp only [go_sem, reduceIte, Nat.reduceEqDiff, FF] <;> rfl) (by first | (simp only [go_sem, reduceIte, Nat.reduceEqDiff, FF, Nat.reduceAdd, Nat.reduceSub, Nat.reduceMul, Nat.reduceLeDiff, Int.reduceToNat] <;> rfl) | rfl) (by intro hG; (repeat' apply And.intro) <;> first | rfl | omega | (dsimp only; omega) | (simp; done)) | exact im_osub (by simp only [go_sem, reduceIte, Nat.reduceEqDiff, FF] <;> rfl) (by first | (simp only [go_sem, reduceIte, Nat.reduceEqDiff, FF, Nat.reduceAdd, Nat.reduceSub, Nat.reduceMul, Nat.reduceLeDiff, Int.reduceToNat] <;> rfl) | rfl) (by intro hG; (repeat' apply And.intro) <;> first | rfl | omega | (dsimp only; omega) | (simp; done))) : aRun P ops K (⟨some d, .indexAddr t y z, ty, pos, af, none⟩ :: r) s h := st1 rfl (k_index h1 h2 ht1 hs1 hj e2 hw hx) hn
theorem g_index [Glb] {j0 t0 : Nat} {want g0 G : Bool} {u0 : AV} {t : TypeId} {y z : Operand} {u v : AV} {i j : TI} {k : IntKind} {n : Int}  (hn : aRun P ops K r (upd s d (.when G (x))) h) (ht : (ops[j0]?).bind (·.dst) = some t0 := by rfl) (hs : s t0 = u0 := by simp only [go_sem, reduceIte, Nat.reduceEqDiff, FF] <;> rfl) (hu : u0.strip = .bool g0 := by rfl) (hG : (u0.wh && g0 == want) = G := by simp only [go_sem, reduceIte, Nat.reduceEqDiff, FF] <;> rfl) (h1 : ev s y = u := by simp only [go_sem, reduceIte, Nat.reduceEqDiff, FF] <;> rfl) (h2 : ev s z = v := by simp only [go_sem, reduceIte, Nat.reduceEqDiff, FF] <;> rfl) (ht1 : tinfo P t = some i := by simp only [go_sem] <;> rfl) (hs1 : i.slice = true := by rfl) (hj : tinfo P i.elem = some j := by simp only [go_sem] <;> rfl) (e2 : v.strip = .c (.raw (.int k n)) := by rfl) (hw : G = true → u.wh = true ∧ v.wh = true := by intro hG; simp only [go_sem, hG]) (hx : idxM h j n G u.strip x := by first | exact im_im (by first | (simp only [go_sem, reduceIte, Nat.reduceEqDiff, FF, Nat.reduceAdd, Nat.reduceSub, Nat.reduceMul, Nat.reduceLeDiff, Int.reduceToNat] <;> rfl) | rfl) (by intro hG; (repeat' apply And.intro) <;> first | rfl | omega | (simp only [Bool.not_eq_true', Bool.or_eq_false_iff, Bool.and_eq_true, decide_eq_true_eq, decide_eq_false_iff_not, beq_iff_eq] at hG; omega) | (dsimp only; omega) | (simp; done)) | exact im_own (by simp only [go_sem, reduceIte, Nat.reduceEqDiff, FF] <;> rfl) (by first | (simp only [go_sem, reduceIte, Nat.reduceEqDiff, FF, Nat.reduceAdd, Nat.reduceSub, Nat.reduceMul, Nat.reduceLeDiff, Int.reduceToNat] <;> rfl) | rfl) (by intro hG; (repeat' apply And.intro) <;> first | rfl | omega | (simp only [Bool.not_eq_true', Bool.or_eq_false_iff, Bool.and_eq_true, decide_eq_true_eq, decide_eq_false_iff_not, beq_iff_eq] at hG; omega) | (dsimp only; omega) | (simp; done)) | exact im_osub (by simp only [go_sem, reduceIte, Nat.reduceEqDiff, FF] <;> rfl) (by first | (simp only [go_sem, reduceIte, Nat.reduceEqDiff, FF, Nat.reduceAdd, Nat.reduceSub, Nat.reduceMul, Nat.reduceLeDiff, Int.reduceToNat] <;> rfl) | rfl) (by intro hG; (repeat' apply And.intro) <;> first | rfl | omega | (simp only [Bool.not_eq_true', Bool.or_eq_false_iff, Bool.and_eq_true, decide_eq_true_eq, decide_eq_false_iff_not, beq_iff_eq] at hG; omega) | (dsimp only; omega) | (simp; done))) : aRun P ops K (⟨some d, .indexAddr t y z, ty, pos, af, some (j0, want)⟩ :: r) s h := sg1 rfl ht hs hu hG (k_index h1 h2 ht1 hs1 hj e2 hw hx) hn
theorem m_len [Glb] {y : Operand} {t : TypeId} {u : AV}  (hn : aRun P ops K r (upd s d (x)) h) (h1 : ev s y = u := by simp only [go_sem, reduceIte, Nat.reduceEqDiff, FF] <;> rfl) (hw : true = true → u.wh = true := by intro hG; simp only [go_sem]) (hx : lenM P h t true u.strip x := by first | exact nm_im (by simp only [go_sem] <;> rfl) | exact nm_own (by simp only [go_sem] <;> rfl) (by simp only [go_sem, reduceIte, Nat.reduceEqDiff, FF] <;> rfl) (by intro hG; (repeat' apply And.intro) <;> first | rfl | omega | (dsimp only; omega) | (simp; done)) | exact nm_emp (by simp only [go_sem] <;> rfl) | exact nm_osub (by simp only [go_sem] <;> rfl) (by simp only [go_sem, reduceIte, Nat.reduceEqDiff, FF] <;> rfl) (by intro hG; (repeat' apply And.intro) <;> first | rfl | omega | (dsimp only; omega) | (simp; done)) | exact nm_str (by simp only [go_sem] <;> rfl)) : aRun P ops K (⟨some d, .call { callee := .builtin .len, args := #[y], argTypes := #[t] }, ty, pos, af, none⟩ :: r) s h := st1 rfl (k_len h1 hw hx) hn
theorem g_len [Glb] {j0 t0 : Nat} {want g0 G : Bool} {u0 : AV} {y : Operand} {t : TypeId} {u : AV}  (hn : aRun P ops K r (upd s d (.when G (x))) h) (ht : (ops[j0]?).bind (·.dst) = some t0 := by rfl) (hs : s t0 = u0 := by simp only [go_sem, reduceIte, Nat.reduceEqDiff, FF] <;> rfl) (hu : u0.strip = .bool g0 := by rfl) (hG : (u0.wh && g0 == want) = G := by simp only [go_sem, reduceIte, Nat.reduceEqDiff, FF] <;> rfl) (h1 : ev s y = u := by simp only [go_sem, reduceIte, Nat.reduceEqDiff, FF] <;> rfl) (hw : G = true → u.wh = true := by intro hG; simp only [go_sem, hG]) (hx : lenM P h t G u.strip x := by first | exact nm_im (by simp only [go_sem] <;> rfl) | exact nm_own (by simp only [go_sem] <;> rfl) (by simp only [go_sem, reduceIte, Nat.reduceEqDiff, FF] <;> rfl) (by intro hG; (repeat' apply And.intro) <;> first | rfl | omega | (simp only [Bool.not_eq_true', Bool.or_eq_false_iff, Bool.and_eq_true, decide_eq_true_eq, decide_eq_false_iff_not, beq_iff_eq] at hG; omega) | (dsimp only; omega) | (simp; done)) | exact nm_emp (by simp only [go_sem] <;> rfl) | exact nm_osub (by simp only [go_sem] <;> rfl) (by simp only [go_sem, reduceIte, Nat.reduceEqDiff, FF] <;> rfl) (by intro hG; (repeat' apply And.intro) <;> first | rfl | omega | (simp only [Bool.not_eq_true', Bool.or_eq_false_iff, Bool.and_eq_true, decide_eq_true_eq, decide_eq_false_iff_not, beq_iff_eq] at hG; omega) | (dsimp only; omega) | (simp; done)) | exact nm_str (by simp only [go_sem] <;> rfl)) : aRun P ops K (⟨some d, .call { callee := .builtin .len, args := #[y], argTypes := #[t] }, ty, pos, af, some (j0, want)⟩ :: r) s h := sg1 rfl ht hs hu hG (k_len h1 hw hx) hn
theorem m_call [Glb] {f : FuncId} {args : Array Operand} {ats : Array TypeId} {us : List AV} {vs : List CV} {res : CV} (hp : true = true → APure P f vs res) (hn : aRun P ops K r (upd s d (.c res)) h) (h1 : args.toList.map (ev s) = us := by simp only [go_sem, reduceIte, Nat.reduceEqDiff, FF] <;> rfl) (h2 : (us.all fun u => u.strip.live h) = true := by rfl) (h3 : (us.map fun u => u.strip.view h) = vs := by simp only [go_sem, reduceIte, Nat.reduceEqDiff, FF] <;> rfl) (hw : true = true → (us.all AV.wh) = true := by intro hG; simp only [go_sem]) (hc : (res.flat || us.all fun u => u.strip.closedA) = true := by rfl) : aRun P ops K (⟨some d, .call { callee := .value (.func f), args := args, argTypes := ats }, ty, pos, af, none⟩ :: r) s h := st1 rfl (k_call h1 h2 h3 hw hc (Subs.refl _) hp) hn
theorem g_call [Glb] {j0 t0 : Nat} {want g0 G : Bool} {u0 : AV} {f : FuncId} {args : Array Operand} {ats : Array TypeId} {us : List AV} {vs : List CV} {res : CV} (hp : G = true → APure P f vs res) (hn : aRun P ops K r (upd s d (.when G (.c res))) h) (ht : (ops[j0]?).bind (·.dst) = some t0 := by rfl) (hs : s t0 = u0 := by simp only [go_sem, reduceIte, Nat.reduceEqDiff, FF] <;> rfl) (hu : u0.strip = .bool g0 := by rfl) (hG : (u0.wh && g0 == want) = G := by simp only [go_sem, reduceIte, Nat.reduceEqDiff, FF] <;> rfl) (h1 : args.toList.map (ev s) = us := by simp only [go_sem, reduceIte, Nat.reduceEqDiff, FF] <;> rfl) (h2 : (us.all fun u => u.strip.live h) = true := by rfl) (h3 : (us.map fun u => u.strip.view h) = vs := by simp only [go_sem, reduceIte, Nat.reduceEqDiff, FF] <;> rfl) (hw : G = true → (us.all AV.wh) = true := by intro hG; simp only [go_sem, hG]) (hc : (res.flat || us.all fun u => u.strip.closedA) = true := by rfl) : aRun P ops K (⟨some d, .call { callee := .value (.func f), args := args, argTypes := ats }, ty, pos, af, some (j0, want)⟩ :: r) s h := sg1 rfl ht hs hu hG (k_call h1 h2 h3 hw hc (Subs.refl _) hp) hn
theorem m_callV [Glb] {f : FuncId} {tt : Tmp} {ut : AV} {args : Array Operand} {ats : Array TypeId} {us : List AV} {vs : List CV} {res : CV} (hp : true = true → APure P f vs res) (hn : aRun P ops K r (upd s d (.c res)) h) (ht9 : ev s (.tmp tt) = ut := by simp only [go_sem, reduceIte, Nat.reduceEqDiff, FF] <;> rfl) (htw : true = true → ut.wh = true := by intro hG; simp only [go_sem]) (hte : ut.strip = .c (.raw (.func (.func f) #[] #[])) := by rfl) (h1 : args.toList.map (ev s) = us := by simp only [go_sem, reduceIte, Nat.reduceEqDiff, FF] <;> rfl) (h2 : (us.all fun u => u.strip.live h) = true := by rfl) (h3 : (us.map fun u => u.strip.view h) = vs := by simp only [go_sem, reduceIte, Nat.reduceEqDiff, FF] <;> rfl) (hw : true = true → (us.all AV.wh) = true := by intro hG; simp only [go_sem]) (hc : (res.flat || us.all fun u => u.strip.closedA) = true := by rfl) : aRun P ops K (⟨some d, .call { callee := .value (.tmp tt), args := args, argTypes := ats }, ty, pos, af, none⟩ :: r) s h := st1 rfl (k_callV ht9 htw hte h1 h2 h3 hw hc (Subs.refl _) hp) hn
theorem g_callV [Glb] {j0 t0 : Nat} {want g0 G : Bool} {u0 : AV} {f : FuncId} {tt : Tmp} {ut : AV} {args : Array Operand} {ats : Array TypeId} {us : List AV} {vs : List CV} {res : CV} (hp : G = true → APure P f vs res) (hn : aRun P ops K r (upd s d (.when G (.c res))) h) (ht : (ops[j0]?).bind (·.dst) = some t0 := by rfl) (hs : s t0 = u0 := by simp only [go_sem, reduceIte, Nat.reduceEqDiff, FF] <;> rfl) (hu : u0.strip = .bool g0 := by rfl) (hG : (u0.wh && g0 == want) = G := by simp only [go_sem, reduceIte, Nat.reduceEqDiff, FF] <;> rfl) (ht9 : ev s (.tmp tt) = ut := by simp only [go_sem, reduceIte, Nat.reduceEqDiff, FF] <;> rfl) (htw : G = true → ut.wh = true := by intro hG; simp only [go_sem, hG]) (hte : ut.strip = .c (.raw (.func (.func f) #[] #[])) := by rfl) (h1 : args.toList.map (ev s) = us := by simp only [go_sem, reduceIte, Nat.reduceEqDiff, FF] <;> rfl) (h2 : (us.all fun u => u.strip.live h) = true := by rfl) (h3 : (us.map fun u => u.strip.view h) = vs := by simp only [go_sem, reduceIte, Nat.reduceEqDiff, FF] <;> rfl) (hw : G = true → (us.all AV.wh) = true := by intro hG; simp only [go_sem, hG]) (hc : (res.flat || us.all fun u => u.strip.closedA) = true := by rfl) : aRun P ops K (⟨some d, .call { callee := .value (.tmp tt), args := args, argTypes := ats }, ty, pos, af, some (j0, want)⟩ :: r) s h := sg1 rfl ht hs hu hG (k_callV ht9 htw hte h1 h2 h3 hw hc (Subs.refl _) hp) hn
theorem m_callS [Glb] {f : FuncId} {args : Array Operand} {ats : Array TypeId} {us : List AV} {vs cs : List CV} {res : CV} (hp : true = true → APure P f cs res) (hn : aRun P ops K r (upd s d (.c res)) h) (h1 : args.toList.map (ev s) = us := by simp only [go_sem, reduceIte, Nat.reduceEqDiff, FF] <;> rfl) (h2 : (us.all fun u => u.strip.live h) = true := by rfl) (h3 : (us.map fun u => u.strip.view h) = vs := by simp only [go_sem, reduceIte, Nat.reduceEqDiff, FF] <;> rfl) (hw : true = true → (us.all AV.wh) = true := by intro hG; simp only [go_sem]) (hc : (res.flat || us.all fun u => u.strip.closedA) = true := by rfl) (hsub : Subs vs cs := by exact Subs.refl _) : aRun P ops K (⟨some d, .call { callee := .value (.func f), args := args, argTypes := ats }, ty, pos, af, none⟩ :: r) s h := st1 rfl (k_call h1 h2 h3 hw hc hsub hp) hn
theorem g_callS [Glb] {j0 t0 : Nat} {want g0 G : Bool} {u0 : AV} {f : FuncId} {args : Array Operand} {ats : Array TypeId} {us : List AV} {vs cs : List CV} {res : CV} (hp : G = true → APure P f cs res) (hn : aRun P ops K r (upd s d (.when G (.c res))) h) (ht : (ops[j0]?).bind (·.dst) = some t0 := by rfl) (hs : s t0 = u0 := by simp only [go_sem, reduceIte, Nat.reduceEqDiff, FF] <;> rfl) (hu : u0.strip = .bool g0 := by rfl) (hG : (u0.wh && g0 == want) = G := by simp only [go_sem, reduceIte, Nat.reduceEqDiff, FF] <;> rfl) (h1 : args.toList.map (ev s) = us := by simp only [go_sem, reduceIte, Nat.reduceEqDiff, FF] <;> rfl) (h2 : (us.all fun u => u.strip.live h) = true := by rfl) (h3 : (us.map fun u => u.strip.view h) = vs := by simp only [go_sem, reduceIte, Nat.reduceEqDiff, FF] <;> rfl) (hw : G = true → (us.all AV.wh) = true := by intro hG; simp only [go_sem, hG]) (hc : (res.flat || us.all fun u => u.strip.closedA) = true := by rfl) (hsub : Subs vs cs := by exact Subs.refl _) : aRun P ops K (⟨some d, .call { callee := .value (.func f), args := args, argTypes := ats }, ty, pos, af, some (j0, want)⟩ :: r) s h := sg1 rfl ht hs hu hG (k_call h1 h2 h3 hw hc hsub hp) hn
theorem m_slOwn [Glb] {t : TypeId} {y : Operand} {lo hi : Option Operand} {u : AV} {L H : Option AV} {o M : Nat} {ty0 : TypeId} {sz n l hh : Nat} {f : Nat → List CV} {i j : TI} (hn : aRun P ops K r (upd s d (.osub o M l (hh - l))) h) (h1 : ev s y = u := by simp only [go_sem, reduceIte, Nat.reduceEqDiff, FF] <;> rfl) (e1 : u.strip = .own o M := by rfl) (hb : h o = .row ty0 sz n f := by simp only [go_sem, reduceIte, Nat.reduceEqDiff, FF] <;> rfl) (h2 : bndOf s lo = L := by simp only [go_sem, reduceIte, Nat.reduceEqDiff, FF] <;> rfl) (h3 : bndOf s hi = H := by simp only [go_sem, reduceIte, Nat.reduceEqDiff, FF] <;> rfl) (ht1 : tinfo P t = some i := by simp only [go_sem] <;> rfl) (hs : i.slice = true := by rfl) (hj : tinfo P i.elem = some j := by simp only [go_sem] <;> rfl) (b1 : bnd true 0 l L := by first | exact bd_no | exact bd_one | exact bd_nat | exact bd_yes (by rfl) (by omega) (fun _ => rfl)) (b2 : bnd true n hh H := by first | exact bd_no | exact bd_one | exact bd_nat | exact bd_yes (by rfl) (by omega) (fun _ => rfl)) (hw : true = true → u.wh = true := by exact fun _ => rfl) (hl : true = true → l ≤ hh ∧ M = n ∧ sz = j.size ∧ hh ≤ n := by intro hG; (repeat' apply And.intro) <;> first | rfl | omega | (dsimp only; omega) | (simp; done)) : aRun P ops K (⟨some d, .slice t y lo hi none, ty, pos, af, none⟩ :: r) s h := st1 rfl (k_sl_own h1 e1 hb h2 h3 ht1 hs hj b1 b2 hw hl) hn
theorem m_slIm [Glb] {t : TypeId} {y : Operand} {lo hi : Option Operand} {u : AV} {L H : Option AV} {sz n l hh : Nat} {f : Nat → List CV} {i j : TI} (hn : aRun P ops K r (upd s d (.c (.im sz (hh - l) fun q => f (l + q)))) h) (h1 : ev s y = u := by simp only [go_sem, reduceIte, Nat.reduceEqDiff, FF] <;> rfl) (e1 : u.strip = .c (.im sz n f) := by rfl) (h2 : bndOf s lo = L := by simp only [go_sem, reduceIte, Nat.reduceEqDiff, FF] <;> rfl) (h3 : bndOf s hi = H := by simp only [go_sem, reduceIte, Nat.reduceEqDiff, FF] <;> rfl) (ht1 : tinfo P t = some i := by simp only [go_sem] <;> rfl) (hs : i.slice = true := by rfl) (hj : tinfo P i.elem = some j := by simp only [go_sem] <;> rfl) (b1 : bnd true 0 l L := by first | exact bd_no | exact bd_one | exact bd_nat | exact bd_yes (by rfl) (by omega) (fun _ => rfl)) (b2 : bnd true n hh H := by first | exact bd_no | exact bd_one | exact bd_nat | exact bd_yes (by rfl) (by omega) (fun _ => rfl)) (hw : true = true → u.wh = true := by exact fun _ => rfl) (hl : true = true → l ≤ hh ∧ sz = j.size ∧ hh ≤ n := by intro hG; (repeat' apply And.intro) <;> first | rfl | omega | (dsimp only; omega) | (simp; done)) : aRun P ops K (⟨some d, .slice t y lo hi none, ty, pos, af, none⟩ :: r) s h := st1 rfl (k_sl_im h1 e1 h2 h3 ht1 hs hj b1 b2 hw hl) hn
theorem m_appOwn [Glb] {y z : Operand} {t : TypeId} {u v : AV} {i j : TI} {sz m n o L : Nat} {g f : Nat → List CV} {ty0 : TypeId} (hn : aRun P ops K r (upd s d (.own o (n + m))) (upd h o (.row ty0 j.size (n + m) (fun q => if q < n then f q else g (q - n))))) (h1 : ev s y = u := by simp only [go_sem, reduceIte, Nat.reduceEqDiff, FF] <;> rfl) (h2 : ev s z = v := by simp only [go_sem, reduceIte, Nat.reduceEqDiff, FF] <;> rfl) (ht1 : tinfo P t = some i := by simp only [go_sem] <;> rfl) (hsl : i.slice = true := by rfl) (hj : tinfo P i.elem = some j := by simp only [go_sem] <;> rfl) (hz : (decide (0 < j.size) && j.zero.length == j.size) = true := by rfl) (w1 : u.wh = true := by rfl) (w2 : v.wh = true := by rfl) (hsrc : srcOf h v.strip = some (sz, m, g) := by simp only [go_sem, reduceIte, Nat.reduceEqDiff, FF] <;> rfl) (e1 : u.strip = .own o L := by rfl) (hb : h o = .row ty0 j.size n f := by simp only [go_sem, reduceIte, Nat.reduceEqDiff, FF] <;> rfl) (hc : (m = 0 ∨ sz = j.size) ∧ ty0 = i.elem ∧ L = n := by refine ⟨?_, rfl, ?_⟩ <;> first | rfl | exact .inr rfl | exact .inl rfl | omega) (hle : n + m ≤ maxLen ∧ (n + m) * j.bytes ≤ 140737488355328 := by simp only [go_sem, maxLen, Nat.reduceAdd, Nat.reduceMul, Nat.reduceLeDiff]; omega) : aRun P ops K (⟨some d, .call { callee := .builtin .append, args := #[y, z], argTypes := #[t, t] }, ty, pos, af, none⟩ :: r) s h := st2 rfl (k_app_own h1 h2 ht1 hsl hj hz w1 w2 hsrc e1 hb hc hle) hn
theorem m_appEmp [Glb] {y z : Operand} {t : TypeId} {u v : AV} {i j : TI} {sz m : Nat} {g : Nat → List CV} (hn : aRun P ops K r (upd s d (.own d m)) (upd h d (.row i.elem j.size m g))) (h1 : ev s y = u := by simp only [go_sem, reduceIte, Nat.reduceEqDiff, FF] <;> rfl) (h2 : ev s z = v := by simp only [go_sem, reduceIte, Nat.reduceEqDiff, FF] <;> rfl) (ht1 : tinfo P t = some i := by simp only [go_sem] <;> rfl) (hsl : i.slice = true := by rfl) (hj : tinfo P i.elem = some j := by simp only [go_sem] <;> rfl) (hz : (decide (0 < j.size) && j.zero.length == j.size) = true := by rfl) (w1 : u.wh = true := by rfl) (w2 : v.wh = true := by rfl) (hsrc : srcOf h v.strip = some (sz, m, g) := by simp only [go_sem, reduceIte, Nat.reduceEqDiff, FF] <;> rfl) (e1 : u.strip = .emp := by rfl) (hgo : h d = .gone := by simp only [go_sem, reduceIte, Nat.reduceEqDiff, FF] <;> rfl) (hc : m = 0 ∨ sz = j.size := by first | exact .inr rfl | exact .inl rfl) (hle : m ≤ maxLen ∧ m * j.bytes ≤ 140737488355328 := by simp only [go_sem, maxLen, Nat.reduceAdd, Nat.reduceMul, Nat.reduceLeDiff]; omega) : aRun P ops K (⟨some d, .call { callee := .builtin .append, args := #[y, z], argTypes := #[t, t] }, ty, pos, af, none⟩ :: r) s h := st2 rfl (k_app_emp h1 h2 ht1 hsl hj hz w1 w2 hsrc e1 hgo hc hle) hn
theorem m_copyOwn [Glb] {y z : Operand} {t t2 : TypeId} {u v : AV} {i j : TI} {sz m n o L : Nat} {g f : Nat → List CV} {ty0 : TypeId} (hn : aRun P ops K r (upd s d (.int (Nat.min m n : Nat))) (upd h o (.row ty0 j.size n (fun q => if q < Nat.min m n then g q else f q)))) (h1 : ev s y = u := by simp only [go_sem, reduceIte, Nat.reduceEqDiff, FF] <;> rfl) (h2 : ev s z = v := by simp only [go_sem, reduceIte, Nat.reduceEqDiff, FF] <;> rfl) (ht1 : tinfo P t = some i := by simp only [go_sem] <;> rfl) (hsl : i.slice = true := by rfl) (hj : tinfo P i.elem = some j := by simp only [go_sem] <;> rfl) (w1 : u.wh = true := by rfl) (w2 : v.wh = true := by rfl) (hsrc : srcOf h v.strip = some (sz, m, g) := by simp only [go_sem, reduceIte, Nat.reduceEqDiff, FF] <;> rfl) (e1 : u.strip = .own o L := by rfl) (hb : h o = .row ty0 j.size n f := by simp only [go_sem, reduceIte, Nat.reduceEqDiff, FF] <;> rfl) (hc : (m = 0 ∨ sz = j.size) ∧ L = n := by refine ⟨?_, ?_⟩ <;> first | rfl | exact .inr rfl | exact .inl rfl | omega) : aRun P ops K (⟨some d, .call { callee := .builtin .copy, args := #[y, z], argTypes := #[t, t2] }, ty, pos, af, none⟩ :: r) s h := st2 rfl (k_copy_own h1 h2 ht1 hsl hj w1 w2 hsrc e1 hb hc) hn
theorem m_copySub [Glb] {y z : Operand} {t t2 : TypeId} {u v : AV} {i j : TI} {sz m n o L off k : Nat} {g f : Nat → List CV} {ty0 : TypeId} (hn : aRun P ops K r (upd s d (.int (Nat.min m k : Nat))) (upd h o (.row ty0 j.size n (fun q => if off ≤ q ∧ q < off + Nat.min m k then g (q - off) else f q)))) (h1 : ev s y = u := by simp only [go_sem, reduceIte, Nat.reduceEqDiff, FF] <;> rfl) (h2 : ev s z = v := by simp only [go_sem, reduceIte, Nat.reduceEqDiff, FF] <;> rfl) (ht1 : tinfo P t = some i := by simp only [go_sem] <;> rfl) (hsl : i.slice = true := by rfl) (hj : tinfo P i.elem = some j := by simp only [go_sem] <;> rfl) (w1 : u.wh = true := by rfl) (w2 : v.wh = true := by rfl) (hsrc : srcOf h v.strip = some (sz, m, g) := by simp only [go_sem, reduceIte, Nat.reduceEqDiff, FF] <;> rfl) (e1 : u.strip = .osub o L off k := by rfl) (hb : h o = .row ty0 j.size n f := by simp only [go_sem, reduceIte, Nat.reduceEqDiff, FF] <;> rfl) (hc : (m = 0 ∨ sz = j.size) ∧ L = n := by refine ⟨?_, ?_⟩ <;> first | rfl | exact .inr rfl | exact .inl rfl | omega) : aRun P ops K (⟨some d, .call { callee := .builtin .copy, args := #[y, z], argTypes := #[t, t2] }, ty, pos, af, none⟩ :: r) s h := st2 rfl (k_copy_osub h1 h2 ht1 hsl hj w1 w2 hsrc e1 hb hc) hn
theorem m_stPtr [Glb] {t : TypeId} {y z : Operand} {u v : AV} {i : TI} {o off : Nat} {ty0 : TypeId} {cells l cells' : List AV} (hn : aRun P ops K r s (upd h o (.box ty0 cells'))) (h1 : ev s y = u := by simp only [go_sem, reduceIte, Nat.reduceEqDiff, FF] <;> rfl) (h2 : ev s z = v := by simp only [go_sem, reduceIte, Nat.reduceEqDiff, FF] <;> rfl) (ht1 : tinfo P t = some i := by simp only [go_sem] <;> rfl) (w1 : u.wh = true := by rfl) (w2 : v.wh = true := by rfl) (e1 : u.strip = .ptr o off := by rfl) (hb : h o = .box ty0 cells := by simp only [go_sem, reduceIte, Nat.reduceEqDiff, FF] <;> rfl) (hl : v.strip.cells = some l := by simp only [go_sem, reduceIte, Nat.reduceEqDiff, FF, Nat.reduceAdd, Nat.reduceSub, Nat.reduceMul, Nat.reduceLeDiff] <;> rfl) (hn1 : l.length = i.size := by rfl) (hx : setL cells off l = cells' := by simp only [go_sem, reduceIte, Nat.reduceEqDiff, FF, Nat.reduceAdd, Nat.reduceSub, Nat.reduceMul, Nat.reduceLeDiff] <;> rfl) (hle : off + i.size ≤ cells.length := by exact Nat.le_of_ble_eq_true rfl) : aRun P ops K (⟨none, .store t y z, ty, pos, af, none⟩ :: r) s h := st2n rfl (k_store_ptr h1 h2 ht1 w1 w2 e1 hb hl hn1 hx hle) hn
theorem m_stRp [Glb] {t : TypeId} {y z : Operand} {u v : AV} {i : TI} {o L k off : Nat} {ty0 : TypeId} {sz n : Nat} {f : Nat → List CV} {l : List CV} (hn : aRun P ops K r s (upd h o (.row ty0 sz n (upd f k (setLC (f k) off l))))) (h1 : ev s y = u := by simp only [go_sem, reduceIte, Nat.reduceEqDiff, FF] <;> rfl) (h2 : ev s z = v := by simp only [go_sem, reduceIte, Nat.reduceEqDiff, FF] <;> rfl) (ht1 : tinfo P t = some i := by simp only [go_sem] <;> rfl) (w1 : u.wh = true := by rfl) (w2 : v.wh = true := by rfl) (e1 : u.strip = .rp o L k off := by rfl) (hb : h o = .row ty0 sz n f := by simp only [go_sem, reduceIte, Nat.reduceEqDiff, FF] <;> rfl) (hl : v.strip.closedCells = some l := by simp only [go_sem, reduceIte, Nat.reduceEqDiff, FF, Nat.reduceAdd, Nat.reduceSub, Nat.reduceMul, Nat.reduceLeDiff] <;> rfl) (hn1 : l.length = i.size := by rfl) (hle : L = n ∧ k < n ∧ off + i.size ≤ sz := by (repeat' apply And.intro) <;> first | rfl | omega | (dsimp only; omega)) : aRun P ops K (⟨none, .store t y z, ty, pos, af, none⟩ :: r) s h := st2n rfl (k_store_rp h1 h2 ht1 w1 w2 e1 hb hl hn1 hle) hn
theorem m_box [Glb] {t : TypeId} {y : Operand} {u : AV} {l : List AV} (hn : aRun P ops K r (upd s d (.ptr d 0)) (upd h d (.box t l))) (hgo : h d = .gone := by simp only [go_sem, reduceIte, Nat.reduceEqDiff, FF]) (h1 : ev s y = u := by simp only [go_sem, reduceIte, Nat.reduceEqDiff, FF] <;> rfl) (w1 : u.wh = true := by rfl) (hl : u.strip.cells = some l := by simp only [go_sem, reduceIte, Nat.reduceEqDiff, FF, Nat.reduceAdd, Nat.reduceSub, Nat.reduceMul, Nat.reduceLeDiff] <;> rfl) : aRun P ops K (⟨some d, .box t y, ty, pos, af, none⟩ :: r) s h := st3 rfl hgo (k_box h1 w1 hl) hn
theorem m_alloc [Glb] {t : TypeId} {i : TI} {l : List AV} (hn : aRun P ops K r (upd s d (.ptr d 0)) (upd h d (.box t l))) (hgo : h d = .gone := by simp only [go_sem, reduceIte, Nat.reduceEqDiff, FF]) (ht1 : tinfo P t = some i := by simp only [go_sem] <;> rfl) (hz : i.zero.isEmpty = false := by rfl) (hl : i.zero.map constAV1 = l := by simp only [go_sem, reduceIte, Nat.reduceEqDiff, FF] <;> rfl) : aRun P ops K (⟨some d, .alloc t, ty, pos, af, none⟩ :: r) s h := st3 rfl hgo (k_alloc ht1 hz hl) hn
theorem m_make [Glb] {t : TypeId} {y z : Operand} {u v : AV} {i j : TI} {k1 k2 : IntKind} {n n' : Int} {m : Nat} {c : List CV} (hn : aRun P ops K r (upd s d (.own d m)) (upd h d (.row i.elem j.size m fun _ => c))) (hgo : h d = .gone := by simp only [go_sem, reduceIte, Nat.reduceEqDiff, FF]) (h1 : ev s y = u := by simp only [go_sem, reduceIte, Nat.reduceEqDiff, FF] <;> rfl) (h2 : ev s z = v := by simp only [go_sem, reduceIte, Nat.reduceEqDiff, FF] <;> rfl) (ht1 : tinfo P t = some i := by simp only [go_sem] <;> rfl) (hsl : i.slice = true := by rfl) (hj : tinfo P i.elem = some j := by simp only [go_sem] <;> rfl) (hz : (decide (0 < j.size) && j.zero.length == j.size) = true := by rfl) (w1 : u.wh = true := by rfl) (w2 : v.wh = true := by rfl) (e1 : u.strip = .c (.raw (.int k1 n)) := by rfl) (e2 : v.strip = .c (.raw (.int k2 n')) := by rfl) (hc : (j.zero.map fun v => (constAV1 v).closed1.getD .any) = c := by simp only [go_sem, reduceIte, Nat.reduceEqDiff, FF] <;> rfl) (hn1 : n = n' ∧ n = (m : Nat) ∧ n ≤ 9223372036854775807 ∧ j.bytes * n ≤ 281474976710656 := by (repeat' apply And.intro) <;> first | rfl | omega | (dsimp only; omega)) : aRun P ops K (⟨some d, .makeSlice t y z, ty, pos, af, none⟩ :: r) s h := st3 rfl hgo (k_make h1 h2 ht1 hsl hj hz w1 w2 e1 e2 hc hn1) hn
end
section
variable {P : Program} {nt : Nat} {fo : List Nat} {Q : APost} {s : Slots} {h : AH} {c : Code}
theorem m_for [Glb] {ι : Type} (S : ι → List (Nat × AV)) (H : ι → List (Nat × AObj)) (m : ι → Nat) (J : ι → Prop) (i0 : ι) (h0 : J i0)
    (round : ∀ i, J i → AWp P nt fo c (thenQ (fun s' h' => ∃ j, J j ∧ m j < m i ∧ (∀ p ∈ S j, s' p.1 = p.2) ∧ (∀ p ∈ H j, objLe (h' p.1) p.2)) Q) (ofL (S i)) (ofH (H i)))
    (hs : ∀ p ∈ S i0, s p.1 = p.2 := by simp only [List.forall_mem_cons, List.forall_mem_nil, go_sem, reduceIte, Nat.reduceEqDiff, FF]; all_goals ((repeat' apply And.intro) <;> first | trivial | rfl | exact objLe_refl _ | (intro _ _; exact Subs.refl _))) (hh : ∀ p ∈ H i0, objLe (h p.1) p.2 := by simp only [List.forall_mem_cons, List.forall_mem_nil, go_sem, reduceIte, Nat.reduceEqDiff, FF]; all_goals ((repeat' apply And.intro) <;> first | trivial | rfl | exact objLe_refl _ | (intro _ _; exact Subs.refl _)))
    (hfo : ∀ i, J i → (fo.all fun o => decide (o ∈ (H i).map Prod.fst)) = true := by exact fun _ _ => rfl) (hr : ∀ i, J i → refsIn ((H i).map Prod.fst) ((S i).map Prod.snd) = true := by exact fun _ _ => rfl) (hb : ∀ i, J i → ((H i).all fun p => boxIn ((H i).map Prod.fst) p.2) = true := by exact fun _ _ => rfl) : AWp P nt fo (.loop c) Q s h := awp_for S H m J i0 h0 hs hh hfo hr hb round
theorem m_forH [Glb] {ι : Type} (S : ι → List (Nat × AV)) (H : ι → List (Nat × AObj)) (m : ι → Nat) (J : ι → Prop) (i0 : ι) (h0 : J i0) (hh : ∀ p ∈ H i0, objLe (h p.1) p.2)
    (round : ∀ i, J i → AWp P nt fo c (thenQ (fun s' h' => ∃ j, J j ∧ m j < m i ∧ (∀ p ∈ S j, s' p.1 = p.2) ∧ (∀ p ∈ H j, objLe (h' p.1) p.2)) Q) (ofL (S i)) (ofH (H i)))
    (hs : ∀ p ∈ S i0, s p.1 = p.2 := by simp only [List.forall_mem_cons, List.forall_mem_nil, go_sem, reduceIte, Nat.reduceEqDiff, FF]; all_goals ((repeat' apply And.intro) <;> first | trivial | rfl | exact objLe_refl _ | (intro _ _; exact Subs.refl _)))
    (hfo : ∀ i, J i → (fo.all fun o => decide (o ∈ (H i).map Prod.fst)) = true := by exact fun _ _ => rfl) (hr : ∀ i, J i → refsIn ((H i).map Prod.fst) ((S i).map Prod.snd) = true := by exact fun _ _ => rfl) (hb : ∀ i, J i → ((H i).all fun p => boxIn ((H i).map Prod.fst) p.2) = true := by exact fun _ _ => rfl) : AWp P nt fo (.loop c) Q s h := awp_for S H m J i0 h0 hs hh hfo hr hb round
theorem m_cut [Glb] (l : List (Nat × AV)) (b : List (Nat × AObj)) (hn : AWp P nt fo c Q (ofL l) (ofH b)) (hs : ∀ p ∈ l, s p.1 = p.2 := by simp only [List.forall_mem_cons, List.forall_mem_nil, go_sem, reduceIte, Nat.reduceEqDiff, FF]; all_goals ((repeat' apply And.intro) <;> first | trivial | rfl | exact objLe_refl _ | (intro _ _; exact Subs.refl _))) (hh : ∀ p ∈ b, objLe (h p.1) p.2 := by simp only [List.forall_mem_cons, List.forall_mem_nil, go_sem, reduceIte, Nat.reduceEqDiff, FF]; all_goals ((repeat' apply And.intro) <;> first | trivial | rfl | exact objLe_refl _ | (intro _ _; exact Subs.refl _)))
    (hfo : (fo.all fun o => decide (o ∈ b.map Prod.fst)) = true := by rfl) (h1 : refsIn (b.map Prod.fst) (l.map Prod.snd) = true := by rfl) (h2 : (b.all fun p => boxIn (b.map Prod.fst) p.2) = true := by rfl) : AWp P nt fo c Q s h := awp_cut l b hs hh hfo h1 h2 hn
theorem m_cutH [Glb] (l : List (Nat × AV)) (b : List (Nat × AObj)) (hh : ∀ p ∈ b, objLe (h p.1) p.2) (hn : AWp P nt fo c Q (ofL l) (ofH b)) (hs : ∀ p ∈ l, s p.1 = p.2 := by simp only [List.forall_mem_cons, List.forall_mem_nil, go_sem, reduceIte, Nat.reduceEqDiff, FF]; all_goals ((repeat' apply And.intro) <;> first | trivial | rfl | exact objLe_refl _ | (intro _ _; exact Subs.refl _)))
    (hfo : (fo.all fun o => decide (o ∈ b.map Prod.fst)) = true := by rfl) (h1 : refsIn (b.map Prod.fst) (l.map Prod.snd) = true := by rfl) (h2 : (b.all fun p => boxIn (b.map Prod.fst) p.2) = true := by rfl) : AWp P nt fo c Q s h := awp_cut l b hs hh hfo h1 h2 hn
theorem m_frz [Glb] (o : Nat) {ty : TypeId} {sz n : Nat} {f : Nat → List CV} (l : List (Nat × AV)) (b : List (Nat × AObj)) (hn : AWp P nt fo c Q (ofL l) (ofH b)) (ho : h o = .row ty sz n f := by simp only [go_sem, reduceIte, Nat.reduceEqDiff, FF] <;> rfl) (hs : ∀ p ∈ l, frzS o sz n f s p.1 = p.2 := by simp only [List.forall_mem_cons, List.forall_mem_nil, go_sem, reduceIte, Nat.reduceEqDiff, FF]; all_goals ((repeat' apply And.intro) <;> first | trivial | rfl | exact objLe_refl _ | (intro _ _; exact Subs.refl _))) (hh : ∀ p ∈ b, objLe (frzH o sz n f h p.1) p.2 := by simp only [List.forall_mem_cons, List.forall_mem_nil, go_sem, reduceIte, Nat.reduceEqDiff, FF]; all_goals ((repeat' apply And.intro) <;> first | trivial | rfl | exact objLe_refl _ | (intro _ _; exact Subs.refl _)))
    (hof : (fo.all fun q => q != o) = true := by rfl) (hfo : (fo.all fun o => decide (o ∈ b.map Prod.fst)) = true := by rfl) (h1 : refsIn (b.map Prod.fst) (l.map Prod.snd) = true := by rfl) (h2 : (b.all fun p => boxIn (b.map Prod.fst) p.2) = true := by rfl) : AWp P nt fo c Q s h := awp_frz o l b ho hs hh hof hfo h1 h2 hn
theorem m_next [Glb] {ι : Type} {S : ι → List (Nat × AV)} {H : ι → List (Nat × AObj)} {m : ι → Nat} {J : ι → Prop} {M : Nat} (j : ι) (h1 : J j) (h2 : m j < M) (hs : ∀ p ∈ S j, s p.1 = p.2 := by simp only [List.forall_mem_cons, List.forall_mem_nil, go_sem, reduceIte, Nat.reduceEqDiff, FF]; all_goals ((repeat' apply And.intro) <;> first | trivial | rfl | exact objLe_refl _ | (intro _ _; exact Subs.refl _))) (hh : ∀ p ∈ H j, objLe (h p.1) p.2 := by simp only [List.forall_mem_cons, List.forall_mem_nil, go_sem, reduceIte, Nat.reduceEqDiff, FF]; all_goals ((repeat' apply And.intro) <;> first | trivial | rfl | exact objLe_refl _ | (intro _ _; exact Subs.refl _))) : ∃ j, J j ∧ m j < M ∧ (∀ p ∈ S j, s p.1 = p.2) ∧ (∀ p ∈ H j, objLe (h p.1) p.2) := ⟨j, h1, h2, hs, hh⟩
theorem m_nextH [Glb] {ι : Type} {S : ι → List (Nat × AV)} {H : ι → List (Nat × AObj)} {m : ι → Nat} {J : ι → Prop} {M : Nat} (j : ι) (h1 : J j) (h2 : m j < M) (hh : ∀ p ∈ H j, objLe (h p.1) p.2) (hs : ∀ p ∈ S j, s p.1 = p.2 := by simp only [List.forall_mem_cons, List.forall_mem_nil, go_sem, reduceIte, Nat.reduceEqDiff, FF]; all_goals ((repeat' apply And.intro) <;> first | trivial | rfl | exact objLe_refl _ | (intro _ _; exact Subs.refl _))) : ∃ j, J j ∧ m j < M ∧ (∀ p ∈ S j, s p.1 = p.2) ∧ (∀ p ∈ H j, objLe (h p.1) p.2) := ⟨j, h1, h2, hs, hh⟩
theorem m_cond [Glb] {c : Operand} {x y : Code} {b : Bool} (ht : b = true → AWp P nt fo x Q s h) (hf : b = false → AWp P nt fo y Q s h) (hc : ev s c = .bool b := by simp only [go_sem, reduceIte, Nat.reduceEqDiff, FF] <;> rfl) : AWp P nt fo (.cond c x y) Q s h := awp_cond hc ht hf
end
end Go.Am

/- The abstract machine, part 20: a contract that is handed nothing; a call of a function value that captures nothing. Generic over the program; no condition. -/
namespace Go.Am
open Go.RowKit

theorem AFun.of_pure [Glb] {P : Program} {f : FuncId} {xs : List CV} {r : CV} (hp : APure P f xs r) : AFun P f (xs.map .c) (fun _ => .gone) (fun out h => out = .ret (.c r) ∧ h = fun _ => .gone) := by
  refine ⟨hp.1, fun Z w gs vs hz hgl hok hlen hx => ?_⟩
  have hg : ∀ o, gs o = none := fun o => hok.objs o
  have hzf : ∀ b, Zf Z gs b → Z b := by
    rintro b (hb | ⟨o, K, e⟩)
    · exact hb
    · rw [hg o] at e; cases e
  have hl : vs.length = xs.length := by simpa using hlen
  refine (hp.2 Z w vs hz hgl hl fun i hi => ?_).mono fun e w' ⟨v, he, hv, hb⟩ => ?_
  · have h1 := hx i (by simpa using hi)
    have e : (xs.map AV.c).getD i default = .c (xs.getD i .any) := by rw [getD_lt (by simpa using hi), List.getElem_map, getD_lt hi]
    rw [e] at h1
    exact h1.c_inv.less fun b hb => .inl hb
  · subst he
    refine ⟨.ret (.c r), fun _ => .gone, gs, ⟨rfl, rfl⟩, .c _ _ (hv.less hzf), ⟨fun o b K e => (by rw [hg o] at e; cases e), fun o o' b K K' e => (by rw [hg o] at e; cases e), fun o => hg o⟩, ⟨hb.os, hb.tape, hb.output, hb.size, fun k hk _ => hb.block k hk⟩, Refs.refl _ _, fun o b K e => (by rw [hg o] at e; cases e)⟩

/-- A function value that captures nothing, called by its contract. -/
theorem awpl_pureV [Glb] {P : Program} {nt : Nat} {fo : List Nat} {ops : Array Oper} {l : List Oper} {Q : APost} {s : Slots} {h : AH} {d : Option Tmp} {t : Tmp} {f : FuncId} {args : Array Operand} {ats : Array TypeId} {ty : TypeId} {pos : String} {af : Array Edge} {xs : List CV} {r : CV}
    (hp : APure P f xs r) (hn : AWpL P nt fo ops l Q (updO s d (.c r)) h) (hs : s t = .c (.raw (.func (.func f) #[] #[]))) (hx : args.toList.map (ev s) = xs.map .c) (hd : dOk nt d = true) :
    AWpL P nt fo ops (⟨d, .call ⟨.value (.tmp t), args, ats⟩, ty, pos, af, none⟩ :: l) Q s h := by
  have hf := (AFun.of_pure hp).mono (Q' := CallQ P nt fo ops l Q d [] id s h) (fun o h1 ⟨e1, e2⟩ => by
    subst e1 e2
    exact ⟨fun k hk => by simp [AV.refsw, AV.ref1w] at hk, ⟨fun _ _ => rfl, fun k hk => by simp at hk⟩, hn⟩)
  have ren_c : ∀ x : CV, (AV.c x).ren id = .c x := fun _ => rfl
  refine enter_core (o := ⟨d, .call ⟨.value (.tmp t), args, ats⟩, ty, pos, af, none⟩) (ks := []) (ρ := id) rfl (fun t e => by simp only at e; subst e; simpa [dOk] using hd) hf (fun a ha => by simp at ha) ⟨fun _ _ => rfl, fun k hk => by simp at hk⟩ (fun k hk => by simp at hk) (fun x hx' k hk => by
    obtain ⟨y, _, rfl⟩ := List.mem_map.1 hx'
    simp [AV.refsw, AV.ref1w] at hk) fun E a w gs R hen => ?_
  obtain ⟨fn, f1, f2, f3⟩ := hen
  have f2' : ¬ fn.name = "runtime.NumGoroutine" := by simpa using f2
  have f3' : ¬ fn.body = none := fun e => by rw [e] at f3; simp at f3
  have hv := R.slots t
  rw [hs] at hv
  have het : a.eval (.tmp t) = .func (.func f) #[] #[] := hv.raw_inv
  have hl : args.toList.length = xs.length := by simpa using congrArg List.length hx
  refine ⟨args.toList.map a.eval, ?_, by simpa using hl, fun i hi' => ?_⟩
  · have hvs : (args.toList.map a.eval).toArray = args.map a.eval := Array.ext' (by simp)
    rw [hvs]
    simp [execOp, resolve, Deferred.ofValue, het, invoke, callFunc, f1, f2', f3']
  · have hix : i < xs.length := by simpa using hi'
    have hia : i < args.toList.length := by omega
    have e1 : (args.toList.map a.eval).getD i undef = a.eval args.toList[i] := by rw [getD_lt (by simpa using hia), List.getElem_map]
    have e2 : ((xs.map AV.c).getD i default).ren id = ev s args.toList[i] := by
      have h3 : (args.toList.map (ev s))[i]'(by simpa using hia) = (xs.map AV.c)[i]'hi' := by simp only [hx]
      rw [List.getElem_map] at h3
      rw [getD_lt hi', ← h3, h3, List.getElem_map]
      rfl
    rw [e1, e2]
    exact ev_ok R _

theorem ev_func (s : Slots) (f : FuncId) : ev s (.func f) = .c (.raw (.func (.func f) #[] #[])) := rfl
theorem ev_global (s : Slots) (g : Nat) : ev s (.global g) = .c (.raw (.pointer (some ⟨g, 0, none⟩))) := rfl
attribute [go_sem] ev_func ev_global
/-! Operators on numbers of any kind, and on strings. -/
theorem bin_klss (k : IntKind) (a b : Int) : bin .lss (.int k a) (.int k b) = some (.bool (decide (a < b))) := by simp [bin]
theorem bin_kleq (k : IntKind) (a b : Int) : bin .leq (.int k a) (.int k b) = some (.bool (decide (a ≤ b))) := by simp [bin]
theorem bin_kgtr (k : IntKind) (a b : Int) : bin .gtr (.int k a) (.int k b) = some (.bool (decide (b < a))) := by simp [bin]
theorem bin_kgeq (k : IntKind) (a b : Int) : bin .geq (.int k a) (.int k b) = some (.bool (decide (b ≤ a))) := by simp [bin]
theorem bin_keql (k : IntKind) (a b : Int) : bin .eql (.int k a) (.int k b) = some (.bool (a == b)) := by simp [bin]
theorem bin_kneq (k : IntKind) (a b : Int) : bin .neq (.int k a) (.int k b) = some (.bool (a != b)) := by simp [bin]
theorem bin_kadd (k : IntKind) (a b : Int) : bin .add (.int k a) (.int k b) = some (.int k (k.wrap (a + b))) := by simp [bin]
theorem bin_ksub (k : IntKind) (a b : Int) : bin .sub (.int k a) (.int k b) = some (.int k (k.wrap (a - b))) := by simp [bin]
theorem bin_krem (k : IntKind) (a b : Int) : bin .rem (.int k a) (.int k b) = if b = 0 then none else some (.int k (a.tmod b)) := by simp [bin]
theorem bin_kquo (k : IntKind) (a b : Int) : bin .quo (.int k a) (.int k b) = if b = 0 then none else some (.int k (k.wrap (a.tdiv b))) := by simp [bin]
theorem bin_sleq (a b : ByteArray) : bin .leq (.string a) (.string b) = some (.bool (Op.bytesLess a.toList b.toList || a.toList == b.toList)) := rfl
theorem bin_sgtr (a b : ByteArray) : bin .gtr (.string a) (.string b) = some (.bool !(Op.bytesLess a.toList b.toList || a.toList == b.toList)) := rfl
theorem bin_sgeq (a b : ByteArray) : bin .geq (.string a) (.string b) = some (.bool !(Op.bytesLess a.toList b.toList)) := rfl
theorem bin_sadd (a b : ByteArray) : bin .add (.string a) (.string b) = if a.size + b.size ≤ 9223372036854775807 then some (.string (a ++ b)) else none := rfl
attribute [go_sem] bin_klss bin_kleq bin_kgtr bin_kgeq bin_keql bin_kneq bin_kadd bin_ksub bin_krem bin_kquo bin_sleq bin_sgtr bin_sgeq bin_sadd AV.isPtr notIface
end Go.Am

/- The tables of this seat's program, as the abstract machine asks for them. No condition. -/
namespace Go.Am
open Go.Proofs

theorem Tryz.mixed : Tryz.prog.follows .mixedOrders = true := by kernel_rfl
theorem Tryz.ti3 : tinfo Tryz.prog 3 = some { agg := false, size := 1, bytes := 8, elem := 0, slice := false, fields := [], zero := [.int .i64 0] } := by kernel_rfl
theorem Tryz.ti4 : tinfo Tryz.prog 4 = some { agg := false, size := 1, bytes := 1, elem := 0, slice := false, fields := [], zero := [.bool false] } := by kernel_rfl
theorem Tryz.ti5 : tinfo Tryz.prog 5 = some { agg := false, size := 1, bytes := 1, elem := 0, slice := false, fields := [], zero := [.int .u8 0] } := by kernel_rfl
theorem Tryz.ti9 : tinfo Tryz.prog 9 = some { agg := false, size := 1, bytes := 16, elem := 0, slice := false, fields := [], zero := [.string ⟨#[]⟩] } := by kernel_rfl
theorem Tryz.ti21 : tinfo Tryz.prog 21 = some { agg := false, size := 1, bytes := 4, elem := 0, slice := false, fields := [], zero := [.int .i32 0] } := by kernel_rfl
theorem Tryz.ti23 : tinfo Tryz.prog 23 = some { agg := false, size := 1, bytes := 24, elem := 25, slice := true, fields := [], zero := [.slice none 0 0] } := by kernel_rfl
theorem Tryz.ti25 : tinfo Tryz.prog 25 = some { agg := true, size := 5, bytes := 64, elem := 0, slice := false, fields := [(0, 1), (1, 1), (2, 1), (3, 1), (4, 1)], zero := [.int .i64 0, .string ⟨#[]⟩, .int .i64 0, .int .i64 0, .slice none 0 0] } := by kernel_rfl
theorem Tryz.ti26 : tinfo Tryz.prog 26 = some { agg := false, size := 1, bytes := 8, elem := 0, slice := false, fields := [], zero := [.int .i64 0] } := by kernel_rfl
theorem Tryz.ti44 : tinfo Tryz.prog 44 = some { agg := false, size := 1, bytes := 24, elem := 5, slice := true, fields := [], zero := [.slice none 0 0] } := by kernel_rfl
theorem Tryz.ti46 : tinfo Tryz.prog 46 = some { agg := true, size := 2, bytes := 32, elem := 0, slice := false, fields := [(0, 1), (1, 1)], zero := [.pointer none, .slice none 0 0] } := by kernel_rfl
theorem Tryz.ti47 : tinfo Tryz.prog 47 = some { agg := true, size := 5, bytes := 64, elem := 0, slice := false, fields := [(0, 1), (1, 1), (2, 1), (3, 1), (4, 1)], zero := [.int .i64 0, .string ⟨#[]⟩, .int .i64 0, .int .i64 0, .slice none 0 0] } := by kernel_rfl
theorem Tryz.ti34 : tinfo Tryz.prog 34 = some { agg := true, size := 1, bytes := 8, elem := 0, slice := false, fields := [(0, 1)], zero := [.int .i64 0] } := by kernel_rfl
theorem Tryz.ti38 : tinfo Tryz.prog 38 = some { agg := true, size := 2, bytes := 24, elem := 0, slice := false, fields := [(0, 1), (1, 1)], zero := [.string ⟨#[]⟩, .int .i64 0] } := by kernel_rfl
theorem Tryz.ti64 : tinfo Tryz.prog 64 = some { agg := false, size := 1, bytes := 24, elem := 3, slice := true, fields := [], zero := [.slice none 0 0] } := by kernel_rfl
theorem Tryz.ti58 : tinfo Tryz.prog 58 = some { agg := false, size := 1, bytes := 16, elem := 0, slice := false, fields := [], zero := [.nilIface] } := by kernel_rfl
theorem Tryz.ti88 : tinfo Tryz.prog 88 = some { agg := false, size := 1, bytes := 8, elem := 0, slice := false, fields := [], zero := [.int .u64 0] } := by kernel_rfl

attribute [go_sem] Tryz.ti3 Tryz.ti4 Tryz.ti5 Tryz.ti9 Tryz.ti21 Tryz.ti23 Tryz.ti25 Tryz.ti26 Tryz.ti44 Tryz.ti46 Tryz.ti47 Tryz.ti34 Tryz.ti38 Tryz.ti64 Tryz.ti58 Tryz.ti88
attribute [go_sem] Tryz.underlying3 Tryz.underlying4 Tryz.underlying5 Tryz.underlying9 Tryz.underlying21 Tryz.underlying23 Tryz.underlying26 Tryz.underlying44 Tryz.underlying34 Tryz.underlying64 Tryz.underlying58 Tryz.underlying88
end Go.Am

/- Derivations as trees, and how they are laid out as Go values. Plain; no condition. -/
namespace Go.Am

/-- A derivation. -/
inductive Dv where
  | mk (kind : Int) (name : ByteArray) (frm to : Int) (kids : List Dv)

instance : Inhabited Dv := ⟨.mk 0 ⟨#[]⟩ 0 0 []⟩

def Dv.kind : Dv → Int | .mk k _ _ _ _ => k
def Dv.name : Dv → ByteArray | .mk _ n _ _ _ => n
def Dv.frm : Dv → Int | .mk _ _ f _ _ => f
def Dv.to : Dv → Int | .mk _ _ _ t _ => t
def Dv.kids : Dv → List Dv | .mk _ _ _ _ ks => ks

mutual
def encD : Dv → List CV
  | .mk k n f t ks => [.int k, .str n, .int f, .int t, .im 5 ks.length fun i => (encDs ks).getD i []]
def encDs : List Dv → List (List CV)
  | [] => []
  | d :: r => encD d :: encDs r
end

mutual
def Dv.size : Dv → Nat
  | .mk _ _ _ _ ks => 1 + sizes ks
def sizes : List Dv → Nat
  | [] => 0
  | d :: r => d.size + sizes r
end

theorem sizes_get : ∀ (ks : List Dv) (i : Nat) (h : i < ks.length), ks[i].size ≤ sizes ks
  | d :: r, 0, _ => by simp [sizes]
  | d :: r, i + 1, h => by
    have := sizes_get r i (by simpa using h)
    simp only [List.getElem_cons_succ, sizes]
    omega

theorem encDs_get : ∀ (ks : List Dv) (i : Nat) (h : i < ks.length), (encDs ks).getD i [] = encD ks[i]
  | d :: r, 0, _ => rfl
  | d :: r, i + 1, h => by
    have := encDs_get r i (by simpa using h)
    simpa [encDs] using this

theorem encD_len (d : Dv) : (encD d).length = 5 := by cases d; rfl
theorem encD_take (d : Dv) : (encD d).take 5 = encD d := by cases d; rfl

theorem encDs_length : ∀ ks : List Dv, (encDs ks).length = ks.length
  | [] => rfl
  | d :: r => by simp [encDs, encDs_length r]

mutual
/-- How many nodes, up to 'most'. -/
def nodesD : Dv → Int → Int
  | .mk _ _ _ _ ks, most => nodesL ks most 1
def nodesL : List Dv → Int → Int → Int
  | [], _, n => n
  | d :: r, most, n => if n < most then nodesL r most (n + nodesD d (most - n)) else n
end

mutual
theorem nodesD_bd : ∀ (d : Dv) (most : Int), 1 ≤ most → 1 ≤ nodesD d most ∧ nodesD d most ≤ most
  | .mk _ _ _ _ ks, most, h => by
    have := nodesL_bd ks most 1 h (Int.le_refl _) h
    simpa [nodesD] using this
theorem nodesL_bd : ∀ (ks : List Dv) (most n : Int), 1 ≤ most → 1 ≤ n → n ≤ most → n ≤ nodesL ks most n ∧ nodesL ks most n ≤ most
  | [], most, n, _, _, h => by simp [nodesL]; exact h
  | d :: r, most, n, h1, h2, h3 => by
    simp only [nodesL]
    split
    · have h4 := nodesD_bd d (most - n) (by omega)
      have h5 := nodesL_bd r most (n + nodesD d (most - n)) h1 (by omega) (by omega)
      omega
    · omega
end


def encKids (ks : List Dv) : CV := .im 5 ks.length fun i => (encDs ks).getD i []
/-- The five cells of a derivation. -/
def cellsD (d : Dv) : List CV := [.int d.kind, .str d.name, .int d.frm, .int d.to, encKids d.kids]
theorem encD_eq (d : Dv) : encD d = cellsD d := by cases d; rfl
theorem kids_get (ks : List Dv) (i : Nat) (h : i < ks.length) : (encDs ks).getD i [] = cellsD ks[i] := by rw [encDs_get ks i h, encD_eq]
theorem encDs_getD {ks : List Dv} {i : Nat} (h : i < ks.length) : (encDs ks).getD i [] = cellsD (ks.getD i default) := by rw [kids_get ks i h, getD_lt h]
theorem encDs_append : ∀ (l r : List Dv), encDs (l ++ r) = encDs l ++ encDs r
  | [], r => rfl
  | d :: l, r => by rw [List.cons_append, encDs, encDs, encDs_append l r]; rfl
theorem snocD_row (l : List Dv) (x : Dv) {ty : TypeId} {sz : Nat} :
    objLe (.row ty sz (l.length + 1) (fun q => if q < l.length then (encDs l).getD q [] else [cellsD x].getD (q - l.length) [])) (.row ty sz (l ++ [x]).length (fun q => (encDs (l ++ [x])).getD q [])) := by
  refine objLe_rown (by simp) fun i hi => ?_
  rw [encDs_append]
  by_cases h : i < l.length
  · simp only [h, if_true, List.getD_eq_getElem?_getD]
    rw [List.getElem?_append_left (by rw [encDs_length]; exact h)]
  · have : i = l.length := by omega
    subst this
    rw [if_neg h, Nat.sub_self, List.getD_cons_zero, List.getD_eq_getElem?_getD, List.getElem?_append_right (by rw [encDs_length]; exact Nat.le_refl _), encDs_length, Nat.sub_self]
    exact (encD_eq x).symm
theorem kids_sizeD (d : Dv) (i : Nat) (h : i < d.kids.length) : (d.kids.getD i default).size < d.size := by
  obtain ⟨k, n, f, t, ks⟩ := d
  have := sizes_get ks i h
  rw [getD_lt h]
  simp only [Dv.size]
  show ks[i].size < _
  omega
theorem kids_size (d : Dv) (i : Nat) (h : i < d.kids.length) : d.kids[i].size < d.size := by
  obtain ⟨k, n, f, t, ks⟩ := d
  have := sizes_get ks i h
  simp only [Dv.size]
  show ks[i].size < _
  omega

mutual
/-- No node has more than 1000 kids. -/
def okD : Dv → Prop
  | .mk _ _ _ _ ks => ks.length ≤ 1000 ∧ okDs ks
def okDs : List Dv → Prop
  | [] => True
  | d :: r => okD d ∧ okDs r
end
theorem okDs_get : ∀ {ks : List Dv} {i : Nat}, okDs ks → (h : i < ks.length) → okD (ks.getD i default)
  | d :: r, 0, h, _ => h.1
  | d :: r, i + 1, h, hi => by
    have := okDs_get (i := i) h.2 (by simpa using hi)
    simpa using this
theorem okDs_of : ∀ {ks : List Dv}, (∀ d ∈ ks, okD d) → okDs ks
  | [], _ => trivial
  | d :: r, h => ⟨h d (List.mem_cons_self ..), okDs_of fun x hx => h x (List.mem_cons_of_mem _ hx)⟩
theorem okD_len {d : Dv} (h : okD d) : d.kids.length ≤ 1000 := by cases d; exact h.1
theorem okD_kid {d : Dv} (h : okD d) {i : Nat} (hi : i < d.kids.length) : okD (d.kids.getD i default) := by cases d; exact okDs_get h.2 hi

mutual
theorem okD_nodes : ∀ (d : Dv) (most : Int), most ≤ 1000 → nodesD d most < most → okD d
  | .mk _ _ _ _ ks, most, h1, h2 => by
    rw [nodesD] at h2
    have := okDs_nodes ks most 1 h1 (by decide) h2
    exact ⟨by omega, this.2⟩
theorem okDs_nodes : ∀ (ks : List Dv) (most n : Int), most ≤ 1000 → 1 ≤ n → nodesL ks most n < most → n + (ks.length : Int) ≤ most ∧ okDs ks
  | [], most, n, h1, h0, h2 => by
    simp only [nodesL] at h2
    exact ⟨by simp; omega, trivial⟩
  | d :: r, most, n, h1, h0, h2 => by
    simp only [nodesL] at h2
    split at h2
    · rename_i h3
      have b := nodesD_bd d (most - n) (by omega)
      by_cases e : n + nodesD d (most - n) < most
      · have i1 := okDs_nodes r most (n + nodesD d (most - n)) h1 (by omega) h2
        have i2 := okD_nodes d (most - n) (by omega) (by omega)
        refine ⟨?_, i2, i1.2⟩
        rw [List.length_cons]
        omega
      · have := nodesL_bd r most (n + nodesD d (most - n)) (by omega) (by omega) (by omega)
        omega
    · omega
end

def intsF (a b : Int) : Int := if a < b then -1 else if b < a then 1 else 0

mutual
/-- The order of derivations. -/
def cmpD : Dv → Dv → Int
  | .mk k1 n1 f1 t1 ks1, .mk k2 n2 f2 t2 ks2 =>
    if f1 ≠ f2 then intsF f1 f2 else if t1 ≠ t2 then intsF t1 t2 else if k1 ≠ k2 then intsF k1 k2
    else if !(n1.toList == n2.toList) then (if Op.bytesLess n1.toList n2.toList then -1 else 1)
    else cmpL ks1 ks2
def cmpL : List Dv → List Dv → Int
  | [], [] => 0
  | [], _ :: _ => -1
  | _ :: _, [] => 1
  | a :: r, b :: q => if cmpD a b ≠ 0 then cmpD a b else cmpL r q
end

end Go.Am

/- Contracts: numbers compared, the order of derivations as the reference has it, the sizes. No condition. -/
namespace Go.Am
open Go.Proofs
attribute [local go_sem ↓] ofL_cons ofH_cons upd_apply
attribute [local go_sem] cellsD
set_option maxHeartbeats 1000000
set_option linter.unusedSimpArgs false

theorem cmpD_eq (a b : Dv) : cmpD a b = if a.frm ≠ b.frm then intsF a.frm b.frm else if a.to ≠ b.to then intsF a.to b.to else if a.kind ≠ b.kind then intsF a.kind b.kind
    else if !(a.name.toList == b.name.toList) then (if Op.bytesLess a.name.toList b.name.toList then -1 else 1) else cmpL a.kids b.kids := by
  obtain ⟨k, n, f, t, ks⟩ := a
  obtain ⟨k', n', f', t', ks'⟩ := b
  rw [cmpD]
  rfl
theorem cmpL_step {ks ls : List Dv} {i : Nat} (h1 : i < ks.length) (h2 : i < ls.length) : cmpL (ks.drop i) (ls.drop i) = if cmpD (ks.getD i default) (ls.getD i default) ≠ 0 then cmpD (ks.getD i default) (ls.getD i default) else cmpL (ks.drop (i + 1)) (ls.drop (i + 1)) := by
  rw [List.drop_eq_getElem_cons h1, List.drop_eq_getElem_cons h2, cmpL, getD_lt h1, getD_lt h2]
theorem cmpL_end {ks ls : List Dv} {i : Nat} (h1 : i ≤ ks.length) (h2 : i ≤ ls.length) (h : ¬ (i < ks.length ∧ i < ls.length)) : cmpL (ks.drop i) (ls.drop i) = intsF ks.length ls.length := by
  by_cases e1 : i < ks.length
  · have e2 : i = ls.length := by omega
    subst e2
    rw [List.drop_eq_getElem_cons e1, List.drop_length, cmpL]
    unfold intsF
    rw [if_neg (by omega), if_pos (by omega)]
  · have e1 : i = ks.length := by omega
    subst e1
    rw [List.drop_length]
    by_cases e2 : ks.length < ls.length
    · rw [List.drop_eq_getElem_cons e2, cmpL]
      unfold intsF
      rw [if_pos (by omega)]
    · have e2 : ls.length = ks.length := by omega
      rw [← e2, List.drop_length, cmpL]
      unfold intsF
      rw [if_neg (by omega), if_neg (by omega)]

variable [Glb]

theorem ints_ok (a b : Int) : APure Tryz.prog 15 [.int a, .int b] (.int (intsF a b)) := by
  have FF : True := trivial
  refine apure_of Tryz.func15 rfl (by kernel_rfl) (by simp [Tryz.ntmps15]) ?_
  rw [Tryz.ntmps15]
  refine awp_rseq (by decide) fun KK hKK => ?_
  refine m_assign ?_
  refine hKK _ _ ?_
  clear hKK KK
  refine awp_seq ?_
  refine awp_rseq (by decide) fun KK hKK => ?_
  refine m_move ?_
  refine m_move ?_
  refine m_bin ?_
  refine hKK _ _ ?_
  clear hKK KK
  refine m_cond (fun hc => ?_) (fun hc => ?_)
  · refine awp_rseq (by decide) fun KK hKK => ?_
    refine m_assign ?_
    refine hKK _ _ ?_
    clear hKK KK
    refine awp_ret ⟨[_], ⟨⟨(by simp only [go_sem, reduceIte, Nat.reduceEqDiff, FF]), (by simp only [go_sem, reduceIte, Nat.reduceEqDiff, FF] <;> rfl)⟩, trivial⟩, ?_⟩
    simp only [go_sem, reduceIte, Nat.reduceEqDiff, FF, tupled]
    refine CV.Sub.of_eq ?_
    have : a < b := by simpa using hc
    simp [intsF, this]
  · refine awp_skip ?_
    first | rw [thenQ_normal] | rw [blockQ_normal, thenQ_normal]
    refine awp_seq ?_
    have h1 : ¬ a < b := by simpa using hc
    refine awp_rseq (by decide) fun KK hKK => ?_
    refine m_move ?_
    refine m_move ?_
    refine m_bin ?_
    refine hKK _ _ ?_
    clear hKK KK
    refine m_cond (fun hc => ?_) (fun hc => ?_)
    · refine awp_rseq (by decide) fun KK hKK => ?_
      refine m_assign ?_
      refine hKK _ _ ?_
      clear hKK KK
      refine awp_ret ⟨[_], ⟨⟨(by simp only [go_sem, reduceIte, Nat.reduceEqDiff, FF]), (by simp only [go_sem, reduceIte, Nat.reduceEqDiff, FF] <;> rfl)⟩, trivial⟩, ?_⟩
      simp only [go_sem, reduceIte, Nat.reduceEqDiff, FF, tupled]
      refine CV.Sub.of_eq ?_
      have h2 : b < a := by simpa using hc
      simp [intsF, h1, h2]
    · refine awp_skip ?_
      first | rw [thenQ_normal] | rw [blockQ_normal, thenQ_normal]
      have h2 : ¬ b < a := by simpa using hc
      refine awp_rseq (by decide) fun KK hKK => ?_
      refine m_assign ?_
      refine hKK _ _ ?_
      clear hKK KK
      refine awp_ret ⟨[_], ⟨⟨(by simp only [go_sem, reduceIte, Nat.reduceEqDiff, FF]), (by simp only [go_sem, reduceIte, Nat.reduceEqDiff, FF] <;> rfl)⟩, trivial⟩, ?_⟩
      simp only [go_sem, reduceIte, Nat.reduceEqDiff, FF, tupled]
      refine CV.Sub.of_eq ?_
      simp [intsF, h1, h2]

theorem compare_ok : ∀ (N : Nat) (a b : Dv), a.size ≤ N → okD a → APure Tryz.prog 7 [.agg (cellsD a), .agg (cellsD b)] (.int (cmpD a b)) := by
  intro N
  induction N with
  | zero => intro d; cases d; simp [Dv.size]
  | succ N ih =>
  intro a b hN hok
  have hlen := okD_len hok
  rw [cmpD_eq]
  have FF : True := trivial
  refine apure_of Tryz.func7 rfl (by kernel_rfl) (by simp [Tryz.ntmps7]) ?_
  rw [Tryz.ntmps7]
  refine awp_rseq (by decide) fun KK hKK => ?_
  refine m_box ?_
  refine m_box ?_
  refine m_assign ?_
  refine hKK _ _ ?_
  clear hKK KK
  refine awp_seq ?_
  refine awp_rseq (by decide) fun KK hKK => ?_
  refine m_field ?_
  refine m_load ?_
  refine m_field ?_
  refine m_load ?_
  refine m_bin ?_
  refine hKK _ _ ?_
  clear hKK KK
  refine m_cond (fun hc => ?_) (fun hc => ?_)
  · refine awp_rseq (by decide) fun KK hKK => ?_
    refine m_field ?_
    refine m_load ?_
    refine m_field ?_
    refine m_load ?_
    refine m_call (fun hG => ints_ok _ _) ?_
    refine m_assign ?_
    refine hKK _ _ ?_
    clear hKK KK
    refine awp_ret ⟨[_], ⟨⟨(by simp only [go_sem, reduceIte, Nat.reduceEqDiff, FF]), (by simp only [go_sem, reduceIte, Nat.reduceEqDiff, FF] <;> rfl)⟩, trivial⟩, ?_⟩
    simp only [go_sem, reduceIte, Nat.reduceEqDiff, FF, tupled]
    have h1 : a.frm ≠ b.frm := by simpa using hc
    exact CV.Sub.of_eq (by rw [if_pos h1])
  refine awp_skip ?_
  first | rw [thenQ_normal] | rw [blockQ_normal, thenQ_normal]
  have h1 : ¬ a.frm ≠ b.frm := by simpa using hc
  rw [if_neg h1]
  refine awp_seq ?_
  refine awp_rseq (by decide) fun KK hKK => ?_
  refine m_field ?_
  refine m_load ?_
  refine m_field ?_
  refine m_load ?_
  refine m_bin ?_
  refine hKK _ _ ?_
  clear hKK KK
  clear hc
  refine m_cond (fun hc => ?_) (fun hc => ?_)
  · refine awp_rseq (by decide) fun KK hKK => ?_
    refine m_field ?_
    refine m_load ?_
    refine m_field ?_
    refine m_load ?_
    refine m_call (fun hG => ints_ok _ _) ?_
    refine m_assign ?_
    refine hKK _ _ ?_
    clear hKK KK
    refine awp_ret ⟨[_], ⟨⟨(by simp only [go_sem, reduceIte, Nat.reduceEqDiff, FF]), (by simp only [go_sem, reduceIte, Nat.reduceEqDiff, FF] <;> rfl)⟩, trivial⟩, ?_⟩
    simp only [go_sem, reduceIte, Nat.reduceEqDiff, FF, tupled]
    have h1 : a.to ≠ b.to := by simpa using hc
    exact CV.Sub.of_eq (by rw [if_pos h1])
  refine awp_skip ?_
  first | rw [thenQ_normal] | rw [blockQ_normal, thenQ_normal]
  have h2 : ¬ a.to ≠ b.to := by simpa using hc
  rw [if_neg h2]
  refine awp_seq ?_
  refine awp_rseq (by decide) fun KK hKK => ?_
  refine m_field ?_
  refine m_load ?_
  refine m_field ?_
  refine m_load ?_
  refine m_bin ?_
  refine hKK _ _ ?_
  clear hKK KK
  clear hc
  refine m_cond (fun hc => ?_) (fun hc => ?_)
  · refine awp_rseq (by decide) fun KK hKK => ?_
    refine m_field ?_
    refine m_load ?_
    refine m_field ?_
    refine m_load ?_
    refine m_call (fun hG => ints_ok _ _) ?_
    refine m_assign ?_
    refine hKK _ _ ?_
    clear hKK KK
    refine awp_ret ⟨[_], ⟨⟨(by simp only [go_sem, reduceIte, Nat.reduceEqDiff, FF]), (by simp only [go_sem, reduceIte, Nat.reduceEqDiff, FF] <;> rfl)⟩, trivial⟩, ?_⟩
    simp only [go_sem, reduceIte, Nat.reduceEqDiff, FF, tupled]
    have h1 : a.kind ≠ b.kind := by simpa using hc
    exact CV.Sub.of_eq (by rw [if_pos h1])
  refine awp_skip ?_
  first | rw [thenQ_normal] | rw [blockQ_normal, thenQ_normal]
  have h3 : ¬ a.kind ≠ b.kind := by simpa using hc
  rw [if_neg h3]
  refine awp_seq ?_
  refine awp_rseq (by decide) fun KK hKK => ?_
  refine m_field ?_
  refine m_load ?_
  refine m_field ?_
  refine m_load ?_
  refine m_bin ?_
  refine hKK _ _ ?_
  clear hKK KK
  clear hc
  refine m_cond (fun hc => ?_) (fun hc => ?_)
  · rw [if_pos hc]
    refine awp_seq ?_
    refine awp_rseq (by decide) fun KK hKK => ?_
    refine m_field ?_
    refine m_load ?_
    refine m_field ?_
    refine m_load ?_
    refine m_bin ?_
    refine hKK _ _ ?_
    clear hKK KK
    clear hc
    refine m_cond (fun hc => ?_) (fun hc => ?_)
    · refine awp_rseq (by decide) fun KK hKK => ?_
      refine m_assign ?_
      refine hKK _ _ ?_
      clear hKK KK
      refine awp_ret ⟨[_], ⟨⟨(by simp only [go_sem, reduceIte, Nat.reduceEqDiff, FF]), (by simp only [go_sem, reduceIte, Nat.reduceEqDiff, FF] <;> rfl)⟩, trivial⟩, ?_⟩
      simp only [go_sem, reduceIte, Nat.reduceEqDiff, FF, tupled]
      exact CV.Sub.of_eq (by rw [if_pos hc])
    refine awp_skip ?_
    first | rw [thenQ_normal] | rw [blockQ_normal, thenQ_normal]
    refine awp_rseq (by decide) fun KK hKK => ?_
    refine m_assign ?_
    refine hKK _ _ ?_
    clear hKK KK
    refine awp_ret ⟨[_], ⟨⟨(by simp only [go_sem, reduceIte, Nat.reduceEqDiff, FF]), (by simp only [go_sem, reduceIte, Nat.reduceEqDiff, FF] <;> rfl)⟩, trivial⟩, ?_⟩
    simp only [go_sem, reduceIte, Nat.reduceEqDiff, FF, tupled]
    exact CV.Sub.of_eq (by rw [if_neg (by simp [hc])])
  refine awp_skip ?_
  first | rw [thenQ_normal] | rw [blockQ_normal, thenQ_normal]
  rw [if_neg (by simp [hc])]
  refine awp_seq ?_
  clear hc
  refine awp_rseq (by decide) fun KK hKK => ?_
  refine m_assign ?_
  refine hKK _ _ ?_
  clear hKK KK
  refine awp_block ?_
  refine m_for (ι := Nat) (fun i => [(2, .ptr 2 0), (3, .ptr 3 0), (5, .int i)]) (fun i => [(2, .box 25 ((cellsD a).map .c)), (3, .box 25 ((cellsD b).map .c))]) (fun i => a.kids.length - i) (fun i => i ≤ a.kids.length ∧ i ≤ b.kids.length ∧ cmpL (a.kids.drop i) (b.kids.drop i) = cmpL a.kids b.kids) (0) ?_ ?_
  · exact ⟨Nat.zero_le _, Nat.zero_le _, rfl⟩
  · rintro i ⟨hi, hj, hres⟩
    refine awp_seq ?_
    refine awp_rseq (by decide) fun KK hKK => ?_
    refine m_move ?_
    refine m_field ?_
    refine m_load ?_
    refine m_len ?_
    refine m_bin ?_
    refine m_move ?_
    refine g_move ?_
    refine g_field ?_
    refine g_load ?_
    refine g_len ?_
    refine g_bin ?_
    refine m_pick ?_
    refine hKK _ _ ?_
    clear hKK KK
    refine m_cond (fun hc => ?_) (fun hc => ?_)
    · simp only [Bool.and_eq_true, decide_eq_true_eq] at hc
      obtain ⟨hi1, hj1⟩ := hc
      have hi' : i < a.kids.length := by omega
      have hj' : i < b.kids.length := by omega
      have w3 : IntKind.i64.wrap ((i : Int) + 1) = ((i + 1 : Nat) : Int) := wrap_in (by omega)
      refine awp_skip ?_
      first | rw [thenQ_normal] | rw [blockQ_normal, thenQ_normal]
      refine awp_seq (awp_block ?_)
      refine awp_rseq_draw Tryz.mixed (by decide) (by kernel_rfl) fun KK hKK => ?_
      refine st0 rfl (k_field (by simp only [go_sem, reduceIte, Nat.reduceEqDiff, FF, encDs_getD, hi', hj'] <;> rfl) (by simp only [go_sem] <;> rfl) (by rfl) (by rfl) (by simp only [go_sem, reduceIte, Nat.reduceEqDiff, FF, encDs_getD, hi', hj', Nat.reduceAdd, Nat.reduceSub, Nat.reduceMul, Nat.reduceLeDiff] <;> rfl) (by intro hG; simp only [go_sem])) ?_
      refine st1 rfl (k_load (by simp only [go_sem, reduceIte, Nat.reduceEqDiff, FF, encDs_getD, hi', hj'] <;> rfl) (by simp only [go_sem] <;> rfl) (by rfl) (by intro hG; simp only [go_sem]) (by first | exact lm_ptr (by simp only [go_sem, reduceIte, Nat.reduceEqDiff, FF, encDs_getD, hi', hj'] <;> rfl) (by simp only [go_sem, reduceIte, Nat.reduceEqDiff, FF, encDs_getD, hi', hj', Nat.reduceAdd, Nat.reduceSub, Nat.reduceMul, Nat.reduceLeDiff] <;> rfl) (fun _ => Nat.le_of_ble_eq_true rfl) | exact lm_pim (by simp only [go_sem, reduceIte, Nat.reduceEqDiff, FF, encDs_getD, hi', hj', Nat.reduceAdd, Nat.reduceSub, Nat.reduceMul, Nat.reduceLeDiff] <;> rfl) (fun _ => Nat.le_of_ble_eq_true rfl) | exact lm_rp (by simp only [go_sem, reduceIte, Nat.reduceEqDiff, FF, encDs_getD, hi', hj'] <;> rfl) (by simp only [go_sem, reduceIte, Nat.reduceEqDiff, FF, encDs_getD, hi', hj', Nat.reduceAdd, Nat.reduceSub, Nat.reduceMul, Nat.reduceLeDiff] <;> rfl) (by intro hG; (repeat' apply And.intro) <;> first | rfl | omega | (dsimp only; omega) | (simp; done)))) ?_
      refine st0 rfl (k_move (by simp only [go_sem, reduceIte, Nat.reduceEqDiff, FF, encDs_getD, hi', hj'] <;> rfl)) ?_
      refine st1 rfl (k_index (by simp only [go_sem, reduceIte, Nat.reduceEqDiff, FF, encDs_getD, hi', hj'] <;> rfl) (by simp only [go_sem, reduceIte, Nat.reduceEqDiff, FF, encDs_getD, hi', hj'] <;> rfl) (by simp only [go_sem] <;> rfl) (by rfl) (by simp only [go_sem] <;> rfl) (by rfl) (by intro hG; simp only [go_sem]) (by first | exact im_im (by first | (simp only [go_sem, reduceIte, Nat.reduceEqDiff, FF, encDs_getD, hi', hj', Nat.reduceAdd, Nat.reduceSub, Nat.reduceMul, Nat.reduceLeDiff, Int.reduceToNat] <;> rfl) | rfl) (by intro hG; (repeat' apply And.intro) <;> first | rfl | omega | (dsimp only; omega) | (simp; done)) | exact im_own (by simp only [go_sem, reduceIte, Nat.reduceEqDiff, FF, encDs_getD, hi', hj'] <;> rfl) (by first | (simp only [go_sem, reduceIte, Nat.reduceEqDiff, FF, encDs_getD, hi', hj', Nat.reduceAdd, Nat.reduceSub, Nat.reduceMul, Nat.reduceLeDiff, Int.reduceToNat] <;> rfl) | rfl) (by intro hG; (repeat' apply And.intro) <;> first | rfl | omega | (dsimp only; omega) | (simp; done)) | exact im_osub (by simp only [go_sem, reduceIte, Nat.reduceEqDiff, FF, encDs_getD, hi', hj'] <;> rfl) (by first | (simp only [go_sem, reduceIte, Nat.reduceEqDiff, FF, encDs_getD, hi', hj', Nat.reduceAdd, Nat.reduceSub, Nat.reduceMul, Nat.reduceLeDiff, Int.reduceToNat] <;> rfl) | rfl) (by intro hG; (repeat' apply And.intro) <;> first | rfl | omega | (dsimp only; omega) | (simp; done)))) ?_
      refine st1 rfl (k_load (by simp only [go_sem, reduceIte, Nat.reduceEqDiff, FF, encDs_getD, hi', hj'] <;> rfl) (by simp only [go_sem] <;> rfl) (by rfl) (by intro hG; simp only [go_sem]) (by first | exact lm_ptr (by simp only [go_sem, reduceIte, Nat.reduceEqDiff, FF, encDs_getD, hi', hj'] <;> rfl) (by simp only [go_sem, reduceIte, Nat.reduceEqDiff, FF, encDs_getD, hi', hj', Nat.reduceAdd, Nat.reduceSub, Nat.reduceMul, Nat.reduceLeDiff] <;> rfl) (fun _ => Nat.le_of_ble_eq_true rfl) | exact lm_pim (by simp only [go_sem, reduceIte, Nat.reduceEqDiff, FF, encDs_getD, hi', hj', Nat.reduceAdd, Nat.reduceSub, Nat.reduceMul, Nat.reduceLeDiff] <;> rfl) (fun _ => Nat.le_of_ble_eq_true rfl) | exact lm_rp (by simp only [go_sem, reduceIte, Nat.reduceEqDiff, FF, encDs_getD, hi', hj'] <;> rfl) (by simp only [go_sem, reduceIte, Nat.reduceEqDiff, FF, encDs_getD, hi', hj', Nat.reduceAdd, Nat.reduceSub, Nat.reduceMul, Nat.reduceLeDiff] <;> rfl) (by intro hG; (repeat' apply And.intro) <;> first | rfl | omega | (dsimp only; omega) | (simp; done)))) ?_
      refine st0 rfl (k_field (by simp only [go_sem, reduceIte, Nat.reduceEqDiff, FF, encDs_getD, hi', hj'] <;> rfl) (by simp only [go_sem] <;> rfl) (by rfl) (by rfl) (by simp only [go_sem, reduceIte, Nat.reduceEqDiff, FF, encDs_getD, hi', hj', Nat.reduceAdd, Nat.reduceSub, Nat.reduceMul, Nat.reduceLeDiff] <;> rfl) (by intro hG; simp only [go_sem])) ?_
      refine st1 rfl (k_load (by simp only [go_sem, reduceIte, Nat.reduceEqDiff, FF, encDs_getD, hi', hj'] <;> rfl) (by simp only [go_sem] <;> rfl) (by rfl) (by intro hG; simp only [go_sem]) (by first | exact lm_ptr (by simp only [go_sem, reduceIte, Nat.reduceEqDiff, FF, encDs_getD, hi', hj'] <;> rfl) (by simp only [go_sem, reduceIte, Nat.reduceEqDiff, FF, encDs_getD, hi', hj', Nat.reduceAdd, Nat.reduceSub, Nat.reduceMul, Nat.reduceLeDiff] <;> rfl) (fun _ => Nat.le_of_ble_eq_true rfl) | exact lm_pim (by simp only [go_sem, reduceIte, Nat.reduceEqDiff, FF, encDs_getD, hi', hj', Nat.reduceAdd, Nat.reduceSub, Nat.reduceMul, Nat.reduceLeDiff] <;> rfl) (fun _ => Nat.le_of_ble_eq_true rfl) | exact lm_rp (by simp only [go_sem, reduceIte, Nat.reduceEqDiff, FF, encDs_getD, hi', hj'] <;> rfl) (by simp only [go_sem, reduceIte, Nat.reduceEqDiff, FF, encDs_getD, hi', hj', Nat.reduceAdd, Nat.reduceSub, Nat.reduceMul, Nat.reduceLeDiff] <;> rfl) (by intro hG; (repeat' apply And.intro) <;> first | rfl | omega | (dsimp only; omega) | (simp; done)))) ?_
      refine st0 rfl (k_move (by simp only [go_sem, reduceIte, Nat.reduceEqDiff, FF, encDs_getD, hi', hj'] <;> rfl)) ?_
      refine st1 rfl (k_index (by simp only [go_sem, reduceIte, Nat.reduceEqDiff, FF, encDs_getD, hi', hj'] <;> rfl) (by simp only [go_sem, reduceIte, Nat.reduceEqDiff, FF, encDs_getD, hi', hj'] <;> rfl) (by simp only [go_sem] <;> rfl) (by rfl) (by simp only [go_sem] <;> rfl) (by rfl) (by intro hG; simp only [go_sem]) (by first | exact im_im (by first | (simp only [go_sem, reduceIte, Nat.reduceEqDiff, FF, encDs_getD, hi', hj', Nat.reduceAdd, Nat.reduceSub, Nat.reduceMul, Nat.reduceLeDiff, Int.reduceToNat] <;> rfl) | rfl) (by intro hG; (repeat' apply And.intro) <;> first | rfl | omega | (dsimp only; omega) | (simp; done)) | exact im_own (by simp only [go_sem, reduceIte, Nat.reduceEqDiff, FF, encDs_getD, hi', hj'] <;> rfl) (by first | (simp only [go_sem, reduceIte, Nat.reduceEqDiff, FF, encDs_getD, hi', hj', Nat.reduceAdd, Nat.reduceSub, Nat.reduceMul, Nat.reduceLeDiff, Int.reduceToNat] <;> rfl) | rfl) (by intro hG; (repeat' apply And.intro) <;> first | rfl | omega | (dsimp only; omega) | (simp; done)) | exact im_osub (by simp only [go_sem, reduceIte, Nat.reduceEqDiff, FF, encDs_getD, hi', hj'] <;> rfl) (by first | (simp only [go_sem, reduceIte, Nat.reduceEqDiff, FF, encDs_getD, hi', hj', Nat.reduceAdd, Nat.reduceSub, Nat.reduceMul, Nat.reduceLeDiff, Int.reduceToNat] <;> rfl) | rfl) (by intro hG; (repeat' apply And.intro) <;> first | rfl | omega | (dsimp only; omega) | (simp; done)))) ?_
      refine st1 rfl (k_load (by simp only [go_sem, reduceIte, Nat.reduceEqDiff, FF, encDs_getD, hi', hj'] <;> rfl) (by simp only [go_sem] <;> rfl) (by rfl) (by intro hG; simp only [go_sem]) (by first | exact lm_ptr (by simp only [go_sem, reduceIte, Nat.reduceEqDiff, FF, encDs_getD, hi', hj'] <;> rfl) (by simp only [go_sem, reduceIte, Nat.reduceEqDiff, FF, encDs_getD, hi', hj', Nat.reduceAdd, Nat.reduceSub, Nat.reduceMul, Nat.reduceLeDiff] <;> rfl) (fun _ => Nat.le_of_ble_eq_true rfl) | exact lm_pim (by simp only [go_sem, reduceIte, Nat.reduceEqDiff, FF, encDs_getD, hi', hj', Nat.reduceAdd, Nat.reduceSub, Nat.reduceMul, Nat.reduceLeDiff] <;> rfl) (fun _ => Nat.le_of_ble_eq_true rfl) | exact lm_rp (by simp only [go_sem, reduceIte, Nat.reduceEqDiff, FF, encDs_getD, hi', hj'] <;> rfl) (by simp only [go_sem, reduceIte, Nat.reduceEqDiff, FF, encDs_getD, hi', hj', Nat.reduceAdd, Nat.reduceSub, Nat.reduceMul, Nat.reduceLeDiff] <;> rfl) (by intro hG; (repeat' apply And.intro) <;> first | rfl | omega | (dsimp only; omega) | (simp; done)))) ?_
      refine st1 rfl (k_call (by simp only [go_sem, reduceIte, Nat.reduceEqDiff, FF, encDs_getD, hi', hj'] <;> rfl) rfl (by simp only [go_sem, reduceIte, Nat.reduceEqDiff, FF, encDs_getD, hi', hj'] <;> rfl) (by intro hG; simp only [go_sem]) (by rfl) (Subs.refl _) (fun hG => ih _ _ (by have := kids_sizeD a i hi'; omega) (okD_kid hok hi'))) ?_
      refine st0 rfl (k_assign (by simp only [go_sem, reduceIte, Nat.reduceEqDiff, FF, encDs_getD, hi', hj'] <;> rfl)) ?_
      refine hKK _ _ ?_
      clear hKK KK
      refine awp_rseq (by decide) fun KK hKK => ?_
      refine m_move ?_
      refine m_bin ?_
      refine hKK _ _ ?_
      clear hKK KK
      refine m_cond (fun hc => ?_) (fun hc => ?_)
      · refine awp_rseq (by decide) fun KK hKK => ?_
        refine m_move ?_
        refine m_assign ?_
        refine hKK _ _ ?_
        clear hKK KK
        refine awp_ret ⟨[_], ⟨⟨(by simp only [go_sem, reduceIte, Nat.reduceEqDiff, FF]), (by simp only [go_sem, reduceIte, Nat.reduceEqDiff, FF] <;> rfl)⟩, trivial⟩, ?_⟩
        simp only [go_sem, reduceIte, Nat.reduceEqDiff, FF, tupled]
        exact CV.Sub.of_eq (by rw [← hres, cmpL_step hi' hj', if_pos (by simpa using hc)])
      refine awp_skip ?_
      first | rw [thenQ_normal] | rw [blockQ_normal, thenQ_normal]
      have h0 : ¬ cmpD (a.kids.getD i default) (b.kids.getD i default) ≠ 0 := by simpa using hc
      have FF := And.intro w3 FF
      refine awp_rlast (by decide) fun KK hKK => ?_
      refine m_move ?_
      refine m_bin ?_
      refine m_assign ?_
      refine hKK _ _ ?_
      clear hKK KK
      try rw [thenQ_normal]
      refine m_next (i + 1) ?_ ?_
      · exact ⟨hi', hj', by rw [← hres, cmpL_step hi' hj', if_neg h0]⟩
      · omega
    · refine awp_exit ?_
      simp only [thenQ_exit, blockQ_exit, reduceIte, Nat.reduceEqDiff]
      try rw [thenQ_normal]
      refine awp_rseq (by decide) fun KK hKK => ?_
      refine m_field ?_
      refine m_load ?_
      refine m_len ?_
      refine m_field ?_
      refine m_load ?_
      refine m_len ?_
      refine m_call (fun hG => ints_ok _ _) ?_
      refine m_assign ?_
      refine hKK _ _ ?_
      clear hKK KK
      refine awp_ret ⟨[_], ⟨⟨(by simp only [go_sem, reduceIte, Nat.reduceEqDiff, FF]), (by simp only [go_sem, reduceIte, Nat.reduceEqDiff, FF] <;> rfl)⟩, trivial⟩, ?_⟩
      simp only [go_sem, reduceIte, Nat.reduceEqDiff, FF, tupled]
      simp only [Bool.and_eq_false_iff, decide_eq_false_iff_not] at hc
      exact CV.Sub.of_eq (by rw [← hres, cmpL_end hi hj (by omega)])
end Go.Am

/- Contracts: the size of derivations; numbers and strings compared; the order of derivations. No condition. -/
namespace Go.Am
open Go.Proofs
attribute [local go_sem ↓] ofL_cons ofH_cons upd_apply
attribute [local go_sem] cellsD
set_option maxHeartbeats 1000000
set_option linter.unusedSimpArgs false

def encInts (l : List Int) : CV := .im 1 l.length fun i => [.int (l.getD i 0)]

mutual
/-- The size of a derivation, up to 'most' and one. -/
def sizeD : Dv → Int → Int
  | .mk _ n _ _ ks, most => if decide ((100 : Int) < n.size) || decide (most < (ks.length : Int)) then most + 1 else sizeLs ks most 1
def sizeLs : List Dv → Int → Int → Int
  | [], _, n => n
  | d :: r, most, n => if n ≤ most then sizeLs r most (n + sizeD d (most - n)) else n
end
mutual
theorem sizeD_bd : ∀ (d : Dv) (most : Int), 0 ≤ most → 1 ≤ sizeD d most ∧ sizeD d most ≤ most + 1
  | .mk _ n _ _ ks, most, h => by
    rw [sizeD]
    split
    · omega
    · exact sizeLs_bd ks most 1 h (by omega) (by omega)
theorem sizeLs_bd : ∀ (ks : List Dv) (most n : Int), 0 ≤ most → 1 ≤ n → n ≤ most + 1 → 1 ≤ sizeLs ks most n ∧ sizeLs ks most n ≤ most + 1
  | [], most, n, _, h1, h2 => by rw [sizeLs]; omega
  | d :: r, most, n, h0, h1, h2 => by
    rw [sizeLs]
    split
    · have := sizeD_bd d (most - n) (by omega)
      exact sizeLs_bd r most _ h0 (by omega) (by omega)
    · omega
end
def lightD (d : Dv) (n : Int) : Bool := decide (sizeD d n ≤ n)

theorem sizeD_eq (d : Dv) (most : Int) : sizeD d most = if decide ((100 : Int) < d.name.size) || decide (most < (d.kids.length : Int)) then most + 1 else sizeLs d.kids most 1 := by
  obtain ⟨k, n, f, t, ks⟩ := d
  rw [sizeD]
  rfl

def cmpS (a b : ByteArray) : Int := if Op.bytesLess a.toList b.toList then -1 else if !(Op.bytesLess a.toList b.toList || a.toList == b.toList) then 1 else 0
def orL : List Int → Int
  | [] => 0
  | x :: r => if x != 0 then x else orL r

variable [Glb]

theorem nanI_ok (a : Int) : APure Tryz.prog 30 [.int a] (.bool false) := by
  have FF : True := trivial
  refine apure_of Tryz.func30 rfl (by kernel_rfl) (by simp [Tryz.ntmps30]) ?_
  rw [Tryz.ntmps30]
  have h1 : (a != a) = false := by simp
  refine awp_rseq (by decide) fun KK hKK => ?_
  refine m_assign ?_
  refine hKK _ _ ?_
  clear hKK KK
  have FF := And.intro h1 FF
  refine awp_rseq (by decide) fun KK hKK => ?_
  refine m_move ?_
  refine m_move ?_
  refine m_bin ?_
  refine m_assign ?_
  refine hKK _ _ ?_
  clear hKK KK
  refine awp_ret ⟨[_], ⟨⟨(by simp only [go_sem, reduceIte, Nat.reduceEqDiff, FF]), (by simp only [go_sem, reduceIte, Nat.reduceEqDiff, FF] <;> rfl)⟩, trivial⟩, ?_⟩
  simp only [go_sem, reduceIte, Nat.reduceEqDiff, FF, tupled]
  exact CV.Sub.refl _
theorem nanS_ok (a : ByteArray) : APure Tryz.prog 31 [.str a] (.bool false) := by
  have FF : True := trivial
  refine apure_of Tryz.func31 rfl (by kernel_rfl) (by simp [Tryz.ntmps31]) ?_
  rw [Tryz.ntmps31]
  have h1 : (a.toList == a.toList) = true := by simp
  refine awp_rseq (by decide) fun KK hKK => ?_
  refine m_assign ?_
  refine hKK _ _ ?_
  clear hKK KK
  have FF := And.intro h1 FF
  refine awp_rseq (by decide) fun KK hKK => ?_
  refine m_move ?_
  refine m_move ?_
  refine m_bin ?_
  refine m_assign ?_
  refine hKK _ _ ?_
  clear hKK KK
  refine awp_ret ⟨[_], ⟨⟨(by simp only [go_sem, reduceIte, Nat.reduceEqDiff, FF]), (by simp only [go_sem, reduceIte, Nat.reduceEqDiff, FF] <;> rfl)⟩, trivial⟩, ?_⟩
  simp only [go_sem, reduceIte, Nat.reduceEqDiff, FF, tupled]
  exact CV.Sub.refl _
theorem cmpI_ok (a b : Int) : APure Tryz.prog 19 [.int a, .int b] (.int (intsF a b)) := by
  have FF : True := trivial
  refine apure_of Tryz.func19 rfl (by kernel_rfl) (by simp [Tryz.ntmps19]) ?_
  rw [Tryz.ntmps19]
  unfold intsF
  refine awp_rseq (by decide) fun KK hKK => ?_
  refine m_assign ?_
  refine hKK _ _ ?_
  clear hKK KK
  refine awp_rseq (by decide) fun KK hKK => ?_
  refine m_move ?_
  refine m_call (fun hG => nanI_ok a) ?_
  refine m_assign ?_
  refine hKK _ _ ?_
  clear hKK KK
  refine awp_rseq (by decide) fun KK hKK => ?_
  refine m_move ?_
  refine m_call (fun hG => nanI_ok b) ?_
  refine m_assign ?_
  refine hKK _ _ ?_
  clear hKK KK
  refine awp_seq ?_
  refine awp_rseq (by decide) fun KK hKK => ?_
  refine m_move ?_
  refine hKK _ _ ?_
  clear hKK KK
  refine m_cond (fun hc => ?_) (fun hc => ?_)
  · cases hc
  refine awp_skip ?_
  first | rw [thenQ_normal] | rw [blockQ_normal, thenQ_normal]
  refine awp_seq ?_
  refine awp_rseq (by decide) fun KK hKK => ?_
  refine m_move ?_
  refine hKK _ _ ?_
  clear hKK KK
  refine m_cond (fun hc => ?_) (fun hc => ?_)
  · cases hc
  refine awp_skip ?_
  first | rw [thenQ_normal] | rw [blockQ_normal, thenQ_normal]
  refine awp_seq ?_
  refine awp_rseq (by decide) fun KK hKK => ?_
  refine m_move ?_
  refine m_move ?_
  refine m_bin ?_
  refine hKK _ _ ?_
  clear hKK KK
  refine m_cond (fun hc => ?_) (fun hc => ?_)
  · rw [if_pos (by simpa using hc)]
    refine awp_rseq (by decide) fun KK hKK => ?_
    refine m_assign ?_
    refine hKK _ _ ?_
    clear hKK KK
    refine awp_ret ⟨[_], ⟨⟨(by simp only [go_sem, reduceIte, Nat.reduceEqDiff, FF]), (by simp only [go_sem, reduceIte, Nat.reduceEqDiff, FF] <;> rfl)⟩, trivial⟩, ?_⟩
    simp only [go_sem, reduceIte, Nat.reduceEqDiff, FF, tupled]
    exact CV.Sub.refl _
  rw [if_neg (by simpa using hc)]
  refine awp_skip ?_
  first | rw [thenQ_normal] | rw [blockQ_normal, thenQ_normal]
  refine awp_seq ?_
  refine awp_rseq (by decide) fun KK hKK => ?_
  refine m_move ?_
  refine m_move ?_
  refine m_bin ?_
  refine hKK _ _ ?_
  clear hKK KK
  refine m_cond (fun hc => ?_) (fun hc => ?_)
  · rw [if_pos (by simpa using hc)]
    refine awp_rseq (by decide) fun KK hKK => ?_
    refine m_assign ?_
    refine hKK _ _ ?_
    clear hKK KK
    refine awp_ret ⟨[_], ⟨⟨(by simp only [go_sem, reduceIte, Nat.reduceEqDiff, FF]), (by simp only [go_sem, reduceIte, Nat.reduceEqDiff, FF] <;> rfl)⟩, trivial⟩, ?_⟩
    simp only [go_sem, reduceIte, Nat.reduceEqDiff, FF, tupled]
    exact CV.Sub.refl _
  rw [if_neg (by simpa using hc)]
  refine awp_skip ?_
  first | rw [thenQ_normal] | rw [blockQ_normal, thenQ_normal]
  refine awp_rseq (by decide) fun KK hKK => ?_
  refine m_assign ?_
  refine hKK _ _ ?_
  clear hKK KK
  refine awp_ret ⟨[_], ⟨⟨(by simp only [go_sem, reduceIte, Nat.reduceEqDiff, FF]), (by simp only [go_sem, reduceIte, Nat.reduceEqDiff, FF] <;> rfl)⟩, trivial⟩, ?_⟩
  simp only [go_sem, reduceIte, Nat.reduceEqDiff, FF, tupled]
  exact CV.Sub.refl _
theorem cmpS_ok (a b : ByteArray) : APure Tryz.prog 20 [.str a, .str b] (.int (cmpS a b)) := by
  have FF : True := trivial
  refine apure_of Tryz.func20 rfl (by kernel_rfl) (by simp [Tryz.ntmps20]) ?_
  rw [Tryz.ntmps20]
  unfold cmpS
  refine awp_rseq (by decide) fun KK hKK => ?_
  refine m_assign ?_
  refine hKK _ _ ?_
  clear hKK KK
  refine awp_rseq (by decide) fun KK hKK => ?_
  refine m_move ?_
  refine m_call (fun hG => nanS_ok a) ?_
  refine m_assign ?_
  refine hKK _ _ ?_
  clear hKK KK
  refine awp_rseq (by decide) fun KK hKK => ?_
  refine m_move ?_
  refine m_call (fun hG => nanS_ok b) ?_
  refine m_assign ?_
  refine hKK _ _ ?_
  clear hKK KK
  refine awp_seq ?_
  refine awp_rseq (by decide) fun KK hKK => ?_
  refine m_move ?_
  refine hKK _ _ ?_
  clear hKK KK
  refine m_cond (fun hc => ?_) (fun hc => ?_)
  · cases hc
  refine awp_skip ?_
  first | rw [thenQ_normal] | rw [blockQ_normal, thenQ_normal]
  refine awp_seq ?_
  refine awp_rseq (by decide) fun KK hKK => ?_
  refine m_move ?_
  refine hKK _ _ ?_
  clear hKK KK
  refine m_cond (fun hc => ?_) (fun hc => ?_)
  · cases hc
  refine awp_skip ?_
  first | rw [thenQ_normal] | rw [blockQ_normal, thenQ_normal]
  refine awp_seq ?_
  refine awp_rseq (by decide) fun KK hKK => ?_
  refine m_move ?_
  refine m_move ?_
  refine m_bin ?_
  refine hKK _ _ ?_
  clear hKK KK
  refine m_cond (fun hc => ?_) (fun hc => ?_)
  · rw [if_pos hc]
    refine awp_rseq (by decide) fun KK hKK => ?_
    refine m_assign ?_
    refine hKK _ _ ?_
    clear hKK KK
    refine awp_ret ⟨[_], ⟨⟨(by simp only [go_sem, reduceIte, Nat.reduceEqDiff, FF]), (by simp only [go_sem, reduceIte, Nat.reduceEqDiff, FF] <;> rfl)⟩, trivial⟩, ?_⟩
    simp only [go_sem, reduceIte, Nat.reduceEqDiff, FF, tupled]
    exact CV.Sub.refl _
  rw [if_neg (by rw [hc]; decide)]
  refine awp_skip ?_
  first | rw [thenQ_normal] | rw [blockQ_normal, thenQ_normal]
  refine awp_seq ?_
  refine awp_rseq (by decide) fun KK hKK => ?_
  refine m_move ?_
  refine m_move ?_
  refine m_bin ?_
  refine hKK _ _ ?_
  clear hKK KK
  refine m_cond (fun hc => ?_) (fun hc => ?_)
  · rw [if_pos hc]
    refine awp_rseq (by decide) fun KK hKK => ?_
    refine m_assign ?_
    refine hKK _ _ ?_
    clear hKK KK
    refine awp_ret ⟨[_], ⟨⟨(by simp only [go_sem, reduceIte, Nat.reduceEqDiff, FF]), (by simp only [go_sem, reduceIte, Nat.reduceEqDiff, FF] <;> rfl)⟩, trivial⟩, ?_⟩
    simp only [go_sem, reduceIte, Nat.reduceEqDiff, FF, tupled]
    exact CV.Sub.refl _
  rw [if_neg (by rw [hc]; decide)]
  refine awp_skip ?_
  first | rw [thenQ_normal] | rw [blockQ_normal, thenQ_normal]
  refine awp_rseq (by decide) fun KK hKK => ?_
  refine m_assign ?_
  refine hKK _ _ ?_
  clear hKK KK
  refine awp_ret ⟨[_], ⟨⟨(by simp only [go_sem, reduceIte, Nat.reduceEqDiff, FF]), (by simp only [go_sem, reduceIte, Nat.reduceEqDiff, FF] <;> rfl)⟩, trivial⟩, ?_⟩
  simp only [go_sem, reduceIte, Nat.reduceEqDiff, FF, tupled]
  exact CV.Sub.refl _

theorem or_ok (l : List Int) (hl : l.length ≤ 1000) : APure Tryz.prog 18 [encInts l] (.int (orL l)) := by
  have FF : True := trivial
  refine apure_of Tryz.func18 rfl (by kernel_rfl) (by simp [Tryz.ntmps18]) ?_
  rw [Tryz.ntmps18]
  refine awp_rseq (by decide) fun KK hKK => ?_
  refine m_assign ?_
  refine hKK _ _ ?_
  clear hKK KK
  refine awp_rseq (by decide) fun KK hKK => ?_
  refine m_assign ?_
  refine hKK _ _ ?_
  clear hKK KK
  refine awp_seq ?_
  refine awp_rseq (by decide) fun KK hKK => ?_
  refine m_move ?_
  refine m_len ?_
  refine m_move ?_
  refine hKK _ _ ?_
  clear hKK KK
  refine awp_block ?_
  refine m_for (ι := Nat) (fun i => [(3, .int 0), (6, .c (encInts l)), (7, .int l.length), (8, .int i)]) (fun i => []) (fun i => l.length - i) (fun i => i ≤ l.length ∧ orL l = orL (l.drop i)) (0) ?_ ?_
  · exact ⟨Nat.zero_le _, by rw [List.drop_zero]⟩
  rintro i ⟨hi, hres⟩
  refine awp_rseq (by decide) fun KK hKK => ?_
  refine m_bin ?_
  refine hKK _ _ ?_
  clear hKK KK
  refine awp_seq ?_
  refine m_cond (fun hc => ?_) (fun hc => ?_)
  · simp only [decide_eq_true_eq] at hc
    have hi' : i < l.length := by omega
    have w3 : IntKind.i64.wrap ((i : Int) + 1) = ((i + 1 : Nat) : Int) := wrap_in (by omega)
    have hst : orL (l.drop i) = if l.getD i 0 != 0 then l.getD i 0 else orL (l.drop (i + 1)) := by rw [List.drop_eq_getElem_cons hi', orL, getD_lt hi']
    refine awp_skip ?_
    first | rw [thenQ_normal] | rw [blockQ_normal, thenQ_normal]
    refine awp_seq (awp_block ?_)
    clear hc
    refine awp_rseq (by decide) fun KK hKK => ?_
    refine m_index ?_
    refine m_load ?_
    refine m_assign ?_
    refine hKK _ _ ?_
    clear hKK KK
    refine awp_rseq (by decide) fun KK hKK => ?_
    refine m_move ?_
    refine m_move ?_
    refine m_bin ?_
    refine hKK _ _ ?_
    clear hKK KK
    refine m_cond (fun hc => ?_) (fun hc => ?_)
    · refine awp_rseq (by decide) fun KK hKK => ?_
      refine m_move ?_
      refine m_assign ?_
      refine hKK _ _ ?_
      clear hKK KK
      refine awp_ret ⟨[_], ⟨⟨(by simp only [go_sem, reduceIte, Nat.reduceEqDiff, FF]), (by simp only [go_sem, reduceIte, Nat.reduceEqDiff, FF] <;> rfl)⟩, trivial⟩, ?_⟩
      simp only [go_sem, reduceIte, Nat.reduceEqDiff, FF, tupled]
      rw [hres, hst, if_pos hc]
      exact CV.Sub.refl _
    refine awp_skip ?_
    first | rw [thenQ_normal] | rw [blockQ_normal, thenQ_normal]
    have FF := And.intro w3 FF
    refine awp_rlast (by decide) fun KK hKK => ?_
    refine m_bin ?_
    refine m_move ?_
    refine hKK _ _ ?_
    clear hKK KK
    try rw [thenQ_normal]
    refine m_next (i + 1) ?_ ?_
    · exact ⟨hi', by rw [hres, hst, if_neg (by rw [hc]; decide)]⟩
    · omega
  · refine awp_exit ?_
    simp only [thenQ_exit, blockQ_exit, reduceIte, Nat.reduceEqDiff]
    try rw [thenQ_normal]
    have hi' : i = l.length := by simp only [decide_eq_false_iff_not] at hc; omega
    rw [hi', List.drop_length] at hres
    refine awp_rseq (by decide) fun KK hKK => ?_
    refine m_move ?_
    refine m_assign ?_
    refine hKK _ _ ?_
    clear hKK KK
    refine awp_ret ⟨[_], ⟨⟨(by simp only [go_sem, reduceIte, Nat.reduceEqDiff, FF]), (by simp only [go_sem, reduceIte, Nat.reduceEqDiff, FF] <;> rfl)⟩, trivial⟩, ?_⟩
    simp only [go_sem, reduceIte, Nat.reduceEqDiff, FF, tupled]
    rw [hres]
    exact CV.Sub.refl _

end Go.Am

/- Contracts: the order of derivations xs the program has it; how many rules stand above each other. No condition. -/
namespace Go.Am
open Go.Proofs
attribute [local go_sem ↓] ofL_cons ofH_cons upd_apply
attribute [local go_sem] cellsD
set_option maxHeartbeats 1000000
set_option linter.unusedSimpArgs false

theorem bytesLess_irrefl : ∀ l : List UInt8, Op.bytesLess l l = false
  | [] => rfl
  | x :: r => by
    have := bytesLess_irrefl r
    simp [Op.bytesLess, this]
theorem intsF_zero {a b : Int} : intsF a b = 0 ↔ a = b := by
  unfold intsF
  split
  · constructor <;> intro h <;> omega
  · split
    · constructor <;> intro h <;> omega
    · constructor <;> intro h <;> omega
theorem cmp_or (a b : Dv) : cmpD a b = if orL [intsF a.frm b.frm, intsF a.to b.to, intsF a.kind b.kind, cmpS a.name b.name] != 0 then orL [intsF a.frm b.frm, intsF a.to b.to, intsF a.kind b.kind, cmpS a.name b.name] else cmpL a.kids b.kids := by
  rw [cmpD_eq]
  by_cases h1 : a.frm = b.frm
  · have e1 : intsF a.frm b.frm = 0 := intsF_zero.2 h1
    rw [if_neg (by simpa using h1)]
    by_cases h2 : a.to = b.to
    · have e2 : intsF a.to b.to = 0 := intsF_zero.2 h2
      rw [if_neg (by simpa using h2)]
      by_cases h3 : a.kind = b.kind
      · have e3 : intsF a.kind b.kind = 0 := intsF_zero.2 h3
        rw [if_neg (by simpa using h3)]
        cases h4 : a.name.toList == b.name.toList with
        | true =>
          have h5 : a.name.toList = b.name.toList := by simpa using h4
          have e4 : cmpS a.name b.name = 0 := by unfold cmpS; rw [h5, bytesLess_irrefl]; simp
          simp [orL, e1, e2, e3, e4]
        | false =>
          cases h6 : Op.bytesLess a.name.toList b.name.toList with
          | true =>
            have e4 : cmpS a.name b.name = -1 := by unfold cmpS; rw [h6]; rfl
            simp [orL, e1, e2, e3, e4]
          | false =>
            have e4 : cmpS a.name b.name = 1 := by unfold cmpS; rw [h6, h4]; rfl
            simp [orL, e1, e2, e3, e4]
      · have e3 : intsF a.kind b.kind ≠ 0 := fun h => h3 (intsF_zero.1 h)
        rw [if_pos (by simpa using h3)]
        simp [orL, e1, e2, e3]
    · have e2 : intsF a.to b.to ≠ 0 := fun h => h2 (intsF_zero.1 h)
      rw [if_pos (by simpa using h2)]
      simp [orL, e1, e2]
  · have e1 : intsF a.frm b.frm ≠ 0 := fun h => h1 (intsF_zero.1 h)
    rw [if_pos (by simpa using h1)]
    simp [orL, e1]

theorem sub_i4 (a b c d : Int) : CV.Sub (.im 1 4 fun i => [[.int a], [.int b], [.int c], [.int d]].getD i []) (encInts [a, b, c, d]) := CV.Sub.im rfl (fun i hi => match i, hi with | 0, _ => rfl | 1, _ => rfl | 2, _ => rfl | 3, _ => rfl)

def unaryD : Dv → Int
  | .mk k _ _ _ [x] => if k == 2 then 1 + unaryD x else 0
  | .mk _ _ _ _ _ => 0

theorem unaryD_yes (d x : Dv) (h : (d.kind == 2) = true) (hk : d.kids = [x]) : unaryD d = 1 + unaryD x := by
  obtain ⟨k, n, f, t, ks⟩ := d
  replace h : (k == 2) = true := h
  replace hk : ks = [x] := hk
  subst hk
  rw [unaryD, if_pos h]
theorem unaryD_no (d : Dv) (h : ¬ ((d.kind == 2) = true ∧ d.kids.length = 1)) : unaryD d = 0 := by
  obtain ⟨k, n, f, t, ks⟩ := d
  replace h : ¬ ((k == 2) = true ∧ ks.length = 1) := h
  match ks, h with
  | [], _ => rw [unaryD]; simp
  | [x], h => rw [unaryD, if_neg fun e => h ⟨e, rfl⟩]
  | _ :: _ :: _, _ => rw [unaryD]; simp
theorem unaryD_bd : ∀ (N : Nat) (d : Dv), d.size ≤ N → 0 ≤ unaryD d ∧ unaryD d ≤ N
  | 0, d, h => by cases d; simp [Dv.size] at h
  | N + 1, d, h => by
    by_cases hk : (d.kind == 2) = true ∧ d.kids.length = 1
    · obtain ⟨x, hx⟩ : ∃ x, d.kids = [x] := by
        match h : d.kids, hk.2 with
        | [x], _ => exact ⟨x, rfl⟩
      have hs := kids_sizeD d 0 (by rw [hk.2]; decide)
      rw [hx] at hs
      have := unaryD_bd N x (by simp only [List.getD_cons_zero] at hs; omega)
      rw [unaryD_yes d x hk.1 hx]
      omega
    · rw [unaryD_no d hk]; omega

variable [Glb]

theorem cmpF_ok (xs ys : List Dv) (ha : xs.length ≤ 1000) (hb : ys.length ≤ 1000) (hcmp : ∀ i, i < xs.length → i < ys.length → APure Tryz.prog 10 [.agg (cellsD (xs.getD i default)), .agg (cellsD (ys.getD i default))] (.int (cmpD (xs.getD i default) (ys.getD i default)))) :
    APure Tryz.prog 21 [encKids xs, encKids ys, .raw (.func (.func 10) #[] #[])] (.int (cmpL xs ys)) := by
  have FF : True := trivial
  refine apure_of Tryz.func21 rfl (by kernel_rfl) (by simp [Tryz.ntmps21]) ?_
  rw [Tryz.ntmps21]
  refine awp_rseq (by decide) fun KK hKK => ?_
  refine m_assign ?_
  refine hKK _ _ ?_
  clear hKK KK
  refine awp_seq ?_
  refine awp_rseq (by decide) fun KK hKK => ?_
  refine m_move ?_
  refine m_len ?_
  refine m_move ?_
  refine hKK _ _ ?_
  clear hKK KK
  refine awp_block ?_
  refine m_for (ι := Nat) (fun i => [(0, .c (encKids xs)), (1, .c (encKids ys)), (2, .c (.raw (.func (.func 10) #[] #[]))), (11, .c (encKids xs)), (12, .int xs.length), (13, .int i)]) (fun i => []) (fun i => xs.length - i) (fun i => i ≤ xs.length ∧ i ≤ ys.length ∧ cmpL (xs.drop i) (ys.drop i) = cmpL xs ys) (0) ?_ ?_
  · exact ⟨Nat.zero_le _, Nat.zero_le _, rfl⟩
  rintro i ⟨hi, hi2, hres⟩
  refine awp_rseq (by decide) fun KK hKK => ?_
  refine m_bin ?_
  refine hKK _ _ ?_
  clear hKK KK
  refine awp_seq ?_
  refine m_cond (fun hc => ?_) (fun hc => ?_)
  · simp only [decide_eq_true_eq] at hc
    have hi' : i < xs.length := by omega
    have w3 : IntKind.i64.wrap ((i : Int) + 1) = ((i + 1 : Nat) : Int) := wrap_in (by omega)
    have eA : (encDs xs).getD i [] = cellsD (xs.getD i default) := encDs_getD hi'
    refine awp_skip ?_
    first | rw [thenQ_normal] | rw [blockQ_normal, thenQ_normal]
    refine awp_seq (awp_block ?_)
    clear hc
    have FF := And.intro eA FF
    refine awp_rseq (by decide) fun KK hKK => ?_
    refine m_move ?_
    refine m_index ?_
    refine m_load ?_
    refine m_alloc ?_
    refine m_assign ?_
    first | refine m_stPtr ?_ | refine m_stRp ?_
    refine hKK _ _ ?_
    clear hKK KK
    refine awp_seq ?_
    refine awp_rseq (by decide) fun KK hKK => ?_
    refine m_move ?_
    refine m_move ?_
    refine m_len ?_
    refine m_bin ?_
    refine hKK _ _ ?_
    clear hKK KK
    refine m_cond (fun hc => ?_) (fun hc => ?_)
    · refine awp_rseq (by decide) fun KK hKK => ?_
      refine m_assign ?_
      refine hKK _ _ ?_
      clear hKK KK
      refine awp_ret ⟨[_], ⟨⟨(by simp only [go_sem, reduceIte, Nat.reduceEqDiff, FF]), (by simp only [go_sem, reduceIte, Nat.reduceEqDiff, FF] <;> rfl)⟩, trivial⟩, ?_⟩
      simp only [go_sem, reduceIte, Nat.reduceEqDiff, FF, tupled]
      simp only [decide_eq_true_eq] at hc
      rw [← hres, List.drop_eq_getElem_cons hi', List.drop_of_length_le (by omega : ys.length ≤ i), cmpL]
      exact CV.Sub.refl _
    have hi3 : i < ys.length := by simp only [decide_eq_false_iff_not] at hc; omega
    have eB : (encDs ys).getD i [] = cellsD (ys.getD i default) := encDs_getD hi3
    have hst : cmpL (xs.drop i) (ys.drop i) = if cmpD (xs.getD i default) (ys.getD i default) ≠ 0 then cmpD (xs.getD i default) (ys.getD i default) else cmpL (xs.drop (i + 1)) (ys.drop (i + 1)) := by
      rw [List.drop_eq_getElem_cons hi', List.drop_eq_getElem_cons hi3, cmpL, getD_lt hi', getD_lt hi3]
    have hcm := hcmp i hi' hi3
    generalize xs.getD i default = A at hst hcm eA ⊢
    generalize ys.getD i default = B at hst hcm eB ⊢
    clear hc
    refine awp_skip ?_
    first | rw [thenQ_normal] | rw [blockQ_normal, thenQ_normal]
    have FF := And.intro eB FF
    refine awp_rseq (by decide) fun KK hKK => ?_
    refine m_move ?_
    refine m_move ?_
    refine m_index ?_
    refine m_load ?_
    refine m_alloc ?_
    first | refine m_stPtr ?_ | refine m_stRp ?_
    refine hKK _ _ ?_
    clear hKK KK
    refine awp_rseq (by decide) fun KK hKK => ?_
    refine m_move ?_
    refine m_load ?_
    refine m_load ?_
    refine m_callV (fun hG => hcm) ?_
    refine m_assign ?_
    refine hKK _ _ ?_
    clear hKK KK
    refine awp_rseq (by decide) fun KK hKK => ?_
    refine m_move ?_
    refine m_bin ?_
    refine hKK _ _ ?_
    clear hKK KK
    refine m_cond (fun hc => ?_) (fun hc => ?_)
    · refine awp_rseq (by decide) fun KK hKK => ?_
      refine m_move ?_
      refine m_assign ?_
      refine hKK _ _ ?_
      clear hKK KK
      refine awp_ret ⟨[_], ⟨⟨(by simp only [go_sem, reduceIte, Nat.reduceEqDiff, FF]), (by simp only [go_sem, reduceIte, Nat.reduceEqDiff, FF] <;> rfl)⟩, trivial⟩, ?_⟩
      simp only [go_sem, reduceIte, Nat.reduceEqDiff, FF, tupled]
      rw [← hres, hst, if_pos (by simpa using hc)]
      exact CV.Sub.refl _
    refine awp_skip ?_
    first | rw [thenQ_normal] | rw [blockQ_normal, thenQ_normal]
    have FF := And.intro w3 FF
    refine awp_rlast (by decide) fun KK hKK => ?_
    refine m_bin ?_
    refine m_move ?_
    refine hKK _ _ ?_
    clear hKK KK
    try rw [thenQ_normal]
    refine m_next (i + 1) ?_ ?_
    · exact ⟨hi', hi3, by rw [← hres, hst, if_neg (by simpa using hc)]⟩
    · omega
  · refine awp_exit ?_
    simp only [thenQ_exit, blockQ_exit, reduceIte, Nat.reduceEqDiff]
    try rw [thenQ_normal]
    have hi' : i = xs.length := by simp only [decide_eq_false_iff_not] at hc; omega
    clear hc
    refine awp_seq ?_
    refine awp_rseq (by decide) fun KK hKK => ?_
    refine m_move ?_
    refine m_len ?_
    refine m_move ?_
    refine m_len ?_
    refine m_bin ?_
    refine hKK _ _ ?_
    clear hKK KK
    refine m_cond (fun hc => ?_) (fun hc => ?_)
    · refine awp_rseq (by decide) fun KK hKK => ?_
      refine m_assign ?_
      refine hKK _ _ ?_
      clear hKK KK
      refine awp_ret ⟨[_], ⟨⟨(by simp only [go_sem, reduceIte, Nat.reduceEqDiff, FF]), (by simp only [go_sem, reduceIte, Nat.reduceEqDiff, FF] <;> rfl)⟩, trivial⟩, ?_⟩
      simp only [go_sem, reduceIte, Nat.reduceEqDiff, FF, tupled]
      simp only [decide_eq_true_eq] at hc
      rw [← hres, List.drop_of_length_le (by omega : xs.length ≤ i), List.drop_eq_getElem_cons (by omega : i < ys.length), cmpL]
      exact CV.Sub.refl _
    refine awp_skip ?_
    first | rw [thenQ_normal] | rw [blockQ_normal, thenQ_normal]
    refine awp_rseq (by decide) fun KK hKK => ?_
    refine m_assign ?_
    refine hKK _ _ ?_
    clear hKK KK
    refine awp_ret ⟨[_], ⟨⟨(by simp only [go_sem, reduceIte, Nat.reduceEqDiff, FF]), (by simp only [go_sem, reduceIte, Nat.reduceEqDiff, FF] <;> rfl)⟩, trivial⟩, ?_⟩
    simp only [go_sem, reduceIte, Nat.reduceEqDiff, FF, tupled]
    simp only [decide_eq_false_iff_not] at hc
    rw [← hres, List.drop_of_length_le (by omega : xs.length ≤ i), List.drop_of_length_le (by omega : ys.length ≤ i), cmpL]
    exact CV.Sub.refl _

theorem cmp_ok : ∀ (N : Nat) (a b : Dv), a.size ≤ N → okD a → okD b → APure Tryz.prog 10 [.agg (cellsD a), .agg (cellsD b)] (.int (cmpD a b)) := by
  intro N
  induction N with
  | zero => intro a; cases a; simp [Dv.size]
  | succ N ih =>
  intro a b hN hA hB
  have FF : True := trivial
  refine apure_of Tryz.func10 rfl (by kernel_rfl) (by simp [Tryz.ntmps10]) ?_
  rw [Tryz.ntmps10, cmp_or]
  generalize hor : orL [intsF a.frm b.frm, intsF a.to b.to, intsF a.kind b.kind, cmpS a.name b.name] = o
  have ho := or_ok [intsF a.frm b.frm, intsF a.to b.to, intsF a.kind b.kind, cmpS a.name b.name] (by simp)
  rw [hor] at ho
  refine awp_rseq (by decide) fun KK hKK => ?_
  refine m_box ?_
  refine m_box ?_
  refine m_assign ?_
  refine hKK _ _ ?_
  clear hKK KK
  refine awp_seq ?_
  refine awp_rseq_draw Tryz.mixed (by decide) (by kernel_rfl) fun KK hKK => ?_
  refine m_field ?_
  refine m_load ?_
  refine m_field ?_
  refine m_load ?_
  refine m_call (fun hG => cmpI_ok _ _) ?_
  refine m_field ?_
  refine m_load ?_
  refine m_field ?_
  refine m_load ?_
  refine m_call (fun hG => cmpI_ok _ _) ?_
  refine m_field ?_
  refine m_load ?_
  refine m_field ?_
  refine m_load ?_
  refine m_call (fun hG => cmpI_ok _ _) ?_
  refine m_field ?_
  refine m_load ?_
  refine m_field ?_
  refine m_load ?_
  refine m_call (fun hG => cmpS_ok _ _) ?_
  refine m_sliceN ?_
  refine m_callS (hsub := by exact ⟨sub_i4 _ _ _ _, trivial⟩) (fun hG => ho) ?_
  refine m_assign ?_
  refine hKK _ _ ?_
  clear hKK KK
  refine awp_rseq (by decide) fun KK hKK => ?_
  refine m_move ?_
  refine m_bin ?_
  refine hKK _ _ ?_
  clear hKK KK
  refine m_cond (fun hc => ?_) (fun hc => ?_)
  · rw [if_pos hc]
    refine awp_rseq (by decide) fun KK hKK => ?_
    refine m_move ?_
    refine m_assign ?_
    refine hKK _ _ ?_
    clear hKK KK
    refine awp_ret ⟨[_], ⟨⟨(by simp only [go_sem, reduceIte, Nat.reduceEqDiff, FF]), (by simp only [go_sem, reduceIte, Nat.reduceEqDiff, FF] <;> rfl)⟩, trivial⟩, ?_⟩
    simp only [go_sem, reduceIte, Nat.reduceEqDiff, FF, tupled]
    exact CV.Sub.refl _
  rw [if_neg (by rw [hc]; decide)]
  refine awp_skip ?_
  first | rw [thenQ_normal] | rw [blockQ_normal, thenQ_normal]
  refine awp_rseq (by decide) fun KK hKK => ?_
  refine m_field ?_
  refine m_load ?_
  refine m_field ?_
  refine m_load ?_
  refine m_call (fun hG => cmpF_ok a.kids b.kids (okD_len hA) (okD_len hB) (fun i h1 h2 => ih _ _ (by have := kids_sizeD a i h1; omega) (okD_kid hA h1) (okD_kid hB h2))) ?_
  refine m_assign ?_
  refine hKK _ _ ?_
  clear hKK KK
  refine awp_ret ⟨[_], ⟨⟨(by simp only [go_sem, reduceIte, Nat.reduceEqDiff, FF]), (by simp only [go_sem, reduceIte, Nat.reduceEqDiff, FF] <;> rfl)⟩, trivial⟩, ?_⟩
  simp only [go_sem, reduceIte, Nat.reduceEqDiff, FF, tupled]
  exact CV.Sub.refl _
end Go.Am

/- Contracts: how many rules stand above each other; letters, digits and names as the reference has them. No condition. -/
namespace Go.Am
open Go.Proofs
attribute [local go_sem ↓] ofL_cons ofH_cons upd_apply
attribute [local go_sem] cellsD
set_option maxHeartbeats 1000000
set_option linter.unusedSimpArgs false

def digitB (c : Int) : Bool := decide (48 ≤ c) && decide (c ≤ 57)
def lowerB (c : Int) : Bool := decide (97 ≤ c) && decide (c ≤ 122)
def upperB (c : Int) : Bool := decide (65 ≤ c) && decide (c ≤ 90)
def partB (c : Int) (big : Bool) : Bool := digitB c || c == 45 || (big && upperB c) || (!big && lowerB c)
def allB (p : Int → Bool) (s : ByteArray) : Nat → Bool
  | 0 => true
  | n + 1 => allB p s n && p (byteAt s n)
def namedB (s : ByteArray) (big : Bool) : Bool :=
  if decide ((s.size : Int) < 1) || decide ((32 : Int) < s.size) || digitB (byteAt s 0) || byteAt s 0 == 45 then false else allB (fun c => partB c big) s s.size
theorem allB_false {p : Int → Bool} {s : ByteArray} {i : Nat} (h : p (byteAt s i) = false) : ∀ n, i < n → allB p s n = false
  | n + 1, hi => by
    rw [allB]
    by_cases e : i = n
    · subst e; rw [h, Bool.and_false]
    · rw [allB_false h n (by omega), Bool.false_and]

theorem kids_one {d : Dv} (h : d.kids.length = 1) : d.kids = [d.kids.getD 0 default] := by
  match hd : d.kids, h with
  | [x], _ => rfl

variable [Glb]

theorem unary_ok (d : Dv) (hd : d.size ≤ 1000000) : APure Tryz.prog 9 [.agg (cellsD d)] (.int (unaryD d)) := by
  have FF : True := trivial
  refine apure_of Tryz.func9 rfl (by kernel_rfl) (by simp [Tryz.ntmps9]) ?_
  rw [Tryz.ntmps9]
  refine awp_rseq (by decide) fun KK hKK => ?_
  refine m_box ?_
  refine m_assign ?_
  refine hKK _ _ ?_
  clear hKK KK
  refine awp_rseq (by decide) fun KK hKK => ?_
  refine m_assign ?_
  refine hKK _ _ ?_
  clear hKK KK
  refine awp_seq ?_
  refine awp_block ?_
  refine m_for (ι := Dv × Nat) (fun p => [(1, .ptr 1 0), (3, .int p.2)]) (fun p => [(1, .box 25 ((cellsD p.1).map .c))]) (fun p => p.1.size) (fun p => p.1.size + p.2 ≤ d.size ∧ unaryD p.1 + p.2 = unaryD d) ((d, 0)) ?_ ?_
  · exact ⟨by simp, by simp⟩
  rintro ⟨x, n⟩ ⟨hx, hres⟩
  dsimp only at hx hres
  refine awp_seq ?_
  refine awp_rseq (by decide) fun KK hKK => ?_
  refine m_field ?_
  refine m_load ?_
  refine m_bin ?_
  refine m_move ?_
  refine g_field ?_
  refine g_load ?_
  refine g_len ?_
  refine g_bin ?_
  refine m_pick ?_
  refine hKK _ _ ?_
  clear hKK KK
  refine m_cond (fun hc => ?_) (fun hc => ?_)
  · simp only [Bool.and_eq_true, beq_iff_eq] at hc
    obtain ⟨hk, hl⟩ := hc
    have hl' : x.kids.length = 1 := by omega
    have h0 : 0 < x.kids.length := by omega
    have eK : (encDs x.kids).getD 0 [] = cellsD (x.kids.getD 0 default) := encDs_getD h0
    have hsz := kids_sizeD x 0 h0
    have w3 : IntKind.i64.wrap ((n : Int) + 1) = ((n + 1 : Nat) : Int) := wrap_in (by omega)
    have hu := unaryD_yes x (x.kids.getD 0 default) (by rw [hk]; rfl) (kids_one hl')
    refine awp_skip ?_
    first | rw [thenQ_normal] | rw [blockQ_normal, thenQ_normal]
    refine awp_block ?_
    have FF := And.intro w3 FF
    refine awp_rseq (by decide) fun KK hKK => ?_
    refine m_move ?_
    refine m_bin ?_
    refine m_assign ?_
    refine hKK _ _ ?_
    clear hKK KK
    have FF := And.intro eK FF
    refine awp_rlast (by decide) fun KK hKK => ?_
    refine m_field ?_
    refine m_load ?_
    refine m_index ?_
    refine m_load ?_
    first | refine m_stPtr ?_ | refine m_stRp ?_
    refine hKK _ _ ?_
    clear hKK KK
    rw [blockQ_normal]
    try rw [thenQ_normal]
    refine m_next ((x.kids.getD 0 default, n + 1)) ?_ ?_
    · exact ⟨by dsimp only; omega, by dsimp only; omega⟩
    · exact hsz
  · refine awp_exit ?_
    simp only [thenQ_exit, blockQ_exit, reduceIte, Nat.reduceEqDiff]
    try rw [thenQ_normal]
    have hu := unaryD_no x (fun hq => by
      simp only [Bool.and_eq_false_iff] at hc
      rcases hc with hc | hc
      · rw [hq.1] at hc; cases hc
      · rw [hq.2] at hc; cases hc)
    refine awp_rseq (by decide) fun KK hKK => ?_
    refine m_move ?_
    refine m_assign ?_
    refine hKK _ _ ?_
    clear hKK KK
    refine awp_ret ⟨[_], ⟨⟨(by simp only [go_sem, reduceIte, Nat.reduceEqDiff, FF]), (by simp only [go_sem, reduceIte, Nat.reduceEqDiff, FF] <;> rfl)⟩, trivial⟩, ?_⟩
    simp only [go_sem, reduceIte, Nat.reduceEqDiff, FF, tupled]
    exact CV.Sub.of_eq (by rw [← hres, hu, Int.zero_add])

theorem digit_ok (c : Int) : APure Tryz.prog 60 [.raw (.int .u8 c)] (.bool (digitB c)) := by
  have FF : True := trivial
  refine apure_of Tryz.func60 rfl (by kernel_rfl) (by simp [Tryz.ntmps60]) ?_
  rw [Tryz.ntmps60]
  refine awp_rseq (by decide) fun KK hKK => ?_
  refine m_assign ?_
  refine hKK _ _ ?_
  clear hKK KK
  refine awp_rseq (by decide) fun KK hKK => ?_
  refine m_move ?_
  refine m_bin ?_
  refine m_move ?_
  refine g_move ?_
  refine g_bin ?_
  refine m_pick ?_
  refine m_assign ?_
  refine hKK _ _ ?_
  clear hKK KK
  refine awp_ret ⟨[_], ⟨⟨(by simp only [go_sem, reduceIte, Nat.reduceEqDiff, FF]), (by simp only [go_sem, reduceIte, Nat.reduceEqDiff, FF] <;> rfl)⟩, trivial⟩, ?_⟩
  simp only [go_sem, reduceIte, Nat.reduceEqDiff, FF, tupled]
  exact CV.Sub.refl _
theorem lower_ok (c : Int) : APure Tryz.prog 84 [.raw (.int .u8 c)] (.bool (lowerB c)) := by
  have FF : True := trivial
  refine apure_of Tryz.func84 rfl (by kernel_rfl) (by simp [Tryz.ntmps84]) ?_
  rw [Tryz.ntmps84]
  refine awp_rseq (by decide) fun KK hKK => ?_
  refine m_assign ?_
  refine hKK _ _ ?_
  clear hKK KK
  refine awp_rseq (by decide) fun KK hKK => ?_
  refine m_move ?_
  refine m_bin ?_
  refine m_move ?_
  refine g_move ?_
  refine g_bin ?_
  refine m_pick ?_
  refine m_assign ?_
  refine hKK _ _ ?_
  clear hKK KK
  refine awp_ret ⟨[_], ⟨⟨(by simp only [go_sem, reduceIte, Nat.reduceEqDiff, FF]), (by simp only [go_sem, reduceIte, Nat.reduceEqDiff, FF] <;> rfl)⟩, trivial⟩, ?_⟩
  simp only [go_sem, reduceIte, Nat.reduceEqDiff, FF, tupled]
  exact CV.Sub.refl _
theorem upper_ok (c : Int) : APure Tryz.prog 83 [.raw (.int .u8 c)] (.bool (upperB c)) := by
  have FF : True := trivial
  refine apure_of Tryz.func83 rfl (by kernel_rfl) (by simp [Tryz.ntmps83]) ?_
  rw [Tryz.ntmps83]
  refine awp_rseq (by decide) fun KK hKK => ?_
  refine m_assign ?_
  refine hKK _ _ ?_
  clear hKK KK
  refine awp_rseq (by decide) fun KK hKK => ?_
  refine m_move ?_
  refine m_bin ?_
  refine m_move ?_
  refine g_move ?_
  refine g_bin ?_
  refine m_pick ?_
  refine m_assign ?_
  refine hKK _ _ ?_
  clear hKK KK
  refine awp_ret ⟨[_], ⟨⟨(by simp only [go_sem, reduceIte, Nat.reduceEqDiff, FF]), (by simp only [go_sem, reduceIte, Nat.reduceEqDiff, FF] <;> rfl)⟩, trivial⟩, ?_⟩
  simp only [go_sem, reduceIte, Nat.reduceEqDiff, FF, tupled]
  exact CV.Sub.refl _
theorem part_ok (c : Int) (big : Bool) : APure Tryz.prog 72 [.raw (.int .u8 c), .bool big] (.bool (partB c big)) := by
  have FF : True := trivial
  refine apure_of Tryz.func72 rfl (by kernel_rfl) (by simp [Tryz.ntmps72]) ?_
  rw [Tryz.ntmps72]
  cases big
  · refine awp_rseq (by decide) fun KK hKK => ?_
    refine m_assign ?_
    refine hKK _ _ ?_
    clear hKK KK
    refine awp_rseq (by decide) fun KK hKK => ?_
    refine m_move ?_
    refine m_call (fun hG => digit_ok c) ?_
    refine m_move ?_
    refine g_move ?_
    refine g_bin ?_
    refine m_pick ?_
    refine m_move ?_
    refine g_move ?_
    refine g_move ?_
    refine g_move ?_
    refine g_call (fun hG => upper_ok c) ?_
    refine g_pick ?_
    refine m_pick ?_
    refine m_move ?_
    refine g_move ?_
    refine g_not ?_
    refine g_move ?_
    refine g_move ?_
    refine g_call (fun hG => lower_ok c) ?_
    refine g_pick ?_
    refine m_pick ?_
    refine m_assign ?_
    refine hKK _ _ ?_
    clear hKK KK
    refine awp_ret ⟨[_], ⟨⟨(by simp only [go_sem, reduceIte, Nat.reduceEqDiff, FF]), (by simp only [go_sem, reduceIte, Nat.reduceEqDiff, FF] <;> rfl)⟩, trivial⟩, ?_⟩
    simp only [go_sem, reduceIte, Nat.reduceEqDiff, FF, tupled]
    exact CV.Sub.of_eq (by simp [partB])
  · refine awp_rseq (by decide) fun KK hKK => ?_
    refine m_assign ?_
    refine hKK _ _ ?_
    clear hKK KK
    refine awp_rseq (by decide) fun KK hKK => ?_
    refine m_move ?_
    refine m_call (fun hG => digit_ok c) ?_
    refine m_move ?_
    refine g_move ?_
    refine g_bin ?_
    refine m_pick ?_
    refine m_move ?_
    refine g_move ?_
    refine g_move ?_
    refine g_move ?_
    refine g_call (fun hG => upper_ok c) ?_
    refine g_pick ?_
    refine m_pick ?_
    refine m_move ?_
    refine g_move ?_
    refine g_not ?_
    refine g_move ?_
    refine g_move ?_
    refine g_call (fun hG => lower_ok c) ?_
    refine g_pick ?_
    refine m_pick ?_
    refine m_assign ?_
    refine hKK _ _ ?_
    clear hKK KK
    refine awp_ret ⟨[_], ⟨⟨(by simp only [go_sem, reduceIte, Nat.reduceEqDiff, FF]), (by simp only [go_sem, reduceIte, Nat.reduceEqDiff, FF] <;> rfl)⟩, trivial⟩, ?_⟩
    simp only [go_sem, reduceIte, Nat.reduceEqDiff, FF, tupled]
    exact CV.Sub.of_eq (by simp [partB])
theorem named_ok (s : ByteArray) (big : Bool) : APure Tryz.prog 59 [.str s, .bool big] (.bool (namedB s big)) := by
  have FF : True := trivial
  refine apure_of Tryz.func59 rfl (by kernel_rfl) (by simp [Tryz.ntmps59]) ?_
  rw [Tryz.ntmps59]
  unfold namedB
  refine awp_rseq (by decide) fun KK hKK => ?_
  refine m_assign ?_
  refine hKK _ _ ?_
  clear hKK KK
  refine awp_seq ?_
  refine awp_rseq (by decide) fun KK hKK => ?_
  refine m_move ?_
  refine m_len ?_
  refine m_bin ?_
  refine m_move ?_
  refine g_move ?_
  refine g_len ?_
  refine g_bin ?_
  refine m_pick ?_
  refine m_move ?_
  refine g_move ?_
  refine g_idx ?_
  refine g_call (fun hG => digit_ok _) ?_
  refine m_pick ?_
  refine m_move ?_
  refine g_move ?_
  refine g_idx ?_
  refine g_bin ?_
  refine m_pick ?_
  refine hKK _ _ ?_
  clear hKK KK
  refine m_cond (fun hc => ?_) (fun hc => ?_)
  · rw [if_pos hc]
    refine awp_rseq (by decide) fun KK hKK => ?_
    refine m_assign ?_
    refine hKK _ _ ?_
    clear hKK KK
    refine awp_ret ⟨[_], ⟨⟨(by simp only [go_sem, reduceIte, Nat.reduceEqDiff, FF]), (by simp only [go_sem, reduceIte, Nat.reduceEqDiff, FF] <;> rfl)⟩, trivial⟩, ?_⟩
    simp only [go_sem, reduceIte, Nat.reduceEqDiff, FF, tupled]
    exact CV.Sub.refl _
  rw [if_neg (by rw [hc]; decide)]
  have hsz : s.size ≤ 32 := by simp only [Bool.or_eq_false_iff, decide_eq_false_iff_not] at hc; omega
  clear hc
  refine awp_skip ?_
  first | rw [thenQ_normal] | rw [blockQ_normal, thenQ_normal]
  refine awp_seq ?_
  refine awp_rseq (by decide) fun KK hKK => ?_
  refine m_assign ?_
  refine hKK _ _ ?_
  clear hKK KK
  refine awp_block ?_
  refine m_for (ι := Nat) (fun i => [(0, .str s), (1, .bool big), (5, .int i)]) (fun i => []) (fun i => s.size - i) (fun i => i ≤ s.size ∧ allB (fun c => partB c big) s i = true) (0) ?_ ?_
  · exact ⟨Nat.zero_le _, rfl⟩
  rintro i ⟨hi, hres⟩
  refine awp_seq ?_
  refine awp_rseq (by decide) fun KK hKK => ?_
  refine m_move ?_
  refine m_move ?_
  refine m_len ?_
  refine m_bin ?_
  refine hKK _ _ ?_
  clear hKK KK
  refine m_cond (fun hc => ?_) (fun hc => ?_)
  · simp only [decide_eq_true_eq] at hc
    have hi' : i < s.size := by omega
    have w3 : IntKind.i64.wrap ((i : Int) + 1) = ((i + 1 : Nat) : Int) := wrap_in (by omega)
    refine awp_skip ?_
    first | rw [thenQ_normal] | rw [blockQ_normal, thenQ_normal]
    refine awp_seq (awp_block ?_)
    clear hc
    refine awp_rseq (by decide) fun KK hKK => ?_
    refine m_move ?_
    refine m_move ?_
    refine m_idx ?_
    refine m_move ?_
    refine m_call (fun hG => part_ok (byteAt s i) big) ?_
    refine m_not ?_
    refine hKK _ _ ?_
    clear hKK KK
    refine m_cond (fun hc => ?_) (fun hc => ?_)
    · refine awp_rseq (by decide) fun KK hKK => ?_
      refine m_assign ?_
      refine hKK _ _ ?_
      clear hKK KK
      refine awp_ret ⟨[_], ⟨⟨(by simp only [go_sem, reduceIte, Nat.reduceEqDiff, FF]), (by simp only [go_sem, reduceIte, Nat.reduceEqDiff, FF] <;> rfl)⟩, trivial⟩, ?_⟩
      simp only [go_sem, reduceIte, Nat.reduceEqDiff, FF, tupled]
      rw [allB_false (p := fun c => partB c big) (i := i) (by simpa using hc) s.size hi']
      exact CV.Sub.refl _
    refine awp_skip ?_
    first | rw [thenQ_normal] | rw [blockQ_normal, thenQ_normal]
    have FF := And.intro w3 FF
    refine awp_rlast (by decide) fun KK hKK => ?_
    refine m_move ?_
    refine m_bin ?_
    refine m_assign ?_
    refine hKK _ _ ?_
    clear hKK KK
    try rw [thenQ_normal]
    refine m_next (i + 1) ?_ ?_
    · exact ⟨hi', by rw [allB, hres, Bool.true_and]; simpa using hc⟩
    · omega
  · refine awp_exit ?_
    simp only [thenQ_exit, blockQ_exit, reduceIte, Nat.reduceEqDiff]
    try rw [thenQ_normal]
    have hi' : i = s.size := by simp only [decide_eq_false_iff_not] at hc; omega
    refine awp_rseq (by decide) fun KK hKK => ?_
    refine m_assign ?_
    refine hKK _ _ ?_
    clear hKK KK
    refine awp_ret ⟨[_], ⟨⟨(by simp only [go_sem, reduceIte, Nat.reduceEqDiff, FF]), (by simp only [go_sem, reduceIte, Nat.reduceEqDiff, FF] <;> rfl)⟩, trivial⟩, ?_⟩
    simp only [go_sem, reduceIte, Nat.reduceEqDiff, FF, tupled]
    rw [hi'] at hres
    rw [hres]
    exact CV.Sub.refl _
theorem rname_ok (s : ByteArray) : APure Tryz.prog 44 [.str s] (.bool (namedB s false)) := by
  have FF : True := trivial
  refine apure_of Tryz.func44 rfl (by kernel_rfl) (by simp [Tryz.ntmps44]) ?_
  rw [Tryz.ntmps44]
  refine awp_rseq (by decide) fun KK hKK => ?_
  refine m_assign ?_
  refine hKK _ _ ?_
  clear hKK KK
  refine awp_rseq (by decide) fun KK hKK => ?_
  refine m_move ?_
  refine m_call (fun hG => named_ok s false) ?_
  refine m_assign ?_
  refine hKK _ _ ?_
  clear hKK KK
  refine awp_ret ⟨[_], ⟨⟨(by simp only [go_sem, reduceIte, Nat.reduceEqDiff, FF]), (by simp only [go_sem, reduceIte, Nat.reduceEqDiff, FF] <;> rfl)⟩, trivial⟩, ?_⟩
  simp only [go_sem, reduceIte, Nat.reduceEqDiff, FF, tupled]
  exact CV.Sub.refl _
end Go.Am

/- Contracts: whether a derivation can have been parsed. No condition. -/
namespace Go.Am
open Go.Proofs
attribute [local go_sem ↓] ofL_cons ofH_cons upd_apply
attribute [local go_sem] cellsD
set_option maxHeartbeats 2000000
set_option linter.unusedSimpArgs false

def wholeC (d : Dv) (deep : Int) : Bool := deep == 0 || !namedB d.name false || decide (d.kind < 0) || decide (2 < d.kind) || !((d.kind == 0) == (((d.kids.length : Nat) : Int) == 0)) || (d.kind == 1 && ((d.kids.length : Nat) : Int) != 1)
mutual
def wholeD : Dv → Int → Bool
  | .mk k n f t ks, deep => if wholeC (.mk k n f t ks) deep then false else wholeLs ks (deep - 1)
def wholeLs : List Dv → Int → Bool
  | [], _ => true
  | d :: r, deep => wholeD d deep && wholeLs r deep
end
theorem wholeD_eq (d : Dv) (deep : Int) : wholeD d deep = if wholeC d deep then false else wholeLs d.kids (deep - 1) := by
  obtain ⟨k, n, f, t, ks⟩ := d
  rw [wholeD]
  rfl

theorem neq_bool (a b : Bool) : RawBin Tryz.prog .neq 4 (.bool a) (.bool b) (.bool (!(a == b))) := by
  intro y z w
  have h := run_neq_bool (P := Tryz.prog) w 4 a b Tryz.underlying4
  simp [go_sem, h]

variable [Glb]

end Go.Am

