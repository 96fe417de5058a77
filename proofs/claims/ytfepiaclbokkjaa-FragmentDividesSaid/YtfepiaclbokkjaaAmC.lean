/- The abstract machine, part 12: how a walk is typed. Generic over the program; no condition. -/
import Derived.Test.YtfepiaclbokkjaaAmB
import Derived.IntWalk
namespace Go.Am
open Go.RowKit

theorem upd_apply {α : Type} (s : Nat → α) (t : Nat) (x : α) (i : Nat) : upd s t x i = if i = t then x else s i := rfl
theorem keepS_apply (ks : List Nat) (s : Slots) (t : Nat) : keepS ks s t = if t ∈ ks then s t else .c .any := rfl
theorem keepH_apply (os : List Nat) (h : AH) (o : Nat) : keepH os h o = if o ∈ os then h o else .gone := rfl
theorem thenQ_normal (n : Slots → AH → Prop) (Q : APost) (s : Slots) (h : AH) : thenQ n Q .normal s h = n s h := rfl
theorem thenQ_ret (n : Slots → AH → Prop) (Q : APost) (s : Slots) (h : AH) : thenQ n Q .ret s h = Q .ret s h := rfl
theorem thenQ_exit (n : Slots → AH → Prop) (Q : APost) (i : Nat) (s : Slots) (h : AH) : thenQ n Q (.exit i) s h = Q (.exit i) s h := rfl
theorem blockQ_normal (i : Nat) (Q : APost) (s : Slots) (h : AH) : blockQ i Q .normal s h = Q .normal s h := rfl
theorem blockQ_ret (i : Nat) (Q : APost) (s : Slots) (h : AH) : blockQ i Q .ret s h = Q .ret s h := rfl
theorem blockQ_exit (i j : Nat) (Q : APost) (s : Slots) (h : AH) : blockQ i Q (.exit j) s h = if j = i then Q .normal s h else Q (.exit j) s h := rfl

section
variable {P : Program} {nt : Nat} {Q : APost} {s : Slots} {h : AH}

/-- A region, and what follows it behind a name. -/
theorem awp_rseq {id : Nat} {ops : List Oper} {y : Code} (hs : slotsOk nt ops = true) (hr : ∀ K : Slots → AH → Prop, (∀ s h, AWp P nt y Q s h → K s h) → aRun P ops.toArray K ops s h) : AWp P nt (.seq (.region id ops.toArray false) y) Q s h :=
  awp_seq (awp_region hs (hr _ fun _ _ q => q))

theorem awp_rseq_draw (hf : P.follows .mixedOrders = true) {id : Nat} {ops : List Oper} {y : Code} (hs : slotsOk nt ops = true) (hd : drawOk ops.toArray = true) (hr : ∀ K : Slots → AH → Prop, (∀ s h, AWp P nt y Q s h → K s h) → aRun P ops.toArray K ops s h) :
    AWp P nt (.seq (.region id ops.toArray true) y) Q s h :=
  awp_seq (awp_region_draw hf hs hd (hr _ fun _ _ q => q))

theorem awp_rseq_drawF (hf : P.follows .mixedOrders = true) (free : List (Nat × Nat)) {id : Nat} {ops : List Oper} {y : Code} (hs : slotsOk nt ops = true) (hd : drawOkF free ops.toArray = true) (hr : ∀ K : Slots → AH → Prop, (∀ s h, freeFin free ops.toArray s = true → AWp P nt y Q s h → K s h) → aRun P ops.toArray K ops s h) :
    AWp P nt (.seq (.region id ops.toArray true) y) Q s h :=
  awp_seq (awp_region_drawF hf free hs hd (hr _ fun _ _ f q => ⟨f, q⟩))

/-- The last region of a piece of code. -/
theorem awp_rlast {id : Nat} {ops : List Oper} (hs : slotsOk nt ops = true) (hr : ∀ K : Slots → AH → Prop, (∀ s h, Q .normal s h → K s h) → aRun P ops.toArray K ops s h) : AWp P nt (.region id ops.toArray false) Q s h :=
  awp_region hs (hr _ fun _ _ q => q)
theorem awp_rlast_draw (hf : P.follows .mixedOrders = true) {id : Nat} {ops : List Oper} (hs : slotsOk nt ops = true) (hd : drawOk ops.toArray = true) (hr : ∀ K : Slots → AH → Prop, (∀ s h, Q .normal s h → K s h) → aRun P ops.toArray K ops s h) :
    AWp P nt (.region id ops.toArray true) Q s h :=
  awp_region_draw hf hs hd (hr _ fun _ _ q => q)
end

/-- A number of 64 bits that fits is itself. -/
theorem wrap_in {n : Int} (h : -9223372036854775808 ≤ n ∧ n ≤ 9223372036854775807) : IntKind.i64.wrap n = n := by
  rw [IntKind.wrap_i64]
  omega

theorem strip_c (x : CV) : (AV.c x).strip = .c x := rfl
theorem strip_agg (x : List AV) : (AV.agg x).strip = .agg x := rfl
theorem strip_pim (x : List CV) : (AV.pim x).strip = .pim x := rfl
theorem strip_ptr (o k : Nat) : (AV.ptr o k).strip = .ptr o k := rfl
theorem strip_rp (o L i k : Nat) : (AV.rp o L i k).strip = .rp o L i k := rfl
theorem strip_own (o L : Nat) : (AV.own o L).strip = .own o L := rfl
theorem strip_osub (o L i k : Nat) : (AV.osub o L i k).strip = .osub o L i k := rfl
theorem strip_emp : AV.emp.strip = .emp := rfl
theorem strip_when (b : Bool) (x : AV) : (AV.when b x).strip = x.strip := rfl
theorem wh_c (x : CV) : (AV.c x).wh = true := rfl
theorem wh_agg (x : List AV) : (AV.agg x).wh = true := rfl
theorem wh_pim (x : List CV) : (AV.pim x).wh = true := rfl
theorem wh_ptr (o k : Nat) : (AV.ptr o k).wh = true := rfl
theorem wh_rp (o L i k : Nat) : (AV.rp o L i k).wh = true := rfl
theorem wh_own (o L : Nat) : (AV.own o L).wh = true := rfl
theorem wh_osub (o L i k : Nat) : (AV.osub o L i k).wh = true := rfl
theorem wh_emp : AV.emp.wh = true := rfl
theorem wh_when (b : Bool) (x : AV) : (AV.when b x).wh = (b && x.wh) := rfl

theorem ev_tmp (s : Slots) (t : Nat) : ev s (.tmp t) = s t := rfl
theorem ev_const (s : Slots) (v : Value) : ev s (.const v) = constAV1 v := rfl
theorem const_int (k : IntKind) (n : Int) : constAV1 (.int k n) = .c (.raw (.int k n)) := rfl
theorem const_bool (b : Bool) : constAV1 (.bool b) = .c (.raw (.bool b)) := rfl
theorem const_str (b : ByteArray) : constAV1 (.string b) = .c (.raw (.string b)) := rfl
theorem const_nil : constAV1 (.slice none 0 0) = .emp := rfl

theorem bin_lss (a b : Int) : bin .lss (.int .i64 a) (.int .i64 b) = some (.bool (decide (a < b))) := rfl
theorem bin_leq (a b : Int) : bin .leq (.int .i64 a) (.int .i64 b) = some (.bool (decide (a ≤ b))) := rfl
theorem bin_gtr (a b : Int) : bin .gtr (.int .i64 a) (.int .i64 b) = some (.bool (decide (b < a))) := rfl
theorem bin_geq (a b : Int) : bin .geq (.int .i64 a) (.int .i64 b) = some (.bool (decide (b ≤ a))) := rfl
theorem bin_eql (a b : Int) : bin .eql (.int .i64 a) (.int .i64 b) = some (.bool (a == b)) := rfl
theorem bin_neq (a b : Int) : bin .neq (.int .i64 a) (.int .i64 b) = some (.bool (a != b)) := rfl
theorem bin_add (a b : Int) : bin .add (.int .i64 a) (.int .i64 b) = some (.int .i64 (IntKind.i64.wrap (a + b))) := rfl
theorem bin_sub (a b : Int) : bin .sub (.int .i64 a) (.int .i64 b) = some (.int .i64 (IntKind.i64.wrap (a - b))) := rfl
theorem bin_rem (a b : Int) : bin .rem (.int .i64 a) (.int .i64 b) = if b = 0 then none else some (.int .i64 (a.tmod b)) := rfl
theorem bin_seql (a b : ByteArray) : bin .eql (.string a) (.string b) = some (.bool (a.toList == b.toList)) := rfl
theorem bin_sneq (a b : ByteArray) : bin .neq (.string a) (.string b) = some (.bool !(a.toList == b.toList)) := rfl
theorem bin_slss (a b : ByteArray) : bin .lss (.string a) (.string b) = some (.bool (Op.bytesLess a.toList b.toList)) := rfl

theorem addOff_pim (k : Nat) (xs : List CV) : addOff k (.pim xs) = some (.pim (xs.drop k)) := rfl
theorem addOff_ptr (k o j : Nat) : addOff k (.ptr o j) = some (.ptr o (j + k)) := rfl
theorem addOff_rp (k o L i j : Nat) : addOff k (.rp o L i j) = some (.rp o L i (j + k)) := rfl
theorem view_c (h : AH) (x : CV) : (AV.c x).view h = x := rfl
theorem view_emp (h : AH) : AV.emp.view h = .im 0 0 fun _ => [] := rfl
theorem view_agg (h : AH) (xs : List AV) : (AV.agg xs).view h = .agg (xs.map (AV.view1 h)) := rfl
theorem view1_c (h : AH) (x : CV) : (AV.c x).view1 h = x := rfl
theorem view1_emp (h : AH) : AV.emp.view1 h = .im 0 0 fun _ => [] := rfl
theorem live_c (h : AH) (x : CV) : (AV.c x).live h = true := rfl
theorem live_emp (h : AH) : AV.emp.live h = true := rfl
theorem live_agg (h : AH) (xs : List AV) : (AV.agg xs).live h = xs.all fun x => x.live1 h := rfl
theorem live1_c (h : AH) (x : CV) : (AV.c x).live1 h = true := rfl
theorem live1_emp (h : AH) : AV.emp.live1 h = true := rfl
theorem closedA_c (x : CV) : (AV.c x).closedA = true := rfl
theorem closedA_emp : AV.emp.closedA = true := rfl
theorem closedA_agg (xs : List AV) : (AV.agg xs).closedA = xs.all fun x => x.closed1.isSome := rfl

/-- A call by its contract, in the middle of a region. -/
theorem callx {P : Program} {f : FuncId} {vs cs : List CV} {r : CV} {C : Prop} {R : AV → Prop} (hp : APure P f cs r) (hs : Subs vs cs) (hf : r.flat = true ∨ C) (hr : R (.c r)) :
    ∃ x, (∃ cs, Subs vs cs ∧ ∃ r, APure P f cs r ∧ (r.flat = true ∨ C) ∧ x = .c r) ∧ R x := ⟨_, ⟨cs, hs, r, hp, hf, rfl⟩, hr⟩
theorem callc {P : Program} {f : FuncId} {vs cs : List CV} {r : CV} {R : AV → Prop} (hp : APure P f cs r) (hs : Subs vs cs) (hr : R (.c r)) :
    ∃ x, (∃ cs, Subs vs cs ∧ ∃ r, APure P f cs r ∧ x = .c r) ∧ R x := ⟨_, ⟨cs, hs, r, hp, rfl⟩, hr⟩
/-- The same, under a guard. -/
theorem callcg {P : Program} {f : FuncId} {vs cs : List CV} {r : CV} {G : Prop} {R : AV → Prop} {w : AV → AV} (hp : G → APure P f cs r) (hs : Subs vs cs) (hr : R (w (.c r))) :
    ∃ x, (∃ y, (∃ cs, Subs vs cs ∧ ∃ r, (G → APure P f cs r) ∧ y = .c r) ∧ x = w y) ∧ R x := ⟨_, ⟨_, ⟨cs, hs, r, hp, rfl⟩, rfl⟩, hr⟩
theorem callxg {P : Program} {f : FuncId} {vs cs : List CV} {r : CV} {G : Prop} {C : Prop} {R : AV → Prop} {w : AV → AV} (hp : G → APure P f cs r) (hs : Subs vs cs) (hf : r.flat = true ∨ C) (hr : R (w (.c r))) :
    ∃ x, (∃ y, (∃ cs, Subs vs cs ∧ ∃ r, (G → APure P f cs r) ∧ (r.flat = true ∨ C) ∧ y = .c r) ∧ x = w y) ∧ R x := ⟨_, ⟨_, ⟨cs, hs, r, hp, hf, rfl⟩, rfl⟩, hr⟩

theorem arr1_eq {α : Type} (a b : α) : (#[a] = #[b]) = (a = b) := by simp
theorem arr2_eq {α : Type} (a b c d : α) : (#[a, b] = #[c, d]) = (a = c ∧ b = d) := by simp
theorem beq_tt (b : Bool) : (b == true) = b := by cases b <;> rfl
theorem beq_ff (b : Bool) : (b == false) = !b := by cases b <;> rfl

/-! One operation at a time. -/
section
variable {P : Program} {ops : Array Oper} {K : Slots → AH → Prop} {r : List Oper} {s : Slots} {h : AH} {x : AV} {d : Nat} {op : Op} {ty : TypeId} {pos : String} {af : Array Edge}

theorem st0 (hc : cls op = 0) (hx : aop0 P op (ev s) true x) (hn : aRun P ops K r (upd s d x) h) : aRun P ops K (⟨some d, op, ty, pos, af, none⟩ :: r) s h := by
  refine ⟨x, none, ?_, hn⟩
  unfold aStep aEx
  simp only [hc]
  exact ⟨hx, trivial⟩
theorem st1 (hc : cls op = 1) (hx : aop1 P op (ev s) h true x) (hn : aRun P ops K r (upd s d x) h) : aRun P ops K (⟨some d, op, ty, pos, af, none⟩ :: r) s h := by
  refine ⟨x, none, ?_, hn⟩
  unfold aStep aEx
  simp only [hc]
  exact ⟨hx, trivial⟩
theorem st2 {ob : Nat} {x' : AObj} (hc : cls op = 2) (hx : aop2 P op (ev s) h (some d) ob x' x) (hn : aRun P ops K r (upd s d x) (upd h ob x')) : aRun P ops K (⟨some d, op, ty, pos, af, none⟩ :: r) s h := by
  refine ⟨x, some (ob, x'), ?_, hn⟩
  unfold aStep aEx
  simp only [hc]
  exact ⟨ob, x', hx, rfl⟩
theorem st2n {ob : Nat} {x' : AObj} (hc : cls op = 2) (hx : aop2 P op (ev s) h none ob x' (.c .any)) (hn : aRun P ops K r s (upd h ob x')) : aRun P ops K (⟨none, op, ty, pos, af, none⟩ :: r) s h := by
  refine ⟨.c .any, some (ob, x'), ?_, hn⟩
  unfold aStep aEx
  simp only [hc]
  exact ⟨ob, x', hx, rfl⟩
theorem st3 {x' : AObj} (hc : cls op = 3) (hgo : h d = .gone) (hx : aop3 P op (ev s) d x' x) (hn : aRun P ops K r (upd s d x) (upd h d x')) : aRun P ops K (⟨some d, op, ty, pos, af, none⟩ :: r) s h := by
  refine ⟨x, some (d, x'), ?_, hn⟩
  unfold aStep aEx
  simp only [hc]
  exact ⟨d, x', rfl, hgo, hx, rfl⟩
theorem sg0 {j t : Nat} {want g G : Bool} {u : AV} (hc : cls op = 0) (ht : (ops[j]?).bind (·.dst) = some t) (hs : s t = u) (hu : u.strip = .bool g) (hG : (u.wh && g == want) = G) (hx : aop0 P op (ev s) G x) (hn : aRun P ops K r (upd s d (.when G x)) h) : aRun P ops K (⟨some d, op, ty, pos, af, some (j, want)⟩ :: r) s h := by
  subst hs hG
  refine ⟨.when ((s t).wh && g == want) x, none, ?_, hn⟩
  unfold aStep
  refine ⟨rfl, t, g, x, ht, hu, fun e => ?_, rfl⟩
  rw [e] at hx
  simp only [hc]
  exact hx
theorem sg1 {j t : Nat} {want g G : Bool} {u : AV} (hc : cls op = 1) (ht : (ops[j]?).bind (·.dst) = some t) (hs : s t = u) (hu : u.strip = .bool g) (hG : (u.wh && g == want) = G) (hx : aop1 P op (ev s) h G x) (hn : aRun P ops K r (upd s d (.when G x)) h) : aRun P ops K (⟨some d, op, ty, pos, af, some (j, want)⟩ :: r) s h := by
  subst hs hG
  refine ⟨.when ((s t).wh && g == want) x, none, ?_, hn⟩
  unfold aStep
  refine ⟨rfl, t, g, x, ht, hu, fun e => ?_, rfl⟩
  rw [e] at hx
  simp only [hc]
  exact hx
/-- Not wanted: passed over. -/
theorem sgF {j t : Nat} {want g : Bool} {u : AV} (ht : (ops[j]?).bind (·.dst) = some t) (hs : s t = u) (hu : u.strip = .bool g) (hG : (u.wh && g == want) = false) (hn : aRun P ops K r (upd s d (.when false (.bool false))) h) : aRun P ops K (⟨some d, op, ty, pos, af, some (j, want)⟩ :: r) s h := by
  subst hs
  refine ⟨.when ((s t).wh && g == want) (.bool false), none, ?_, ?_⟩
  · unfold aStep
    refine ⟨rfl, t, g, .bool false, ht, hu, fun e => ?_, rfl⟩
    rw [e] at hG
    cases hG
  · rw [hG]
    exact hn
end

attribute [go_sem] aop0 aop1 aop2 aop3 ev_tmp ev_const const_int const_bool const_str const_nil keepS_apply keepH_apply strip_c strip_agg strip_pim strip_ptr strip_rp strip_own strip_osub strip_emp strip_when wh_c wh_agg wh_pim wh_ptr wh_rp wh_own wh_osub wh_emp wh_when bin_lss bin_leq bin_gtr bin_geq bin_eql bin_neq bin_add bin_sub bin_rem bin_seql bin_sneq bin_slss AV.rawAgg rawsL closedL AV.closed1 addOff_pim addOff_ptr addOff_rp
attribute [go_sem] view_c view_emp view_agg view1_c view1_emp live_c live_emp live_agg live1_c live1_emp closedA_c closedA_emp closedA_agg arr1_eq arr2_eq beq_tt beq_ff loadC loadA AV.cells entryS setL setLC
end Go.Am
