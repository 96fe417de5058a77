/- The abstract machine, part 2: how a state fares under a step; tables of types; the plain operations and their soundness. Generic over the program; no condition. -/
import Derived.Test.YtfepiaclbokkjaaAm1
import Derived.Laws.Entries
import Derived.Laws.Build
import Derived.WalkKit
namespace Go.Am
open Go.RowKit

section
variable {w0 w w' : World} {Z : Nat → Prop} {nt : Nat} {s : Nat → AV} {h : AH} {gs : Gs} {a : Act}

theorem later_of_below {Z : Nat → Prop} (hb : Below w.heap.size w w') : Later w w' Z Z :=
  ⟨hb.size, fun b _ hl => hb.block b hl, fun _ hz _ => hz⟩

theorem RObj.later {w w' : World} {Z Z' : Nat → Prop} {h h' : AH} {gs gs' : Gs} {o : Nat} {x : AObj} (hx : RObj w Z h gs o x) (hw : Later w w' Z Z') (hr : Refs h gs h' gs')
    (hg : gs' o = gs o) (hb : ∀ b K, gs o = some (b, K) → w'.heap[b]? = w.heap[b]?) : RObj w' Z' h' gs' o x := by
  cases x with
  | gone => exact hg.trans hx
  | box ty cells =>
    obtain ⟨b, K, cur, e1, e2, e3, e4, e5⟩ := hx
    exact ⟨b, K, cur, hg.trans e1, (hb b K e1).trans e2, e3, e4, fun j hj => (e5 j hj).later hw hr⟩
  | row ty sz n f =>
    rcases hx with ⟨e1, e2⟩ | ⟨b, K, cur, e1, e2, e3, e4, e5, e6, e7, e8⟩
    · exact .inl ⟨hg.trans e1, e2⟩
    · exact .inr ⟨b, K, cur, hg.trans e1, (hb b K e1).trans e2, e3, e4, e5, e6, e7, fun i j hi hj => (e8 i j hi hj).later hw⟩

/-- New memory alone. -/
theorem RelG.grow (R : RelG w0 Z nt s h gs a w) (hb : Below w.heap.size w w') : RelG w0 Z nt s h gs a w' where
  below := R.below.trans (hb.mono R.below.size)
  zlt := R.zlt
  fresh o b K e := ⟨(R.fresh o b K e).1, Nat.lt_of_lt_of_le (R.fresh o b K e).2 hb.size⟩
  inj := R.inj
  objs o := (R.objs o).later (later_of_below hb) (Refs.refl _ _) rfl fun b K e => hb.block b (R.fresh o b K e).2
  slots t := (R.slots t).later (later_of_below hb) (Refs.refl _ _)
  size := R.size
  defers := R.defers

theorem RelG.put (R : RelG w0 Z nt s h gs a w) {d : Nat} (hd : d < nt) {v : Value} {x : AV} (hx : RA w (Zf Z gs) h gs v x) : RelG w0 Z nt (upd s d x) h gs (a.put (some d) v) w where
  below := R.below
  zlt := R.zlt
  fresh := R.fresh
  inj := R.inj
  objs := R.objs
  slots t := by
    rw [put_getD (by rw [R.size]; exact hd)]
    unfold upd
    split
    · exact hx
    · exact R.slots t
  size := by rw [put_size]; exact R.size
  defers := by rw [put_def]; exact R.defers

theorem RelG.putO (R : RelG w0 Z nt s h gs a w) {d : Option Tmp} (hd : ∀ t, d = some t → t < nt) {v : Value} {x : AV} (hx : RA w (Zf Z gs) h gs v x) : RelG w0 Z nt (updO s d x) h gs (a.put d v) w := by
  cases d with
  | none => exact R
  | some t => exact R.put (hd t rfl) hx

/-- One object changes (or comes to be). -/
theorem RelG.eff (R : RelG w0 Z nt s h gs a w) (o : Nat) (x' : AObj) (g' : Option (Nat × Nat))
    (hos : w'.os = w.os) (htape : w'.tape = w.tape) (hout : w'.output = w.output) (hsz : w.heap.size ≤ w'.heap.size)
    (hblk : ∀ k, k < w.heap.size → (∀ K, gs o ≠ some (k, K)) → w'.heap[k]? = w.heap[k]?)
    (hg : g' = gs o ∨ ∃ b K, g' = some (b, K) ∧ w.heap.size ≤ b ∧ b < w'.heap.size)
    (hbox : ∀ ty cells, h o = .box ty cells → (∃ ty' cells', x' = .box ty' cells') ∧ g' = gs o)
    (hrow : ∀ ty sz n f, h o = .row ty sz n f → ∃ n' f', x' = .row ty sz n' f' ∧ n ≤ n' ∧ (n' = n → g' = gs o))
    (hx : Later w w' (Zf Z gs) (Zf Z (upd gs o g')) → Refs h gs (upd h o x') (upd gs o g') → RObj w' (Zf Z (upd gs o g')) (upd h o x') (upd gs o g') o x') :
    RelG w0 Z nt s (upd h o x') (upd gs o g') a w' := by
  have hlt : ∀ k, k < w0.heap.size → ∀ K, gs o ≠ some (k, K) := fun k hk K e => by have := (R.fresh o k K e).1; omega
  have hL : Later w w' (Zf Z gs) (Zf Z (upd gs o g')) := by
    refine ⟨hsz, fun b hb hl => hblk b hl fun K e => hb (.inr ⟨o, K, e⟩), fun b hb hl => ?_⟩
    rcases hb with hb | ⟨o', K, e⟩
    · exact .inl hb
    · by_cases ho : o' = o
      · subst ho
        rw [upd_same] at e
        rcases hg with hg | ⟨b', K', e2, hb', _⟩
        · exact .inr ⟨o', K, hg ▸ e⟩
        · rw [e] at e2
          simp only [Option.some.injEq, Prod.mk.injEq] at e2
          omega
      · rw [upd_ne _ _ _ _ ho] at e
        exact .inr ⟨o', K, e⟩
  have hr : Refs h gs (upd h o x') (upd gs o g') := by
    refine ⟨fun o' ty cells e => ?_, fun o' ty sz n f e => ?_⟩
    · by_cases ho : o' = o
      · subst ho
        rw [upd_same, upd_same]
        exact hbox ty cells e
      · rw [upd_ne _ _ _ _ ho, upd_ne _ _ _ _ ho]
        exact ⟨⟨ty, cells, e⟩, rfl⟩
    · by_cases ho : o' = o
      · subst ho
        rw [upd_same, upd_same]
        exact hrow ty sz n f e
      · rw [upd_ne _ _ _ _ ho, upd_ne _ _ _ _ ho]
        exact ⟨n, f, e, Nat.le_refl _, fun _ => rfl⟩
  refine ⟨?_, R.zlt, ?_, ?_, ?_, fun t => (R.slots t).later hL hr, R.size, R.defers⟩
  · exact R.below.trans ⟨hos, htape, hout, hsz, fun k hk => hblk k (Nat.lt_of_lt_of_le hk R.below.size) (hlt k hk)⟩
  · intro o' b K e
    by_cases ho : o' = o
    · subst ho
      rw [upd_same] at e
      rcases hg with hg | ⟨b', K', e2, hb', hb2⟩
      · have := R.fresh o' b K (hg ▸ e)
        omega
      · rw [e] at e2
        simp only [Option.some.injEq, Prod.mk.injEq] at e2
        have := R.below.size
        omega
    · rw [upd_ne _ _ _ _ ho] at e
      have := R.fresh o' b K e
      omega
  · intro o1 o2 b K1 K2 e1 e2
    have hfr : ∀ o' b K, o' ≠ o → gs o' = some (b, K) → ∀ K', upd gs o g' o = some (b, K') → False := by
      intro o' b K ho e K' e'
      rw [upd_same] at e'
      rcases hg with hg | ⟨b', K'', e2, hb', hb2⟩
      · exact ho (R.inj o' o b K K' e (hg ▸ e'))
      · rw [e'] at e2
        simp only [Option.some.injEq, Prod.mk.injEq] at e2
        have := (R.fresh o' b K e).2
        omega
    by_cases h1 : o1 = o <;> by_cases h2 : o2 = o
    · omega
    · subst h1
      rw [upd_ne _ _ _ _ h2] at e2
      exact (hfr o2 b K2 h2 e2 K1 e1).elim
    · subst h2
      rw [upd_ne _ _ _ _ h1] at e1
      exact (hfr o1 b K1 h1 e1 K2 e2).elim
    · rw [upd_ne _ _ _ _ h1] at e1
      rw [upd_ne _ _ _ _ h2] at e2
      exact R.inj o1 o2 b K1 K2 e1 e2
  · intro o'
    by_cases ho : o' = o
    · subst ho
      rw [upd_same]
      exact hx hL hr
    · rw [upd_ne h o o' x' ho]
      refine (R.objs o').later hL hr (upd_ne _ _ _ _ ho) fun b K e => hblk b (R.fresh o' b K e).2 fun K' e' => ho (R.inj o' o b K K' e e')
end

/-- What the operations ask of a type. -/
structure TI where
  agg : Bool
  size : Nat
  bytes : Nat
  elem : TypeId
  slice : Bool
  fields : List (Nat × Nat)
  zero : List Value

/-- The zero value is laid of as many values of one cell as the type has cells. -/
def zchk (i : TypeInfo) : Bool := match i.zero with
  | some z => z.cells.size == i.size && z.cells.all fun v => v.oneCell'
  | none => true

def tinfo (P : Program) (t : TypeId) : Option TI :=
  match P.info? t, P.underlying t with
  | some i, some d => if zchk i then some {
      agg := match d with | .struct _ => true | .array _ _ => true | _ => false
      size := i.size
      bytes := i.bytes
      elem := match d with | .slice e => e | _ => 0
      slice := match d with | .slice _ => true | _ => false
      fields := match d with | .struct fs => fs.toList.map fun f => (f.offset, P.cellsOf f.type) | _ => []
      zero := match i.zero with | some v => v.cells.toList | none => [] } else none
  | _, _ => none

theorem tinfo_some {P : Program} {t : TypeId} {i : TI} (h : tinfo P t = some i) : ∃ j d, P.info? t = some j ∧ P.underlying t = some d ∧ i.size = j.size ∧ i.bytes = j.bytes ∧
    i.agg = (match d with | .struct _ => true | .array _ _ => true | _ => false) ∧ i.elem = (match d with | .slice e => e | _ => 0) ∧
    i.slice = (match d with | .slice _ => true | _ => false) ∧ i.fields = (match d with | .struct fs => fs.toList.map (fun f => (f.offset, P.cellsOf f.type)) | _ => []) ∧
    i.zero = (match j.zero with | some v => v.cells.toList | none => []) := by
  unfold tinfo at h
  split at h
  · rename_i j d h1 h2
    split at h
    · injection h with h
      subst h
      exact ⟨j, d, h1, h2, rfl, rfl, rfl, rfl, rfl, rfl, rfl⟩
    · cases h
  · cases h

theorem tinfo_zero {P : Program} {t : TypeId} {i : TI} {j : TypeInfo} {z : Value} (h : tinfo P t = some i) (hj : P.info? t = some j) (hz : j.zero = some z) : z.cells.size = j.size ∧ ∀ v ∈ z.cells.toList, v.oneCell' = true := by
  unfold tinfo at h
  split at h
  · rename_i j' d h1 h2
    rw [h1] at hj
    injection hj with hj
    subst hj
    split at h
    · rename_i hc
      unfold zchk at hc
      rw [hz] at hc
      simp only [Bool.and_eq_true, beq_iff_eq, Array.all_eq_true_iff_forall_mem] at hc
      exact ⟨hc.1, fun v hv => hc.2 v (Array.mem_toList_iff.1 hv)⟩
    · cases h
  · cases h

def constAV1 : Value → AV
  | .slice none 0 0 => .emp
  | v => .c (.raw v)
def constAV : Value → AV
  | .agg cs => .agg (cs.toList.map constAV1)
  | v => constAV1 v

def ev (s : Nat → AV) : Operand → AV
  | .tmp t => s t
  | .const v => constAV1 v
  | .global g => .c (.raw (.pointer (some ⟨g, 0, none⟩)))
  | .func f => .c (.raw (.func (.func f) #[] #[]))

theorem constAV1_ok (w : World) (Z : Nat → Prop) (h : AH) (gs : Gs) (v : Value) : RA w Z h gs v (constAV1 v) := by
  unfold constAV1
  split
  · exact .emp _
  · exact .c _ _ (.raw _)

theorem ev_ok {w0 w : World} {Z : Nat → Prop} {nt : Nat} {s : Nat → AV} {h : AH} {gs : Gs} {a : Act} (R : RelG w0 Z nt s h gs a w) (x : Operand) : RA w (Zf Z gs) h gs (a.eval x) (ev s x) := by
  cases x with
  | tmp t => exact R.slots t
  | const v => exact constAV1_ok _ _ _ _ v
  | global g => exact .c _ _ (.raw _)
  | func f => exact .c _ _ (.raw _)

abbrev AV.int (n : Int) : AV := .c (.raw (.int .i64 n))
abbrev AV.bool (b : Bool) : AV := .c (.raw (.bool b))
abbrev AV.str (b : ByteArray) : AV := .c (.raw (.string b))
abbrev CV.int (n : Int) : CV := .raw (.int .i64 n)
abbrev CV.bool (b : Bool) : CV := .raw (.bool b)
abbrev CV.str (b : ByteArray) : CV := .raw (.string b)

section
variable {w : World} {Z : Nat → Prop} {h : AH} {gs : Gs} {v : Value} {x : AV}
theorem RC.raw_inv {u : Value} (hx : RC w Z v (.raw u)) : v = u := by cases hx; rfl
theorem RA.raw_inv {u : Value} (hx : RA w Z h gs v (.c (.raw u))) : v = u := by
  cases hx with
  | c _ _ hx => exact hx.raw_inv
theorem RA.raw_of {u : Value} (hx : RA w Z h gs v x) (hw : x.wh = true) (he : x.strip = .c (.raw u)) : v = u := by
  have := hx.strip hw
  rw [he] at this
  exact this.raw_inv
theorem RA.c_inv {y : CV} (hx : RA w Z h gs v (.c y)) : RC w Z v y := by
  cases hx with
  | c _ _ hx => exact hx
theorem RA.c_of {y : CV} (hx : RA w Z h gs v x) (hw : x.wh = true) (he : x.strip = .c y) : RC w Z v y := by
  have := hx.strip hw
  rw [he] at this
  exact this.c_inv
end

/-- The binary operators on plain values. -/
def bin (op : BinOp) : Value → Value → Option Value
  | .int k a, .int k' b => if k = k' then match op with
      | .add => some (.int k (k.wrap (a + b)))
      | .sub => some (.int k (k.wrap (a - b)))
      | .mul => some (.int k (k.wrap (a * b)))
      | .eql => some (.bool (a == b))
      | .neq => some (.bool (a != b))
      | .lss => some (.bool (decide (a < b)))
      | .leq => some (.bool (decide (a ≤ b)))
      | .gtr => some (.bool (decide (b < a)))
      | .geq => some (.bool (decide (b ≤ a)))
      | .rem => if b = 0 then none else some (.int k (a.tmod b))
      | .quo => if b = 0 then none else some (.int k (k.wrap (a.tdiv b)))
      | _ => none
    else none
  | .string a, .string b => match op with
      | .eql => some (.bool (a.toList == b.toList))
      | .neq => some (.bool !(a.toList == b.toList))
      | .lss => some (.bool (Op.bytesLess a.toList b.toList))
      | _ => none
  | _, _ => none

end Go.Am
