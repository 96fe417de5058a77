/- The abstract machine, part 3: the operations that look at no object, and their soundness. Generic over the program; no condition. -/
import Derived.Test.YtfepiaclbokkjaaAm2
namespace Go.Am
open Go.RowKit

/-- The value takes one cell. -/
def AV.one : AV → Bool
  | .c (.raw v) => v.oneCell'
  | .c (.im _ _ _) | .pim _ | .ptr _ _ | .rp _ _ _ _ | .own _ _ | .osub _ _ _ _ | .emp => true
  | _ => false

/-- A value as its cells. -/
def AV.cells : AV → Option (List AV)
  | .agg xs => some xs
  | .c (.agg xs) => some (xs.map .c)
  | x => if x.one then some [x] else none

def AV.closed1 : AV → Option CV
  | .c x => some x
  | .emp => some (.im 0 0 fun _ => [])
  | _ => none
def closedL : List AV → Option (List CV)
  | [] => some []
  | x :: r => match x.closed1, closedL r with
    | some y, some ys => some (y :: ys)
    | _, _ => none
def AV.closedCells (x : AV) : Option (List CV) := match x.cells with
  | some l => closedL l
  | none => none

def addOff (off : Nat) : AV → Option AV
  | .pim xs => some (.pim (xs.drop off))
  | .ptr o k => some (.ptr o (k + off))
  | .rp o L i k => some (.rp o L i (k + off))
  | _ => none

/-- The cells of a struct literal: the zero cells, the parts laid over them. -/
def setL (cs : List AV) (off : Nat) (xs : List AV) : List AV := cs.take off ++ xs ++ cs.drop (off + xs.length)
def bfill (fields : List (Nat × Nat)) (cs : List AV) : List (Nat × AV) → Option (List AV)
  | [] => some cs
  | (i, x) :: r => match fields[i]? with
    | some (off, sz) => match x.cells with
      | some l => if l.length = sz ∧ off + sz ≤ cs.length then bfill fields (setL cs off l) r else none
      | none => none
    | none => none

def partsC (e : Operand → AV) : List (Nat × Operand) → Nat → Nat → Option (List (List CV))
  | [], _, _ => some []
  | (i, y) :: r, k, sz => if i = k then match (e y).strip.closedCells, partsC e r (k + 1) sz with
      | some cs, some l => if cs.length = sz then some (cs :: l) else none
      | _, _ => none
    else none

def rawsL : List CV → Option (List Value)
  | [] => some []
  | .raw v :: r => (rawsL r).map (v :: ·)
  | _ :: _ => none
/-- A struct whose cells are all plain. -/
def AV.rawAgg : AV → Option (List Value)
  | .c (.agg xs) => rawsL xs
  | .agg xs => match closedL xs with
    | some ys => rawsL ys
    | none => none
  | _ => none
/-- An operator on two structs whose cells are all plain. -/
def AggBin (P : Program) (op : BinOp) (t : TypeId) (us vs : List Value) (v : Value) : Prop :=
  ∀ (y z : Operand) (w : World), (do eqGuard op t y z (.agg us.toArray) (.agg vs.toArray); binOp op t (.agg us.toArray) (.agg vs.toArray) : Sem Value).run P w = .ok v w

/-- The operations that look at no object. -/
def aop0 (P : Program) (op : Op) (e : Operand → AV) (G : Bool) (x : AV) : Prop :=
  match op with
  | .move y | .assign y => x = e y
  | .pick c y z => ∃ b p q, (e c).strip = .bool b ∧ (e y).strip = .bool p ∧ (e z).strip = .bool q ∧
      (G = true → (e c).wh = true ∧ (b = true → (e y).wh = true) ∧ (b = false → (e z).wh = true)) ∧ x = .bool (bif b then p else q)
  | .binOp op t y z _ =>
      match (e y).strip with
      | .c (.raw v1) => ∃ v2 v, (e z).strip = .c (.raw v2) ∧ bin op v1 v2 = some v ∧ (G = true → (e y).wh = true ∧ (e z).wh = true) ∧ x = .c (.raw v)
      | q => ∃ us vs v, q.rawAgg = some us ∧ (e z).strip.rawAgg = some vs ∧ AggBin P op t us vs v ∧ (G = true → (e y).wh = true ∧ (e z).wh = true) ∧ x = .c (.raw v)
  | .unOp .not _ y => ∃ b, (e y).strip = .bool b ∧ (G = true → (e y).wh = true) ∧ x = .bool (!b)
  | .unOp .neg _ y => ∃ k n, (e y).strip = .c (.raw (.int k n)) ∧ (G = true → (e y).wh = true) ∧ x = .c (.raw (.int k (k.wrap (0 - n))))
  | .fieldAddr t y f => ∃ i off sz, tinfo P t = some i ∧ i.fields[f]? = some (off, sz) ∧ sz ≠ 0 ∧ addOff off (e y).strip = some x ∧ (G = true → (e y).wh = true)
  | .extract y i => ∃ xs, (e y).strip = .c (.tup xs) ∧ (G = true → (e y).wh = true ∧ i < xs.length) ∧ x = .c (xs.getD i .any)
  | .build t parts => ∃ i cs, tinfo P t = some i ∧ i.agg = true ∧ i.zero ≠ [] ∧ i.fields ≠ [] ∧ (∀ p ∈ i.fields, p.2 ≠ 0) ∧ bfill i.fields (i.zero.map constAV1) (parts.toList.map fun p => (p.1, (e p.2).strip)) = some cs ∧
      (G = true → ∀ p ∈ parts.toList, (e p.2).wh = true) ∧ x = .agg cs
  | .buildSlice t len parts => ∃ i j l, tinfo P t = some i ∧ i.slice = true ∧ tinfo P i.elem = some j ∧ len = parts.size ∧ len * j.size ≤ 2 ^ 24 ∧ partsC e parts.toList 0 j.size = some l ∧
      (len = 0 ∨ j.zero ≠ []) ∧ (G = true → ∀ p ∈ parts.toList, (e p.2).wh = true) ∧ x = (if len = 0 then .emp else .c (.im j.size len fun i => l.getD i []))
  | .convert src dst y => ∃ k k' n, (∃ d, P.underlying src = some d) ∧ P.underlying dst = some (.int k) ∧ (e y).strip = .c (.raw (.int k' n)) ∧ (G = true → (e y).wh = true) ∧ x = .c (.raw (.int k (k.wrap n)))
  | .call { callee := .builtin .max, args := args, .. } => ∃ y z k a b, args = #[y, z] ∧ (e y).strip = .c (.raw (.int k a)) ∧ (e z).strip = .c (.raw (.int k b)) ∧ (G = true → (e y).wh = true ∧ (e z).wh = true) ∧
      x = .c (.raw (.int k (if a < b then b else a)))
  | _ => False

section
variable {w0 w : World} {Z : Nat → Prop} {nt : Nat} {s : Nat → AV} {h : AH} {gs : Gs} {a : Act} {P : Program}

theorem RA.drop_pim {Z : Nat → Prop} {v : Value} {xs : List CV} (hx : RA w Z h gs v (.pim xs)) (off : Nat) : ∃ ad, v = .pointer (some ad) ∧ RA w Z h gs (.pointer (some (ad.add off))) (.pim (xs.drop off)) := by
  cases hx with
  | pim ad _ g hb hlt hc ho hh =>
    refine ⟨ad, rfl, .pim _ _ (fun j => g (off + j)) (by rw [block_add]; exact hb) (by rw [block_add]; exact hlt) (fun j hj => ?_) (fun j hj => ho _ ?_) fun j hj => ?_⟩
    · rw [List.length_drop] at hj
      rw [add_add]
      exact hc _ (by omega)
    · rw [List.length_drop] at hj
      omega
    · rw [List.length_drop] at hj
      have := hh (off + j) (by omega)
      rw [List.getD_eq_getElem?_getD] at this ⊢
      rw [List.getElem?_drop]
      exact this

theorem addr_lit (b o n : Nat) : Addr.add ⟨b, o, none⟩ n = ⟨b, o + n, none⟩ := by unfold Addr.add; split <;> simp_all

/-- 'x + off' is the address that the field's operation computes. -/
theorem addOff_ok {Z : Nat → Prop} {v : Value} {x y : AV} {off : Nat} (hx : RA w Z h gs v x) (e : addOff off x = some y) : ∃ ad, v = .pointer (some ad) ∧ RA w Z h gs (.pointer (some (ad.add off))) y := by
  cases hx <;> simp only [addOff, Option.some.injEq, reduceCtorEq] at e
  case pim ad xs g hb hlt hc ho hh =>
    subst e
    exact RA.drop_pim (.pim ad xs g hb hlt hc ho hh) off
  case ptr o k b K ty cells ho hg =>
    subst e
    exact ⟨_, rfl, by rw [addr_lit]; exact .ptr o _ b K ty cells ho hg⟩
  case rp ad o L i k ty sz n f ho hL hv =>
    subst e
    refine ⟨ad, rfl, .rp _ o L i _ ty sz n f ho hL fun hn => ?_⟩
    obtain ⟨b, K, e1, e2⟩ := hv hn
    exact ⟨b, K, e1, by rw [e2, addr_lit, Nat.add_assoc]⟩

theorem cells_one {v : Value} (hv : v.oneCell' = true) : v.cells = #[v] := by cases v <;> simp [Value.oneCell', Value.cells] at hv ⊢

theorem RA.one_of {Z : Nat → Prop} {v : Value} {x : AV} (hx : RA w Z h gs v x) (ho : x.one = true) : v.oneCell' = true := by
  cases hx <;> simp only [AV.one, Bool.false_eq_true] at ho <;> try rfl
  rename_i y hy
  cases hy <;> simp only [Bool.false_eq_true] at ho <;> first | rfl | exact ho

/-- A value and its cells. -/
theorem RA.cells_of {Z : Nat → Prop} {v : Value} {x : AV} {l : List AV} (hx : RA w Z h gs v x) (hc : x.cells = some l) : v.cells.size = l.length ∧ (∀ i, i < l.length → (v.cells.getD i undef).oneCell' = true) ∧
    ∀ i, i < l.length → RA w Z h gs (v.cells.getD i undef) (l.getD i default) := by
  have one : ∀ (y : AV), RA w Z h gs v y → (if y.one then some [y] else none) = some l → v.cells.size = l.length ∧ (∀ i, i < l.length → (v.cells.getD i undef).oneCell' = true) ∧
      ∀ i, i < l.length → RA w Z h gs (v.cells.getD i undef) (l.getD i default) := by
    intro y hy e
    split at e
    · rename_i hone
      injection e with e
      subst e
      have hv := hy.one_of hone
      rw [cells_one hv]
      refine ⟨rfl, fun i hi => ?_, fun i hi => ?_⟩
      · have : i = 0 := by simpa using hi
        subst this
        exact hv
      · have : i = 0 := by simpa using hi
        subst this
        exact hy
    · cases e
  unfold AV.cells at hc
  split at hc
  · injection hc with hc
    subst hc
    cases hx with
    | agg cs xs hl ho hh => exact ⟨hl, ho, hh⟩
  · rename_i xs
    injection hc with hc
    subst hc
    cases hx with
    | c _ _ hx =>
      cases hx with
      | agg cs _ hl ho hh =>
        refine ⟨by simpa [Value.cells] using hl, fun i hi => ho i (by simpa using hi), fun i hi => ?_⟩
        have hi' : i < xs.length := by simpa using hi
        rw [getD_lt hi, List.getElem_map]
        have := hh i hi'
        rw [getD_lt hi'] at this
        exact .c _ _ this
  · exact one x hx hc

theorem RA.closed1_of {Z : Nat → Prop} {v : Value} {x : AV} {y : CV} (hx : RA w Z h gs v x) (hc : x.closed1 = some y) : RC w Z v y := by
  cases hx <;> simp only [AV.closed1, Option.some.injEq, reduceCtorEq] at hc
  case c x hx => subst hc; exact hx
  case emp => subst hc; exact .nul _ _ _ _

theorem closedL_of : ∀ {l : List AV} {ys : List CV}, closedL l = some ys → ys.length = l.length ∧ ∀ i, i < l.length → (l.getD i default).closed1 = some (ys.getD i .any)
  | [], ys, e => by simp only [closedL, Option.some.injEq] at e; subst e; exact ⟨rfl, fun i hi => by simp at hi⟩
  | x :: r, ys, e => by
    simp only [closedL] at e
    split at e
    · rename_i y ys' e1 e2
      injection e with e
      subst e
      obtain ⟨h1, h2⟩ := closedL_of e2
      refine ⟨by simp [h1], fun i hi => ?_⟩
      cases i with
      | zero => exact e1
      | succ i => exact h2 i (by simpa using hi)
    · cases e

theorem RA.closedCells_of {Z : Nat → Prop} {v : Value} {x : AV} {l : List CV} (hx : RA w Z h gs v x) (hc : x.closedCells = some l) : v.cells.size = l.length ∧ (∀ i, i < l.length → (v.cells.getD i undef).oneCell' = true) ∧
    ∀ i, i < l.length → RC w Z (v.cells.getD i undef) (l.getD i .any) := by
  unfold AV.closedCells at hc
  split at hc
  · rename_i xs e
    obtain ⟨h1, h2, h3⟩ := hx.cells_of e
    obtain ⟨h4, h5⟩ := closedL_of hc
    exact ⟨by omega, fun i hi => h2 i (by omega), fun i hi => (h3 i (by omega)).closed1_of (h5 i (by omega))⟩
  · cases hc

theorem bin_ok {op : BinOp} {t : TypeId} {v1 v2 v : Value} (y z : Operand) (hb : bin op v1 v2 = some v) : (do eqGuard op t y z v1 v2; binOp op t v1 v2 : Sem Value).run P w = .ok v w := by
  unfold bin at hb
  split at hb
  · rename_i k n k' m
    split at hb
    · rename_i hk
      subst hk
      cases op <;> simp only [Option.some.injEq, reduceCtorEq] at hb <;> first
        | (subst hb; simp [binOp, Op.intArith, Op.intCmp, go_sem]; done)
        | (split at hb
           · cases hb
           · rename_i hne
             simp only [Option.some.injEq] at hb
             subst hb
             simp [binOp, Op.intDiv, hne, go_sem])
    · cases hb
  · rename_i a b
    cases op <;> simp only [Option.some.injEq, reduceCtorEq] at hb <;> subst hb <;> simp [binOp, Op.stringOp, go_sem]
  · cases hb

theorem aop0_move (R : RelG w0 Z nt s h gs a w) {d : Option Tmp} {ty : TypeId} {pos : String} {af : Array Edge} {gd : Option (Nat × Bool)} {x : AV} (op : Op) (y : Operand) (hop : op = .move y ∨ op = .assign y) (hx : x = ev s y) :
    ∃ v w', (execOp a.eval ⟨d, op, ty, pos, af, gd⟩).run P w = .ok (.value v) w' ∧ Below w.heap.size w w' ∧ RA w' (Zf Z gs) h gs v x := by
  subst hx
  refine ⟨a.eval y, w, ?_, Below.refl _ _, ev_ok R y⟩
  rcases hop with rfl | rfl <;> simp [execOp]

theorem aop0_pick (R : RelG w0 Z nt s h gs a w) {d : Option Tmp} {ty : TypeId} {pos : String} {af : Array Edge} {gd : Option (Nat × Bool)} {x : AV} (c y z : Operand) (hx : aop0 P (.pick c y z) (ev s) true x) :
    ∃ v w', (execOp a.eval ⟨d, .pick c y z, ty, pos, af, gd⟩).run P w = .ok (.value v) w' ∧ Below w.heap.size w w' ∧ RA w' (Zf Z gs) h gs v x := by
  obtain ⟨b, p, q, e1, e2, e3, hw, rfl⟩ := hx
  obtain ⟨h1, h2, h3⟩ := hw rfl
  have c1 := (ev_ok R c).raw_of h1 e1
  refine ⟨.bool (bif b then p else q), w, ?_, Below.refl _ _, .c _ _ (.raw _)⟩
  cases b with
  | true =>
    have c2 := (ev_ok R y).raw_of (h2 rfl) e2
    simp [execOp, c1, c2, asBool]
  | false =>
    have c3 := (ev_ok R z).raw_of (h3 rfl) e3
    simp [execOp, c1, c3, asBool]

theorem rawsL_of {Z : Nat → Prop} : ∀ (xs : List CV) (us : List Value) (cs : List Value), rawsL xs = some us → cs.length = xs.length → (∀ i, i < xs.length → RC w Z (cs.getD i undef) (xs.getD i .any)) → cs = us
  | [], us, cs, e, hl, _ => by
    simp only [rawsL, Option.some.injEq] at e
    subst e
    exact List.eq_nil_of_length_eq_zero (by simpa using hl)
  | x :: xs, us, cs, e, hl, hh => by
    cases x with
    | raw v =>
      simp only [rawsL, Option.map_eq_some_iff] at e
      obtain ⟨us', e1, rfl⟩ := e
      cases cs with
      | nil => simp at hl
      | cons c cs =>
        have h0 := (hh 0 (by simp)).raw_inv
        have h1 := rawsL_of xs us' cs e1 (by simpa using hl) (fun i hi => hh (i + 1) (by simpa using hi))
        rw [h1]
        have h2 : c = v := h0
        rw [h2]
    | _ => simp [rawsL] at e

theorem RA.rawAgg_of {Z : Nat → Prop} {v : Value} {x : AV} {us : List Value} (hx : RA w Z h gs v x) (e : x.rawAgg = some us) : v = .agg us.toArray := by
  have key : ∀ (cs : Array Value) (ys : List CV), cs.size = ys.length → (∀ i, i < ys.length → RC w Z (cs.getD i undef) (ys.getD i .any)) → rawsL ys = some us → Value.agg cs = .agg us.toArray := by
    intro cs ys hl hh e
    have := rawsL_of ys us cs.toList e (by simpa using hl) (fun i hi => by
      have := hh i hi
      rw [show cs.toList.getD i undef = cs.getD i undef by simp [List.getD_eq_getElem?_getD, Array.getD_eq_getD_getElem?]]
      exact this)
    rw [← this]
  cases hx with
  | c _ y hy =>
    cases hy <;> simp only [AV.rawAgg, reduceCtorEq] at e
    case agg cs xs hl ho hh => exact key cs xs hl hh e
  | agg cs xs hl ho hh =>
    simp only [AV.rawAgg] at e
    split at e
    · rename_i ys e1
      obtain ⟨h1, h2⟩ := closedL_of e1
      exact key cs ys (by omega) (fun i hi => (hh i (by omega)).closed1_of (h2 i (by omega))) e
    · cases e
  | _ => simp [AV.rawAgg] at e

theorem aop0_binOp (R : RelG w0 Z nt s h gs a w) {d : Option Tmp} {ty : TypeId} {pos : String} {af : Array Edge} {gd : Option (Nat × Bool)} {x : AV} (op : BinOp) (t t2 : TypeId) (y z : Operand) (hx : aop0 P (.binOp op t y z t2) (ev s) true x) :
    ∃ v w', (execOp a.eval ⟨d, .binOp op t y z t2, ty, pos, af, gd⟩).run P w = .ok (.value v) w' ∧ Below w.heap.size w w' ∧ RA w' (Zf Z gs) h gs v x := by
  have agg : ∀ us vs v, (ev s y).strip.rawAgg = some us → (ev s z).strip.rawAgg = some vs → AggBin P op t us vs v → (ev s y).wh = true → (ev s z).wh = true →
      (execOp a.eval ⟨d, .binOp op t y z t2, ty, pos, af, gd⟩).run P w = .ok (.value v) w := by
    intro us vs v e1 e2 hb h1 h2
    have c1 := ((ev_ok R y).strip h1).rawAgg_of e1
    have c2 := ((ev_ok R z).strip h2).rawAgg_of e2
    have := hb y z w
    simp only [execOp, c1, c2]
    simp only [Sem.run_bind] at this ⊢
    rw [this]
    simp
  simp only [aop0] at hx
  split at hx
  · rename_i v1 e1
    obtain ⟨v2, v, e2, e3, hw, rfl⟩ := hx
    obtain ⟨h1, h2⟩ := hw trivial
    have c1 := (ev_ok R y).raw_of h1 e1
    have c2 := (ev_ok R z).raw_of h2 e2
    refine ⟨v, w, ?_, Below.refl _ _, .c _ _ (.raw _)⟩
    have hb := bin_ok (P := P) (w := w) (t := t) y z e3
    simp only [execOp, c1, c2]
    simp only [Sem.run_bind] at hb ⊢
    rw [hb]
    simp
  · obtain ⟨us, vs, v, e1, e2, hb, hw, rfl⟩ := hx
    obtain ⟨h1, h2⟩ := hw trivial
    exact ⟨v, w, agg us vs v e1 e2 hb h1 h2, Below.refl _ _, .c _ _ (.raw _)⟩

theorem aop0_unOp (R : RelG w0 Z nt s h gs a w) {d : Option Tmp} {ty : TypeId} {pos : String} {af : Array Edge} {gd : Option (Nat × Bool)} {x : AV} (op : UnOp) (t : TypeId) (y : Operand) (hx : aop0 P (.unOp op t y) (ev s) true x) :
    ∃ v w', (execOp a.eval ⟨d, .unOp op t y, ty, pos, af, gd⟩).run P w = .ok (.value v) w' ∧ Below w.heap.size w w' ∧ RA w' (Zf Z gs) h gs v x := by
  cases op with
  | not =>
    obtain ⟨b, e1, hw, rfl⟩ := hx
    have c1 := (ev_ok R y).raw_of (hw rfl) e1
    exact ⟨.bool (!b), w, by simp [execOp, c1, Op.unary], Below.refl _ _, .c _ _ (.raw _)⟩
  | neg =>
    obtain ⟨k, n, e1, hw, rfl⟩ := hx
    have c1 := (ev_ok R y).raw_of (hw rfl) e1
    exact ⟨.int k (k.wrap (0 - n)), w, by simp [execOp, c1, Op.unary, Op.intArith], Below.refl _ _, .c _ _ (.raw _)⟩
  | _ => exact hx.elim

theorem aop0_convert (R : RelG w0 Z nt s h gs a w) {d : Option Tmp} {ty : TypeId} {pos : String} {af : Array Edge} {gd : Option (Nat × Bool)} {x : AV} (t t2 : TypeId) (y : Operand) (hx : aop0 P (.convert t t2 y) (ev s) true x) :
    ∃ v w', (execOp a.eval ⟨d, .convert t t2 y, ty, pos, af, gd⟩).run P w = .ok (.value v) w' ∧ Below w.heap.size w w' ∧ RA w' (Zf Z gs) h gs v x := by
  obtain ⟨k, k', n, ⟨d', hd⟩, hu, e1, hw, rfl⟩ := hx
  have c1 := (ev_ok R y).raw_of (hw rfl) e1
  refine ⟨.int k (k.wrap n), w, ?_, Below.refl _ _, .c _ _ (.raw _)⟩
  simp [execOp, c1, convert, run_underlying hu, run_underlying hd, Conv.intToInt]

theorem aop0_extract (R : RelG w0 Z nt s h gs a w) {d : Option Tmp} {ty : TypeId} {pos : String} {af : Array Edge} {gd : Option (Nat × Bool)} {x : AV} (y : Operand) (i : Nat) (hx : aop0 P (.extract y i) (ev s) true x) :
    ∃ v w', (execOp a.eval ⟨d, .extract y i, ty, pos, af, gd⟩).run P w = .ok (.value v) w' ∧ Below w.heap.size w w' ∧ RA w' (Zf Z gs) h gs v x := by
  obtain ⟨xs, e1, hw, rfl⟩ := hx
  obtain ⟨h1, h2⟩ := hw rfl
  have c1 := (ev_ok R y).c_of h1 e1
  generalize hvy : a.eval y = vy at c1
  cases c1 with
  | tup cs _ hl hh =>
    refine ⟨cs.getD i undef, w, ?_, Below.refl _ _, .c _ _ (hh i h2)⟩
    have hi : i < cs.size := by omega
    simp [execOp, hvy, Instr.extract, Array.getElem?_eq_getElem hi, Array.getD, hi]

theorem aop0_fieldAddr (R : RelG w0 Z nt s h gs a w) {d : Option Tmp} {ty : TypeId} {pos : String} {af : Array Edge} {gd : Option (Nat × Bool)} {x : AV} (t : TypeId) (y : Operand) (f : Nat) (hx : aop0 P (.fieldAddr t y f) (ev s) true x) :
    ∃ v w', (execOp a.eval ⟨d, .fieldAddr t y f, ty, pos, af, gd⟩).run P w = .ok (.value v) w' ∧ Below w.heap.size w w' ∧ RA w' (Zf Z gs) h gs v x := by
  obtain ⟨i, off, sz, e1, e2, e3, e4, hw⟩ := hx
  have c1 := (ev_ok R y).strip (hw rfl)
  obtain ⟨ad, c2, c3⟩ := addOff_ok c1 e4
  obtain ⟨j, dd, t1, t2, -, -, -, -, -, t8, -⟩ := tinfo_some e1
  cases dd with
  | struct fs =>
    simp only at t8
    rw [t8, List.getElem?_map, Option.map_eq_some_iff] at e2
    obtain ⟨fl, e5, e6⟩ := e2
    simp only [Prod.mk.injEq] at e6
    obtain ⟨rfl, e7⟩ := e6
    have e8 : fs[f]? = some fl := by rw [← Array.getElem?_toList]; exact e5
    refine ⟨.pointer (some (ad.add fl.offset)), w, ?_, Below.refl _ _, c3⟩
    have hs : (sizeOf fl.type).run P w = .ok (P.cellsOf fl.type) w := by
      unfold Program.cellsOf at e7 ⊢
      cases hi : P.info? fl.type with
      | none => rw [hi] at e7; simp at e7; omega
      | some k => simp [sizeOf, typeInfo, hi]
    have hne : P.cellsOf fl.type ≠ 0 := by omega
    simp [execOp, c2, Instr.fieldAt, run_underlying t2, e8, Instr.sureAddr, fieldPlace, hs, hne]
  | _ => simp_all

/-- An array of cells as a list of values of the machine. -/
def CellsAre (w : World) (Z : Nat → Prop) (h : AH) (gs : Gs) (cur : Array Value) (l : List AV) : Prop :=
  cur.size = l.length ∧ (∀ i, i < l.length → (cur.getD i undef).oneCell' = true) ∧ ∀ i, i < l.length → RA w Z h gs (cur.getD i undef) (l.getD i default)

theorem foldl_set (off : Nat) : ∀ (l : List Value) (k : Nat) (cur : Array Value),
    ((l.zipIdx k).foldl (fun cs p => cs.setIfInBounds (off + p.2) p.1) cur).size = cur.size ∧
    ∀ t, t < cur.size → ((l.zipIdx k).foldl (fun cs p => cs.setIfInBounds (off + p.2) p.1) cur).getD t undef = if off + k ≤ t ∧ t < off + k + l.length then l.getD (t - (off + k)) undef else cur.getD t undef
  | [], k, cur => ⟨rfl, fun t _ => by rw [if_neg (by simp only [List.length_nil]; omega)]; rfl⟩
  | v :: l, k, cur => by
    have ih := foldl_set off l (k + 1) (cur.setIfInBounds (off + k) v)
    simp only [List.zipIdx_cons, List.foldl_cons]
    refine ⟨by rw [ih.1]; simp, fun t ht => ?_⟩
    rw [ih.2 t (by simpa using ht)]
    by_cases h1 : t = off + k
    · subst h1
      rw [if_neg (by omega), if_pos (by simp), Nat.sub_self]
      simp [Array.getD, ht]
    · have h2 : (cur.setIfInBounds (off + k) v).getD t undef = cur.getD t undef := by
        simp only [Array.getD_eq_getD_getElem?]
        rw [Array.getElem?_setIfInBounds_ne (Ne.symm h1)]
      rw [h2]
      by_cases h3 : off + (k + 1) ≤ t ∧ t < off + (k + 1) + l.length
      · rw [if_pos h3, if_pos (by simp only [List.length_cons]; omega)]
        obtain ⟨j, hj⟩ : ∃ j, t - (off + k) = j + 1 := ⟨t - (off + k) - 1, by omega⟩
        rw [hj, show t - (off + (k + 1)) = j by omega]
        rfl
      · rw [if_neg h3, if_neg (by simp only [List.length_cons]; omega)]

theorem getD_setL {cs xs : List AV} {off t : Nat} (hl : off + xs.length ≤ cs.length) : (setL cs off xs).getD t default = if off ≤ t ∧ t < off + xs.length then xs.getD (t - off) default else cs.getD t default := by
  unfold setL
  simp only [List.getD_eq_getElem?_getD]
  by_cases h1 : t < off
  · rw [if_neg (by omega), List.append_assoc, List.getElem?_append_left (by simp; omega), List.getElem?_take, if_pos h1]
  · by_cases h2 : t < off + xs.length
    · rw [if_pos (by omega), List.append_assoc, List.getElem?_append_right (by simp; omega), List.getElem?_append_left (by simp; omega)]
      simp only [List.length_take]
      rw [Nat.min_eq_left (by omega)]
    · rw [if_neg (by omega), List.getElem?_append_right (by simp; omega), List.getElem?_drop]
      congr 2
      simp
      omega
theorem length_setL {cs xs : List AV} {off : Nat} (hl : off + xs.length ≤ cs.length) : (setL cs off xs).length = cs.length := by
  unfold setL
  simp
  omega

theorem CellsAre.set {Z : Nat → Prop} {cur : Array Value} {cs xs : List AV} {v : Value} {off : Nat} (hc : CellsAre w Z h gs cur cs) (hv : CellsAre w Z h gs v.cells xs) (hl : off + xs.length ≤ cs.length) :
    CellsAre w Z h gs (v.cells.zipIdx.foldl (fun cs (p : Value × Nat) => cs.setIfInBounds (off + p.2) p.1) cur) (setL cs off xs) := by
  have he : v.cells.zipIdx.foldl (fun cs (p : Value × Nat) => cs.setIfInBounds (off + p.2) p.1) cur = (v.cells.toList.zipIdx 0).foldl (fun cs p => cs.setIfInBounds (off + p.2) p.1) cur := by
    rw [← Array.foldl_toList, Array.toList_zipIdx]
  obtain ⟨f1, f2⟩ := foldl_set off v.cells.toList 0 cur
  rw [he]
  obtain ⟨c1, c2, c3⟩ := hc
  obtain ⟨v1, v2, v3⟩ := hv
  have hlen : v.cells.toList.length = xs.length := by simpa using v1
  have hget : ∀ i, v.cells.toList.getD i undef = v.cells.getD i undef := fun i => by simp [List.getD_eq_getElem?_getD, Array.getD_eq_getD_getElem?]
  refine ⟨by rw [f1, length_setL hl, c1], fun i hi => ?_, fun i hi => ?_⟩ <;> rw [length_setL hl] at hi <;> rw [f2 i (by omega)]
  · split
    · rw [hget]; exact v2 _ (by omega)
    · exact c2 i hi
  · rw [getD_setL hl]
    by_cases h1 : off ≤ i ∧ i < off + xs.length
    · rw [if_pos (by omega), if_pos h1, hget, Nat.add_zero]; exact v3 _ (by omega)
    · rw [if_neg (by omega), if_neg h1]; exact c3 i hi

theorem fill_ok {Z : Nat → Prop} (fields : List (Nat × Nat)) (place : Nat → Option (Nat × Nat)) (hp : ∀ i, place i = fields[i]?) : ∀ (vs : List (Nat × Value)) (xs : List (Nat × AV)) (cur : Array Value) (cs l : List AV),
    vs.map (·.1) = xs.map (·.1) → (∀ (j : Nat) (p : Nat × Value) (q : Nat × AV), vs[j]? = some p → xs[j]? = some q → RA w Z h gs p.2 q.2) → CellsAre w Z h gs cur cs → bfill fields cs xs = some l →
    ∃ cur', Instr.fill place cur vs = some cur' ∧ CellsAre w Z h gs cur' l
  | [], [], cur, cs, l, _, _, hc, e => by
    simp only [bfill, Option.some.injEq] at e
    subst e
    exact ⟨cur, rfl, hc⟩
  | [], _ :: _, _, _, _, e, _, _, _ => by simp at e
  | _ :: _, [], _, _, _, e, _, _, _ => by simp at e
  | (i, v) :: vs, (i', x) :: xs, cur, cs, l, hi, hv, hc, e => by
    simp only [List.map_cons, List.cons.injEq] at hi
    obtain ⟨rfl, hi⟩ := hi
    simp only [bfill] at e
    split at e
    · rename_i off sz e1
      split at e
      · rename_i l' e2
        split at e
        · rename_i hsz
          have hx : RA w Z h gs v x := hv 0 _ _ rfl rfl
          have hcx := hx.cells_of e2
          have hset := hc.set (off := off) hcx (by omega)
          obtain ⟨cur', f1, f2⟩ := fill_ok fields place hp vs xs _ _ l hi (fun j p q h1 h2 => hv (j + 1) p q h1 h2) hset e
          refine ⟨cur', ?_, f2⟩
          simp only [Instr.fill, hp, e1]
          rw [if_neg]
          · exact f1
          · have := hc.1
            have := hcx.1
            simp
            omega
        · cases e
      · cases e
    · cases e

theorem zeros_ok {Z : Nat → Prop} (l : List Value) (ho : ∀ v ∈ l, v.oneCell' = true) : CellsAre w Z h gs l.toArray (l.map constAV1) := by
  refine ⟨by simp, fun i hi => ?_, fun i hi => ?_⟩
  · have hi' : i < l.length := by simpa using hi
    have : l.toArray.getD i undef = l[i] := by simp [Array.getD, hi']
    rw [this]
    exact ho _ (List.getElem_mem hi')
  · have hi' : i < l.length := by simpa using hi
    have : l.toArray.getD i undef = l[i] := by simp [Array.getD, hi']
    rw [this, getD_lt hi, List.getElem_map]
    exact constAV1_ok _ _ _ _ _


theorem mapM_places (fs : List Field) (hf : ∀ f ∈ fs, P.cellsOf f.type ≠ 0) : (fs.mapM fun f => (do pure (f.offset, ← sizeOf f.type) : Sem (Nat × Nat))).run P w = .ok (fs.map fun f => (f.offset, P.cellsOf f.type)) w := by
  induction fs with
  | nil => rfl
  | cons f fs ih =>
    have hs : (sizeOf f.type).run P w = .ok (P.cellsOf f.type) w := by
      have e7 := hf f (by simp)
      unfold Program.cellsOf at e7 ⊢
      cases hi : P.info? f.type with
      | none => rw [hi] at e7; simp at e7
      | some k => simp [sizeOf, typeInfo, hi]
    have ih' := ih fun g hg => hf g (by simp [hg])
    simp only [List.mapM_cons, Sem.run_bind, hs, Result.andThen_ok, Sem.run_pure, List.map_cons] at ih' ⊢
    rw [ih']
    rfl


theorem getElem_map_getD {l : List (Nat × Operand)} {β : Type} (F : Nat × Operand → β) {j : Nat} {p : β} (hp : (l.map F)[j]? = some p) : ∃ q, l[j]? = some q ∧ p = F q := by
  rw [List.getElem?_map, Option.map_eq_some_iff] at hp
  obtain ⟨q, h1, h2⟩ := hp
  exact ⟨q, h1, h2.symm⟩

theorem aop0_build (R : RelG w0 Z nt s h gs a w) {d : Option Tmp} {ty : TypeId} {pos : String} {af : Array Edge} {gd : Option (Nat × Bool)} {x : AV} (t : TypeId) (parts : Array (Nat × Operand)) (hx : aop0 P (.build t parts) (ev s) true x) :
    ∃ v w', (execOp a.eval ⟨d, .build t parts, ty, pos, af, gd⟩).run P w = .ok (.value v) w' ∧ Below w.heap.size w w' ∧ RA w' (Zf Z gs) h gs v x := by
  obtain ⟨i, cs, e1, e2, e3, e30, e4, hnz, hw, rfl⟩ := hx
  obtain ⟨j, dd, t1, t2, t3, -, t5, -, -, t8, t9⟩ := tinfo_some e1
  cases hzz : j.zero with
  | none =>
    rw [hzz] at t9
    simp only at t9
    exact absurd t9 e3
  | some z =>
  rw [hzz] at t9
  simp only at t9
  obtain ⟨z1, z2⟩ := tinfo_zero e1 t1 hzz
  cases dd with
  | struct fs =>
    simp only at t8
    have hr := fill_ok (w := w) (h := h) (gs := gs) (Z := Zf Z gs) i.fields (fun k => (fs.map fun f => (f.offset, P.cellsOf f.type))[k]?) (fun k => by rw [t8]; simp) (parts.toList.map fun p => (p.1, a.eval p.2)) (parts.toList.map fun p => (p.1, (ev s p.2).strip)) z.cells (i.zero.map constAV1) cs (by simp) (fun k p q h1 h2 => by
      obtain ⟨q1, h3, rfl⟩ := getElem_map_getD _ h1
      obtain ⟨q2, h4, rfl⟩ := getElem_map_getD _ h2
      rw [h3] at h4
      injection h4 with h4
      subst h4
      exact (ev_ok R q1.2).strip (hw rfl q1 (List.mem_of_getElem? h3))) (by rw [t9]; exact zeros_ok _ z2) hnz
    obtain ⟨cur', f1, f2⟩ := hr
    refine ⟨.agg cur', w, ?_, Below.refl _ _, .agg cur' cs f2.1 f2.2.1 f2.2.2⟩
    have hm := mapM_places (P := P) (w := w) fs.toList (fun f hf => e4 (f.offset, P.cellsOf f.type) (by rw [t8]; exact List.mem_map.2 ⟨f, hf, rfl⟩))
    have hm' : (fs.mapM fun f => (do pure (f.offset, ← sizeOf f.type) : Sem (Nat × Nat))).run P w = .ok (fs.map fun f => (f.offset, P.cellsOf f.type)) w := by
      rw [← Array.toArray_toList (xs := fs), List.mapM_toArray]
      simp only [Sem.run_map, hm, Result.andThen_ok]
      simp
      exact Array.ext' (by simp)
    have hz0 : (zeroValue t).run P w = .ok z w := by simp [zeroValue, typeInfo, t1, hzz]
    have f1' : Instr.fill (fun x => (fs.map fun f => (f.offset, P.cellsOf f.type))[x]?) z.cells ((parts.map fun p => (p.1, a.eval p.2)).toList) = some cur' := by simpa using f1
    simp only [execOp, Instr.build, Sem.run_bind, hz0, Result.andThen_ok, run_underlying t2, hm', Sem.run_pure, f1']
  | array n e =>
    simp only at t8
    exact absurd t8 e30
  | _ => simp_all

theorem fillS_ok {Z : Nat → Prop} (e : Operand → AV) (g : Operand → Value) (sz : Nat) : ∀ (ps : List (Nat × Operand)) (k : Nat) (l : List (List CV)) (cur : Array Value),
    (∀ p ∈ ps, RA w Z h gs (g p.2) (e p.2).strip) → partsC e ps k sz = some l → (k + ps.length) * sz ≤ cur.size →
    l.length = ps.length ∧ (∀ i, i < ps.length → (l.getD i []).length = sz) ∧ ∃ cur', Instr.fill (fun i => some (i * sz, sz)) cur (ps.map fun p => (p.1, g p.2)) = some cur' ∧ cur'.size = cur.size ∧ (∀ t, t < k * sz → cur'.getD t undef = cur.getD t undef) ∧
      ∀ i j, i < ps.length → j < sz → (cur'.getD ((k + i) * sz + j) undef).oneCell' = true ∧ RC w Z (cur'.getD ((k + i) * sz + j) undef) ((l.getD i []).getD j .any)
  | [], k, l, cur, _, hl, _ => by
    simp only [partsC, Option.some.injEq] at hl
    subst hl
    exact ⟨rfl, fun i hi => by simp at hi, cur, rfl, rfl, fun _ _ => rfl, fun i j hi => by simp at hi⟩
  | (i, y) :: ps, k, l, cur, he, hl, hs => by
    simp only [partsC] at hl
    split at hl
    · rename_i hik
      subst hik
      split at hl
      · rename_i cs l' e1 e2
        split at hl
        · rename_i hcl
          injection hl with hl
          subst hl
          have hx := (he (i, y) (by simp)).closedCells_of e1
          obtain ⟨x1, x2, x3⟩ := hx
          simp only at x1 x2 x3
          simp only [List.length_cons] at hs
          have hs' : i * sz + sz + ps.length * sz ≤ cur.size := by rw [← Nat.succ_mul, ← Nat.add_mul]; rw [show i + 1 + ps.length = i + (ps.length + 1) by omega]; exact hs
          have he' : (g y).cells.zipIdx.foldl (fun cs (p : Value × Nat) => cs.setIfInBounds (i * sz + p.2) p.1) cur = ((g y).cells.toList.zipIdx 0).foldl (fun cs p => cs.setIfInBounds (i * sz + p.2) p.1) cur := by
            rw [← Array.foldl_toList, Array.toList_zipIdx]
          obtain ⟨f1, f2⟩ := foldl_set (i * sz) (g y).cells.toList 0 cur
          rw [← he'] at f1 f2
          have hget : ∀ t, (g y).cells.toList.getD t undef = (g y).cells.getD t undef := fun t => by simp [List.getD_eq_getElem?_getD, Array.getD_eq_getD_getElem?]
          obtain ⟨r0, r1, cur', r2, r3, r4, r5⟩ := fillS_ok e g sz ps (i + 1) l' ((g y).cells.zipIdx.foldl (fun cs (p : Value × Nat) => cs.setIfInBounds (i * sz + p.2) p.1) cur) (fun p hp => he p (by simp [hp])) e2 (by rw [f1, Nat.add_mul, Nat.add_mul]; omega)
          have hlen : (g y).cells.toList.length = sz := by rw [Array.length_toList]; omega
          refine ⟨by simp [r0], fun t ht => ?_, cur', ?_, by rw [r3, f1], fun t ht => ?_, fun t j ht hj => ?_⟩
          · cases t with
            | zero => exact hcl
            | succ t => exact r1 t (by simpa using ht)
          · simp only [List.map_cons, Instr.fill]
            rw [if_neg (by simp; omega)]
            exact r2
          · rw [r4 t (by rw [Nat.succ_mul]; omega), f2 t (by omega), if_neg (by omega)]
          · cases t with
            | zero =>
              simp only [Nat.add_zero]
              rw [r4 (i * sz + j) (by rw [Nat.succ_mul]; omega), f2 (i * sz + j) (by omega), if_pos (by omega), hget, Nat.add_zero, Nat.add_sub_cancel_left]
              exact ⟨x2 j (by omega), x3 j (by omega)⟩
            | succ t =>
              have := r5 t j (by simpa using ht) hj
              rw [show i + 1 + t = i + (t + 1) by omega] at this
              exact this
        · cases hl
      · cases hl
    · cases hl

theorem aop0_buildSlice (R : RelG w0 Z nt s h gs a w) {d : Option Tmp} {ty : TypeId} {pos : String} {af : Array Edge} {gd : Option (Nat × Bool)} {x : AV} (t : TypeId) (len : Nat) (parts : Array (Nat × Operand)) (hx : aop0 P (.buildSlice t len parts) (ev s) true x) :
    ∃ v w', (execOp a.eval ⟨d, .buildSlice t len parts, ty, pos, af, gd⟩).run P w = .ok (.value v) w' ∧ Below w.heap.size w w' ∧ RA w' (Zf Z gs) h gs v x := by
  obtain ⟨i, j, l, e1, e2, e3, rfl, e5, e6, e7, hw, rfl⟩ := hx
  obtain ⟨i', dd, t1, t2, -, -, -, t6, t7, -, -⟩ := tinfo_some e1
  obtain ⟨j', dj, u1, u2, u3, -, -, -, -, -, u9⟩ := tinfo_some e3
  cases dd with
  | slice el =>
    simp only at t6
    rw [t6] at u1
    have hsz : (sizeOf el).run P w = .ok j.size w := by simp [sizeOf, typeInfo, u1, u3]
    have key : ∀ zc : Array Value, (((Array.range (parts.size * j.size)).map (zc[· % zc.size]!))).size = parts.size * j.size := by intro zc; simp
    have hzz : ∃ zc : Array Value, (parts.size * j.size = 0 ∧ zc = #[]) ∨ (parts.size * j.size ≠ 0 ∧ ∃ z, (zeroValue el).run P w = .ok z w ∧ zc = z.cells) := by
      by_cases h0 : parts.size * j.size = 0
      · exact ⟨#[], .inl ⟨h0, rfl⟩⟩
      · cases hz : j'.zero with
        | none =>
          rw [hz] at u9
          simp only at u9
          rcases e7 with e7 | e7
          · rw [e7] at h0; simp at h0
          · exact absurd u9 e7
        | some z => exact ⟨z.cells, .inr ⟨h0, z, by simp [zeroValue, typeInfo, u1, hz], rfl⟩⟩
    obtain ⟨zc, hzc⟩ := hzz
    obtain ⟨r0, r1, cur', r2, r3, r4, r5⟩ := fillS_ok (w := w) (h := h) (gs := gs) (Z := Zf Z gs) (ev s) a.eval j.size parts.toList 0 l ((Array.range (parts.size * j.size)).map (zc[· % zc.size]!)) (fun p hp => (ev_ok R p.2).strip (hw rfl p hp)) e6 (by rw [key]; simp)
    have r2' : Instr.fill (fun i => some (i * j.size, j.size)) ((Array.range (parts.size * j.size)).map (zc[· % zc.size]!)) ((parts.map fun p => (p.1, a.eval p.2)).toList) = some cur' := by simpa using r2
    have hcs : cur'.size = parts.size * j.size := by rw [r3, key]
    have hb : Below w.heap.size w (w.alloc (.cells cur' el)) := (Below.refl _ _).alloc (Nat.le_refl _) _
    refine ⟨.slice (some ⟨w.heap.size, 0, none⟩) parts.size parts.size, w.alloc (.cells cur' el), ?_, hb, ?_⟩
    · simp only [execOp, Instr.buildSlice, Sem.run_bind, run_underlying t2, Result.andThen_ok, hsz]
      rw [if_neg (by omega)]
      rcases hzc with ⟨h0, rfl⟩ | ⟨h0, z, hz1, rfl⟩
      · rw [if_pos h0]
        simp only [Sem.run_pure, Result.andThen_ok, Sem.run_bind, r2', newRow, run_newObj]
        rfl
      · rw [if_neg h0]
        simp only [Sem.run_pure, Result.andThen_ok, Sem.run_bind, hz1, r2', newRow, run_newObj]
        rfl
    · by_cases h0 : parts.size = 0
      · rw [if_pos h0, h0]
        exact .emp _
      · rw [if_neg h0]
        refine .c _ _ (.im _ _ _ _ _ (fun t => cur'.getD t undef) ?_ (by simp) (Nat.le_refl _) (fun t ht => ?_) (fun t ht => ?_) (fun t ht => r1 t (by simpa using ht)) fun t k ht hk => ?_)
        · intro hz
          rcases hz with hz | ⟨o, K, hz⟩
          · have h1 := R.zlt w.heap.size hz
            have h2 := R.below.size
            omega
          · have h1 := (R.fresh _ w.heap.size _ hz).2
            omega
        · rw [addr_lit, Nat.zero_add, World.cell?_alloc_new]
          have : t < cur'.size := by omega
          simp [Array.getD, this]
        · have hpos : 0 < j.size := by
            rcases Nat.eq_zero_or_pos j.size with h1 | h1
            · rw [h1] at ht; simp at ht
            · exact h1
          have h2 := r5 (t / j.size) (t % j.size) (by rw [Array.length_toList]; exact Nat.div_lt_of_lt_mul (by rw [Nat.mul_comm]; exact ht)) (Nat.mod_lt _ hpos)
          rw [Nat.zero_add, Nat.mul_comm (t / j.size), Nat.div_add_mod] at h2
          exact h2.1
        · have h2 := r5 t k (by simpa using ht) hk
          rw [Nat.zero_add] at h2
          exact h2.2.later (later_of_below hb)
  | _ => simp_all

theorem aop0_max (R : RelG w0 Z nt s h gs a w) {d : Option Tmp} {ty : TypeId} {pos : String} {af : Array Edge} {gd : Option (Nat × Bool)} {x : AV} (args : Array Operand) (ats : Array TypeId) (hx : aop0 P (.call ⟨.builtin .max, args, ats⟩) (ev s) true x) :
    ∃ v w', (execOp a.eval ⟨d, .call ⟨.builtin .max, args, ats⟩, ty, pos, af, gd⟩).run P w = .ok (.value v) w' ∧ Below w.heap.size w w' ∧ RA w' (Zf Z gs) h gs v x := by
  obtain ⟨y, z, k, n, m, rfl, e1, e2, hw, rfl⟩ := hx
  obtain ⟨h1, h2⟩ := hw rfl
  have c1 := (ev_ok R y).raw_of h1 e1
  have c2 := (ev_ok R z).raw_of h2 e2
  refine ⟨.int k (if n < m then m else n), w, ?_, Below.refl _ _, .c _ _ (.raw _)⟩
  simp [execOp, resolve, invoke, builtin, c1, c2, Builtin.max_, Builtin.max2]
end

end Go.Am
