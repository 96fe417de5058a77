/- The abstract machine, part 4: the operations that look at objects and leave them as they are (load, len, an element's address, a call by its contract), and their soundness. Generic over the program; no condition. -/
import Derived.Test.YtfepiaclbokkjaaAm3
namespace Go.Am
open Go.RowKit

/-- The function can be entered. -/
def Enters (P : Program) (f : FuncId) : Prop := ∃ fn, P.funcs[f]? = some fn ∧ (fn.name == "runtime.NumGoroutine") = false ∧ fn.body.isNone = false

/-- THE CONTRACT: wherever the arguments read as xs, the call returns what reads as r, and leaves all that was there as it was. -/
def APure (P : Program) (f : FuncId) (xs : List CV) (r : CV) : Prop := Enters P f ∧
  ∀ (Z : Nat → Prop) (w : World) (vs : List Value), (∀ b, Z b → b < w.heap.size) → vs.length = xs.length → (∀ i, i < xs.length → RC w Z (vs.getD i undef) (xs.getD i .any)) →
    Calls P f vs.toArray w fun e w' => ∃ v, e = .returned v ∧ RC w' Z v r ∧ Below w.heap.size w w'

def AV.view1 (h : AH) : AV → CV
  | .c x => x
  | .emp => .im 0 0 fun _ => []
  | .own o L => match h o with
    | .row _ sz n f => if L = n then .im sz n f else .any
    | _ => .any
  | .osub o L off k => match h o with
    | .row _ sz n f => if L = n then .im sz k (fun i => f (off + i)) else .any
    | _ => .any
  | _ => .any
def AV.view (h : AH) : AV → CV
  | .agg xs => .agg (xs.map (AV.view1 h))
  | x => x.view1 h
def AV.closedA : AV → Bool
  | .c _ | .emp => true
  | .agg xs => xs.all fun x => x.closed1.isSome
  | _ => false

def AV.live1 (h : AH) : AV → Bool
  | .own o _ | .osub o _ _ _ => match h o with
    | .gone => false
    | _ => true
  | _ => true
def AV.live (h : AH) : AV → Bool
  | .agg xs => xs.all fun x => x.live1 h
  | x => x.live1 h

def Subs : List CV → List CV → Prop
  | [], [] => True
  | x :: xs, y :: ys => CV.Sub x y ∧ Subs xs ys
  | _, _ => False

theorem Subs.refl : ∀ xs : List CV, Subs xs xs
  | [] => trivial
  | x :: xs => ⟨CV.Sub.refl x, Subs.refl xs⟩
theorem Subs.length : ∀ {xs ys : List CV}, Subs xs ys → xs.length = ys.length
  | [], [], _ => rfl
  | _ :: _, _ :: _, h => by simp [Subs.length h.2]
theorem Subs.get : ∀ {xs ys : List CV}, Subs xs ys → ∀ i, i < xs.length → CV.Sub (xs.getD i .any) (ys.getD i .any)
  | [], [], _, i, hi => by simp at hi
  | _ :: _, _ :: _, h, 0, _ => h.1
  | _ :: _, _ :: _, h, i + 1, hi => Subs.get h.2 i (by simpa using hi)

def loadC (i : TI) (xs : List CV) : AV := if i.agg then .c (.agg (xs.take i.size)) else .c (xs.headD .any)
def loadA (i : TI) (xs : List AV) : AV := if i.agg then .agg (xs.take i.size) else xs.headD default

/-- The operations that look at objects and leave them as they are. -/
def aop1 (P : Program) (op : Op) (e : Operand → AV) (h : AH) (G : Bool) (x : AV) : Prop :=
  match op with
  | .load t y => ∃ i, tinfo P t = some i ∧ (i.agg = false → i.size = 1) ∧ (G = true → (e y).wh = true) ∧
      match (e y).strip with
      | .pim xs => (G = true → i.size ≤ xs.length) ∧ x = loadC i xs
      | .ptr o off => ∃ ty cells, h o = .box ty cells ∧ (G = true → off + i.size ≤ cells.length) ∧ x = loadA i (cells.drop off)
      | .rp o L k off => ∃ ty sz n f, h o = .row ty sz n f ∧ (G = true → L = n ∧ k < n ∧ off + i.size ≤ sz) ∧ x = loadC i ((f k).drop off)
      | _ => False
  | .call { callee := .builtin .len, args := args, argTypes := ats } => ∃ y t, args = #[y] ∧ ats = #[t] ∧ (G = true → (e y).wh = true) ∧
      match (e y).strip with
      | .c (.im _ n _) => (∃ el, P.underlying t = some (.slice el)) ∧ x = .int n
      | .own o L => (∃ el, P.underlying t = some (.slice el)) ∧ ∃ ty sz n f, h o = .row ty sz n f ∧ (G = true → L = n) ∧ x = .int L
      | .osub o L _ k => (∃ el, P.underlying t = some (.slice el)) ∧ ∃ ty sz n f, h o = .row ty sz n f ∧ (G = true → L = n) ∧ x = .int k
      | .emp => (∃ el, P.underlying t = some (.slice el)) ∧ x = .int 0
      | .c (.raw (.string s)) => P.underlying t = some .string ∧ x = .int s.size
      | _ => False
  | .indexAddr t y z => ∃ i j k n, tinfo P t = some i ∧ i.slice = true ∧ tinfo P i.elem = some j ∧ (e z).strip = .c (.raw (.int k n)) ∧ (G = true → (e y).wh = true ∧ (e z).wh = true) ∧
      match (e y).strip with
      | .c (.im sz m f) => (G = true → sz = j.size ∧ 0 ≤ n ∧ n < m) ∧ x = .pim (f n.toNat)
      | .own o L => ∃ ty sz m f, h o = .row ty sz m f ∧ (G = true → L = m ∧ sz = j.size ∧ 0 ≤ n ∧ n < m) ∧ x = .rp o L n.toNat 0
      | .osub o L off q => ∃ ty sz m f, h o = .row ty sz m f ∧ (G = true → L = m ∧ sz = j.size ∧ 0 ≤ n ∧ n < q) ∧ x = .rp o L (off + n.toNat) 0
      | _ => False
  | .slice t y lo hi none => ∃ l hh : Nat, (∀ z, lo = some z → (G = true → (e z).wh = true) ∧ ∃ k, (e z).strip = .c (.raw (.int k l))) ∧ (lo = none → l = 0) ∧
      (∀ z, hi = some z → (G = true → (e z).wh = true) ∧ ∃ k, (e z).strip = .c (.raw (.int k hh))) ∧ (G = true → (e y).wh = true ∧ l ≤ hh) ∧
      match (e y).strip with
      | .c (.im sz n f) => (∃ i j, tinfo P t = some i ∧ i.slice = true ∧ tinfo P i.elem = some j ∧ (G = true → sz = j.size ∧ hh ≤ n)) ∧ (hi = none → hh = n) ∧ x = .c (.im sz (hh - l) fun q => f (l + q))
      | .own o L => ∃ ty sz n f, h o = .row ty sz n f ∧ (∃ i j, tinfo P t = some i ∧ i.slice = true ∧ tinfo P i.elem = some j ∧ (G = true → sz = j.size ∧ hh ≤ n)) ∧ (G = true → L = n) ∧ (hi = none → hh = n) ∧ x = .osub o L l (hh - l)
      | .c (.raw (.string b)) => P.underlying t = some .string ∧ (G = true → hh ≤ b.size) ∧ (hi = none → hh = b.size) ∧ x = .str (b.extract l hh)
      | _ => False
  | .call { callee := .value (.func f), args := args, .. } => ∃ cs r, (∀ y ∈ args.toList, (e y).strip.live h = true) ∧ Subs (args.toList.map fun y => (e y).strip.view h) cs ∧ (G = true → ∀ y ∈ args.toList, (e y).wh = true) ∧ (G = true → APure P f cs r) ∧
      (r.flat = true ∨ ∀ y ∈ args.toList, (e y).strip.closedA = true) ∧ x = .c r
  | _ => False

section
variable {w0 w : World} {Z : Nat → Prop} {nt : Nat} {s : Nat → AV} {h : AH} {gs : Gs} {a : Act} {P : Program}

theorem run_loadCellsFrom (ad : Addr) (g : Nat → Value) : ∀ (n i : Nat) (acc : Array Value), (∀ j, j < n → w.cell? (ad.add (i + j)) = some (g (i + j))) →
    (loadCellsFrom ad i n acc).run P w = .ok (acc ++ ((List.range n).map fun j => g (i + j)).toArray) w
  | 0, i, acc, _ => by simp [loadCellsFrom]
  | n + 1, i, acc, hc => by
    have h0 := hc 0 (by omega)
    simp only [Nat.add_zero] at h0
    simp only [loadCellsFrom, Sem.run_bind, run_load, h0, Result.andThen_ok]
    rw [run_loadCellsFrom ad g n (i + 1) (acc.push (g i)) (fun j hj => by have := hc (j + 1) (by omega); rw [show i + 1 + j = i + (j + 1) by omega]; exact this)]
    congr 1
    apply Array.ext'
    simp only [Array.toList_append, Array.toList_push, List.range_succ_eq_map, List.map_cons, List.map_map]
    simp only [List.append_assoc, List.cons_append, List.nil_append, Nat.add_zero]
    congr 2
    apply List.map_congr_left
    intro j _
    simp [show i + 1 + j = i + (j + 1) by omega]

theorem run_loadCells (ad : Addr) (g : Nat → Value) (n : Nat) (hc : ∀ j, j < n → w.cell? (ad.add j) = some (g j)) :
    (loadCells ad n).run P w = .ok ((List.range n).map g).toArray w := by
  have := run_loadCellsFrom (P := P) ad g n 0 #[] (fun j hj => by rw [Nat.zero_add]; exact hc j hj)
  simp only [Nat.zero_add] at this
  unfold loadCells
  rw [this]
  simp

/-- A variable is read out of cells that are known. -/
theorem run_loadVar {t : TypeId} {i : TI} (hi : tinfo P t = some i) (h1 : i.agg = false → i.size = 1) (ad : Addr) (g : Nat → Value) (hc : ∀ j, j < i.size → w.cell? (ad.add j) = some (g j)) :
    (loadVar t ad).run P w = .ok (if i.agg then .agg ((List.range i.size).map g).toArray else g 0) w := by
  obtain ⟨j, d, t1, t2, t3, -, t5, -⟩ := tinfo_some hi
  have hs : (sizeOf t).run P w = .ok i.size w := by simp [sizeOf, typeInfo, t1, t3]
  have hag : (isAgg t).run P w = .ok i.agg w := by
    rw [t5]
    simp only [isAgg, Sem.run_bind, run_underlying t2, Result.andThen_ok]
    cases d <;> rfl
  unfold loadVar
  simp only [Sem.run_bind, hag, Result.andThen_ok]
  cases hb : i.agg with
  | true =>
    simp only [if_true, Sem.run_bind, hs, Result.andThen_ok, run_loadCells ad g i.size hc, Sem.run_pure]
  | false =>
    have h0 := hc 0 (by rw [h1 hb]; omega)
    rw [show ad.add 0 = ad by unfold Addr.add; simp] at h0
    simp [h0]

theorem getD_range_map {n i : Nat} {g : Nat → Value} (hi : i < n) : ((List.range n).map g).toArray.getD i undef = g i := by
  simp [Array.getD, hi]

theorem loadC_ok {Z : Nat → Prop} {i : TI} {xs : List CV} {g : Nat → Value} (h1 : i.agg = false → i.size = 1) (hl : i.size ≤ xs.length) (ho : ∀ j, j < i.size → (g j).oneCell' = true) (hh : ∀ j, j < i.size → RC w Z (g j) (xs.getD j .any)) :
    RA w Z h gs (if i.agg then .agg ((List.range i.size).map g).toArray else g 0) (loadC i xs) := by
  unfold loadC
  cases hb : i.agg with
  | true =>
    simp only [if_true]
    have hlt : (xs.take i.size).length = i.size := by simp; omega
    refine .c _ _ (.agg _ _ (by rw [hlt]; simp) (fun j hj => ?_) fun j hj => ?_)
    · rw [hlt] at hj
      rw [getD_range_map hj]
      exact ho j hj
    · have hj' := hj
      rw [hlt] at hj'
      rw [getD_range_map hj', getD_lt hj, List.getElem_take]
      have := hh j hj'
      rw [getD_lt (by omega)] at this
      exact this
  | false =>
    simp only [Bool.false_eq_true, if_false]
    have hs := h1 hb
    refine .c _ _ ?_
    have := hh 0 (by omega)
    cases xs with
    | nil => simp at hl; omega
    | cons x xs => exact this

theorem loadA_ok {Z : Nat → Prop} {i : TI} {xs : List AV} {g : Nat → Value} (h1 : i.agg = false → i.size = 1) (hl : i.size ≤ xs.length) (ho : ∀ j, j < i.size → (g j).oneCell' = true) (hh : ∀ j, j < i.size → RA w Z h gs (g j) (xs.getD j default)) :
    RA w Z h gs (if i.agg then .agg ((List.range i.size).map g).toArray else g 0) (loadA i xs) := by
  unfold loadA
  cases hb : i.agg with
  | true =>
    simp only [if_true]
    have hlt : (xs.take i.size).length = i.size := by simp; omega
    refine .agg _ _ (by rw [hlt]; simp) (fun j hj => ?_) fun j hj => ?_
    · rw [hlt] at hj
      rw [getD_range_map hj]
      exact ho j hj
    · have hj' := hj
      rw [hlt] at hj'
      rw [getD_range_map hj', getD_lt hj, List.getElem_take]
      have := hh j hj'
      rw [getD_lt (by omega)] at this
      exact this
  | false =>
    simp only [Bool.false_eq_true, if_false]
    have hs := h1 hb
    have := hh 0 (by omega)
    cases xs with
    | nil => simp at hl; omega
    | cons x xs => exact this

theorem getD_drop {α : Type} {l : List α} {k i : Nat} {d : α} : (l.drop k).getD i d = l.getD (k + i) d := by
  simp [List.getD_eq_getElem?_getD, List.getElem?_drop]

theorem cell_of_heap {b j : Nat} {cur : Array Value} {ty : TypeId} (hb : w.heap[b]? = some (.cells cur ty (0, 0))) (hj : j < cur.size) : w.cell? ⟨b, j, none⟩ = some (cur.getD j undef) := by
  rw [cell_of_row w b j cur ty (0, 0) hb]
  simp [Array.getD, hj]

/-- A load: the address is there, and what lies there is known. -/
theorem load_run (R : RelG w0 Z nt s h gs a w) {x : AV} (t : TypeId) (y : Operand) (hx : aop1 P (.load t y) (ev s) h true x) :
    ∃ ad v, a.eval y = .pointer (some ad) ∧ (loadVar t ad).run P w = .ok v w ∧ RA w (Zf Z gs) h gs v x := by
  obtain ⟨i, e1, h1, hw, hm⟩ := hx
  have c1 := (ev_ok R y).strip (hw rfl)
  generalize hvy : a.eval y = vy at c1
  generalize (ev s y).strip = xy at c1 hm
  cases c1 with
  | pim ad xs g hb hlt hc ho hh =>
    obtain ⟨hl, rfl⟩ := hm
    have hl := hl rfl
    exact ⟨ad, _, rfl, run_loadVar (w := w) e1 h1 ad g (fun j hj => hc j (by omega)), loadC_ok (g := g) h1 hl (fun j hj => ho j (by omega)) fun j hj => hh j (by omega)⟩
  | ptr o off b K ty' cells ho hg =>
    obtain ⟨ty2, cells2, e2, hl, rfl⟩ := hm
    have hl := hl rfl
    have hob := R.objs o
    rw [e2] at hob
    obtain ⟨b', K', cur, g1, g2, g3, g4, g5⟩ := hob
    rw [hg] at g1
    simp only [Option.some.injEq, Prod.mk.injEq] at g1
    obtain ⟨rfl, rfl⟩ := g1
    refine ⟨_, _, rfl, run_loadVar (w := w) e1 h1 ⟨b, off, none⟩ (fun j => cur.getD (off + j) undef) (fun j hj => by rw [addr_lit]; exact cell_of_heap g2 (by omega)), loadA_ok (g := fun j => cur.getD (off + j) undef) h1 (by rw [List.length_drop]; omega) (fun j hj => g4 _ (by omega)) fun j hj => ?_⟩
    rw [getD_drop]
    exact g5 _ (by omega)
  | rp ad o L k off ty' sz n f ho hL hv =>
    obtain ⟨ty2, sz2, n2, f2, e2, hl, rfl⟩ := hm
    obtain ⟨hl1, hl2, hl3⟩ := hl rfl
    rw [ho] at e2
    injection e2 with e3 e4 e5 e6
    subst e4; subst e5; subst e6
    obtain ⟨b, K, g1, rfl⟩ := hv hl1
    have hob := R.objs o
    rw [ho] at hob
    rcases hob with ⟨q1, q2⟩ | ⟨b', K', cur, q1, q2, q3, q4, q5, q6, q7, q8⟩
    · omega
    rw [g1] at q1
    simp only [Option.some.injEq, Prod.mk.injEq] at q1
    obtain ⟨rfl, rfl⟩ := q1
    have hk : k * sz + sz ≤ n * sz := by rw [← Nat.succ_mul]; exact Nat.mul_le_mul_right _ hl2
    have hn : n * sz ≤ K * sz := Nat.mul_le_mul_right _ q4
    refine ⟨_, _, rfl, run_loadVar (w := w) e1 h1 ⟨b, k * sz + off, none⟩ (fun j => cur.getD (k * sz + off + j) undef) (fun j hj => by rw [addr_lit]; exact cell_of_heap q2 (by omega)), loadC_ok (g := fun j => cur.getD (k * sz + off + j) undef) h1 (by rw [List.length_drop, q6 k hl2]; omega) (fun j hj => q7 _ (by omega)) fun j hj => ?_⟩
    rw [getD_drop]
    have := q8 k (off + j) hl2 (by omega)
    rw [← Nat.add_assoc] at this
    exact this
  | _ => exact hm.elim

theorem aop1_load (R : RelG w0 Z nt s h gs a w) {d : Option Tmp} {ty : TypeId} {pos : String} {af : Array Edge} {gd : Option (Nat × Bool)} {x : AV} (t : TypeId) (y : Operand) (hx : aop1 P (.load t y) (ev s) h true x) :
    ∃ v w', (execOp a.eval ⟨d, .load t y, ty, pos, af, gd⟩).run P w = .ok (.value v) w' ∧ Below w.heap.size w w' ∧ RA w' (Zf Z gs) h gs v x := by
  obtain ⟨ad, v, h1, h2, h3⟩ := load_run R t y hx
  refine ⟨v, w, ?_, Below.refl _ _, h3⟩
  simp only [execOp, h1, Instr.loadAt, Instr.sureAddr, Sem.run_bind, Sem.run_pure, Result.andThen_ok, h2]

theorem run_len_slice {t el : TypeId} (ht : P.underlying t = some (.slice el)) (ty : TypeId) (A : Option Addr) (n c : Nat) : (Builtin.len_ #[t] ty #[.slice A n c]).run P w = .ok (.int .i64 n) w := by
  simp [Builtin.len_, run_underlying ht, goInt]

theorem RC.im_inv {Z : Nat → Prop} {v : Value} {sz n : Nat} {f : Nat → List CV} (hx : RC w Z v (.im sz n f)) : ∃ (A : Option Addr) (c : Nat), v = .slice A n c ∧ (0 < n → ∃ (ad : Addr) (g : Nat → Value), A = some ad ∧ ¬ Z ad.block ∧ ad.block < w.heap.size ∧ n ≤ c ∧
    (∀ j, j < n * sz → w.cell? (ad.add j) = some (g j)) ∧ (∀ j, j < n * sz → (g j).oneCell' = true) ∧ (∀ i, i < n → (f i).length = sz) ∧ ∀ i j, i < n → j < sz → RC w Z (g (i * sz + j)) ((f i).getD j .any)) := by
  cases hx with
  | nul A c => exact ⟨A, c, rfl, fun h => absurd h (by omega)⟩
  | im ad _ c _ _ g hb hlt hnc hc ho hf hh => exact ⟨some ad, c, rfl, fun _ => ⟨ad, g, rfl, hb, hlt, hnc, hc, ho, hf, hh⟩⟩

theorem aop1_len (R : RelG w0 Z nt s h gs a w) {d : Option Tmp} {ty : TypeId} {pos : String} {af : Array Edge} {gd : Option (Nat × Bool)} {x : AV} (args : Array Operand) (ats : Array TypeId) (hx : aop1 P (.call ⟨.builtin .len, args, ats⟩) (ev s) h true x) :
    ∃ v w', (execOp a.eval ⟨d, .call ⟨.builtin .len, args, ats⟩, ty, pos, af, gd⟩).run P w = .ok (.value v) w' ∧ Below w.heap.size w w' ∧ RA w' (Zf Z gs) h gs v x := by
  obtain ⟨y, t, rfl, rfl, hw, hm⟩ := hx
  have c1 := (ev_ok R y).strip (hw rfl)
  generalize hvy : a.eval y = vy at c1
  generalize (ev s y).strip = xy at c1 hm
  have sl : ∀ (el : TypeId) (A : Option Addr) (n c : Nat), P.underlying t = some (.slice el) → vy = .slice A n c → (execOp a.eval ⟨d, .call ⟨.builtin .len, #[y], #[t]⟩, ty, pos, af, gd⟩).run P w = .ok (.value (.int .i64 n)) w := by
    intro el A n c ht hv
    subst hv
    have := run_len_slice (P := P) (w := w) ht ty A n c
    simp [execOp, resolve, invoke, builtin, hvy, this]
  cases c1 with
  | c _ z hz =>
    cases z with
    | im sz n f =>
      obtain ⟨⟨el, ht⟩, rfl⟩ := hm
      obtain ⟨A, c, rfl, _⟩ := hz.im_inv
      exact ⟨_, w, sl el A n c ht rfl, Below.refl _ _, .c _ _ (.raw _)⟩
    | raw u =>
      have := hz.raw_inv
      subst this
      cases vy with
      | string b =>
        obtain ⟨ht, rfl⟩ := hm
        refine ⟨.int .i64 b.size, w, ?_, Below.refl _ _, .c _ _ (.raw _)⟩
        simp [execOp, resolve, invoke, builtin, hvy, Builtin.len_, run_underlying ht, goInt]
      | _ => exact hm.elim
    | _ => exact hm.elim
  | own A k c o L ty' sz n f ho hL hv =>
    obtain ⟨⟨el, ht⟩, ty2, sz2, n2, f2, e2, hl, rfl⟩ := hm
    rw [ho] at e2
    injection e2 with e3 e4 e5 e6
    subst e5
    have hl := hl rfl
    have hk : k = L := by
      rcases hv hl with ⟨b, K, _, _, e, _⟩ | ⟨e0, e, _⟩
      · omega
      · have hob := R.objs o
        rw [ho] at hob
        rcases hob with ⟨q1, q2⟩ | ⟨b', K', cur, q1, _⟩
        · omega
        · rw [e0] at q1; cases q1
    rw [← hk]
    exact ⟨_, w, sl el A k c ht rfl, Below.refl _ _, .c _ _ (.raw _)⟩
  | osub A k' c o L off k ty' sz n f ho hL hv =>
    obtain ⟨⟨el, ht⟩, ty2, sz2, n2, f2, e2, hl, rfl⟩ := hm
    rw [ho] at e2
    injection e2 with e3 e4 e5 e6
    subst e5
    obtain ⟨_, rfl, _⟩ := hv (hl rfl)
    exact ⟨_, w, sl el A k' c ht rfl, Below.refl _ _, .c _ _ (.raw _)⟩
  | emp A =>
    obtain ⟨⟨el, ht⟩, rfl⟩ := hm
    exact ⟨_, w, sl el A 0 0 ht rfl, Below.refl _ _, .c _ _ (.raw _)⟩
  | _ => exact hm.elim

theorem run_indexAt {t el : TypeId} {j : TypeInfo} (ht : P.underlying t = some (.slice el)) (hj : P.info? el = some j) (ad : Addr) (m c : Nat) (k : IntKind) (n : Int) (h0 : 0 ≤ n) (h1 : n < m) :
    (Instr.indexAt t (.slice (some ad) m c) (.int k n)).run P w = .ok (.pointer (some (ad.add (n.toNat * j.size)))) w := by
  simp [Instr.indexAt, asIntOf, run_underlying ht, sizeOf, typeInfo, hj, h0, h1]

theorem aop1_indexAddr (R : RelG w0 Z nt s h gs a w) {d : Option Tmp} {ty : TypeId} {pos : String} {af : Array Edge} {gd : Option (Nat × Bool)} {x : AV} (t : TypeId) (y z : Operand) (hx : aop1 P (.indexAddr t y z) (ev s) h true x) :
    ∃ v w', (execOp a.eval ⟨d, .indexAddr t y z, ty, pos, af, gd⟩).run P w = .ok (.value v) w' ∧ Below w.heap.size w w' ∧ RA w' (Zf Z gs) h gs v x := by
  obtain ⟨i, j, k, n, e1, e2, e3, ez, hw, hm⟩ := hx
  obtain ⟨hw1, hw2⟩ := hw rfl
  have c1 := (ev_ok R y).strip hw1
  have c2 := (ev_ok R z).raw_of hw2 ez
  generalize hvy : a.eval y = vy at c1
  generalize (ev s y).strip = xy at c1 hm
  obtain ⟨i', dd, t1, t2, -, -, -, t6, t7, -, -⟩ := tinfo_some e1
  obtain ⟨j', dj, u1, u2, u3, -, -, -, -, -, -⟩ := tinfo_some e3
  cases dd with
  | slice el =>
    simp only at t6
    rw [t6] at u1
    have sl : ∀ (ad : Addr) (m c : Nat), vy = .slice (some ad) m c → 0 ≤ n → n < m → (execOp a.eval ⟨d, .indexAddr t y z, ty, pos, af, gd⟩).run P w = .ok (.value (.pointer (some (ad.add (n.toNat * j.size))))) w := by
      intro ad m c hv h0 h1
      subst hv
      have := run_indexAt (P := P) (w := w) t2 u1 ad m c k n h0 h1
      simp only [execOp, hvy, c2, Sem.run_bind, this, Result.andThen_ok, Sem.run_pure, u3]
    cases c1 with
    | c _ q hq =>
      cases q with
      | im sz m f =>
        obtain ⟨hl, rfl⟩ := hm
        obtain ⟨rfl, h0, h1⟩ := hl rfl
        obtain ⟨A, c, rfl, hpos⟩ := hq.im_inv
        obtain ⟨ad, g, rfl, hb, hlt, hnc, hc, ho, hf, hh⟩ := hpos (by omega)
        have hk : n.toNat * j.size + j.size ≤ m * j.size := by rw [← Nat.succ_mul]; exact Nat.mul_le_mul_right _ (by omega)
        have hfl := hf n.toNat (by omega)
        refine ⟨_, w, sl ad m c rfl h0 h1, Below.refl _ _, .pim _ _ (fun q => g (n.toNat * j.size + q)) (by rw [block_add]; exact hb) (by rw [block_add]; exact hlt) (fun q hq => ?_) (fun q hq => ho _ (by omega)) fun q hq => hh _ _ (by omega) (by omega)⟩
        rw [add_add]
        exact hc _ (by omega)
      | _ => exact hm.elim
    | own A q c o L ty' sz m f ho hL hv =>
      obtain ⟨ty2, sz2, n2, f2, e4, hl, rfl⟩ := hm
      rw [ho] at e4
      injection e4 with e5 e6 e7 e8
      subst e6; subst e7
      obtain ⟨hl1, rfl, h0, h1⟩ := hl rfl
      rcases hv hl1 with ⟨b, K, g1, rfl, rfl, rfl⟩ | ⟨g1, rfl, rfl⟩
      · refine ⟨_, w, sl _ _ _ rfl h0 h1, Below.refl _ _, .rp _ o L _ 0 ty' _ _ f ho hL fun _ => ⟨b, _, g1, ?_⟩⟩
        rw [addr_lit]
        simp
      · have hob := R.objs o
        rw [ho] at hob
        rcases hob with ⟨q1, q2⟩ | ⟨b', K', cur, q1, _⟩
        · omega
        · rw [g1] at q1; cases q1
    | osub A q' c o L off q ty' sz m f ho hL hv =>
      obtain ⟨ty2, sz2, n2, f2, e4, hl, rfl⟩ := hm
      rw [ho] at e4
      injection e4 with e5 e6 e7 e8
      subst e6; subst e7
      obtain ⟨hl1, rfl, h0, h1⟩ := hl rfl
      obtain ⟨v1, rfl, v3, v4⟩ := hv hl1
      obtain ⟨b, K, g1, rfl⟩ := v4 (by omega)
      refine ⟨_, w, sl _ _ _ rfl h0 h1, Below.refl _ _, .rp _ o L _ 0 ty' _ _ f ho hL fun _ => ⟨b, K, g1, ?_⟩⟩
      rw [addr_lit, Nat.add_mul]
      simp
    | _ => exact hm.elim
  | _ => simp_all

theorem RC.less {Z Z' : Nat → Prop} {v : Value} {x : CV} (hx : RC w Z v x) (hz : ∀ b, Z' b → Z b) : RC w Z' v x :=
  hx.later ⟨Nat.le_refl _, fun _ _ _ => rfl, fun b hb _ => hz b hb⟩

/-- What the callee sees. -/
theorem view1_ok (R : RelG w0 Z nt s h gs a w) {v : Value} {x : AV} (hx : RA w (Zf Z gs) h gs v x) : RC w Z v (x.view1 h) := by
  have less : ∀ {v : Value} {x : CV}, RC w (Zf Z gs) v x → RC w Z v x := fun hx => hx.less fun b hb => .inl hb
  have nz : ∀ o b K, gs o = some (b, K) → ¬ Z b := fun o b K e hz => by have h1 := R.zlt b hz; have h2 := (R.fresh o b K e).1; omega
  cases hx with
  | c _ y hy => exact less hy
  | emp A => exact .nul _ _ _ _
  | own A k c o L ty sz n f ho hL hv =>
    simp only [AV.view1, ho]
    split
    · rename_i hl
      have hob := R.objs o
      rw [ho] at hob
      rcases hv hl with ⟨b, K, g1, rfl, rfl, rfl⟩ | ⟨g1, rfl, rfl⟩
      · rcases hob with ⟨q1, q2⟩ | ⟨b', K', cur, q1, q2, q3, q4, q5, q6, q7, q8⟩
        · rw [g1] at q1; cases q1
        · rw [g1] at q1
          simp only [Option.some.injEq, Prod.mk.injEq] at q1
          obtain ⟨rfl, rfl⟩ := q1
          have hn : k * sz ≤ c * sz := Nat.mul_le_mul_right _ q4
          refine .im _ k c sz f (fun j => cur.getD j undef) (nz _ _ _ g1) (R.fresh _ _ _ g1).2 q4 (fun j hj => ?_) q7 q6 fun i j hi hj => less (q8 i j hi hj)
          rw [addr_lit, Nat.zero_add]
          exact cell_of_heap q2 (by omega)
      · rcases hob with ⟨q1, rfl⟩ | ⟨b', K', cur, q1, _⟩
        · exact .nul _ _ _ _
        · rw [g1] at q1; cases q1
    · exact .any _
  | osub A k' c o L off k ty sz n f ho hL hv =>
    simp only [AV.view1, ho]
    split
    · rename_i hl
      have hob := R.objs o
      rw [ho] at hob
      obtain ⟨v1, rfl, v3, v4⟩ := hv hl
      rcases Nat.eq_zero_or_pos k' with h0 | h0
      · subst h0
        exact .nul _ _ _ _
      · obtain ⟨b, K, g1, rfl⟩ := v4 h0
        rcases hob with ⟨q1, q2⟩ | ⟨b', K', cur, q1, q2, q3, q4, q5, q6, q7, q8⟩
        · rw [g1] at q1; cases q1
        · rw [g1] at q1
          simp only [Option.some.injEq, Prod.mk.injEq] at q1
          obtain ⟨rfl, rfl⟩ := q1
          have hn : n * sz ≤ K * sz := Nat.mul_le_mul_right _ q4
          have ho2 : off * sz + k' * sz ≤ n * sz := by rw [← Nat.add_mul]; exact Nat.mul_le_mul_right _ v1
          refine .im _ k' c sz _ (fun j => cur.getD (off * sz + j) undef) (nz _ _ _ g1) (R.fresh _ _ _ g1).2 v3 (fun j hj => ?_) (fun j hj => q7 _ (by omega)) (fun i hi => q6 _ (by omega)) fun i j hi hj => ?_
          · rw [addr_lit]
            exact cell_of_heap q2 (by omega)
          · have := q8 (off + i) j (by omega) hj
            rw [Nat.add_mul, Nat.add_assoc] at this
            exact less this
    · exact .any _
  | _ => exact .any _

theorem view_ok (R : RelG w0 Z nt s h gs a w) {v : Value} {x : AV} (hx : RA w (Zf Z gs) h gs v x) : RC w Z v (x.view h) := by
  cases hx with
  | agg cs xs hl ho hh =>
    refine .agg cs _ (by simpa using hl) (fun i hi => ho i (by simpa using hi)) fun i hi => ?_
    have hi' : i < xs.length := by simpa using hi
    rw [getD_lt hi, List.getElem_map]
    have := view1_ok R (hh i hi')
    rw [getD_lt hi'] at this
    exact this
  | c _ y hy => exact view1_ok R (.c _ y hy)
  | emp A => exact view1_ok R (.emp A)
  | own A k c o L ty sz n f ho hL hv => exact view1_ok R (.own A k c o L ty sz n f ho hL hv)
  | osub A k' c o L off k ty sz n f ho hL hv => exact view1_ok R (.osub A k' c o L off k ty sz n f ho hL hv)
  | _ => exact .any _

theorem closed_view {Z : Nat → Prop} {v : Value} {x : AV} (hx : RA w Z h gs v x) (hc : x.closedA = true) : RC w Z v (x.view h) := by
  cases hx with
  | agg cs xs hl ho hh =>
    simp only [AV.closedA, List.all_eq_true] at hc
    refine .agg cs _ (by simpa using hl) (fun i hi => ho i (by simpa using hi)) fun i hi => ?_
    have hi' : i < xs.length := by simpa using hi
    rw [getD_lt hi, List.getElem_map]
    have h1 := hh i hi'
    rw [getD_lt hi'] at h1
    have h2 := hc _ (List.getElem_mem hi')
    cases hx : xs[i] with
    | c y => rw [hx] at h1; exact h1.c_inv
    | emp =>
      rw [hx] at h1
      generalize cs.getD i undef = u at h1
      cases h1
      exact .nul _ _ _ _
    | _ => rw [hx] at h2; simp [AV.closed1] at h2
  | c _ y hy => exact hy
  | emp A => exact .nul _ _ _ _
  | _ => simp [AV.closedA] at hc

/-- A call by its contract. -/
theorem aop1_call (R : RelG w0 Z nt s h gs a w) {d : Option Tmp} {ty : TypeId} {pos : String} {af : Array Edge} {gd : Option (Nat × Bool)} {x : AV} (f : FuncId) (args : Array Operand) (ats : Array TypeId)
    (hx : aop1 P (.call ⟨.value (.func f), args, ats⟩) (ev s) h true x) {K : Act → World → Prop} {Q : Exit → Act → World → Prop}
    (hK : ∀ v w', Below w.heap.size w w' → RA w' (Zf Z gs) h gs v x → K (a.put d v) w') : Oper.wp P ⟨d, .call ⟨.value (.func f), args, ats⟩, ty, pos, af, gd⟩ a w K Q := by
  obtain ⟨cs, r, -, hsub, hw, hp, hfl, rfl⟩ := hx
  have hw := hw rfl
  obtain ⟨⟨fn, f1, f2, f3⟩, hcall⟩ := hp rfl
  have hrun : (execOp a.eval ⟨d, .call ⟨.value (.func f), args, ats⟩, ty, pos, af, gd⟩).run P w = .ok (.enter f (args.map a.eval)) w := by
    have f2' : ¬ fn.name = "runtime.NumGoroutine" := by simpa using f2
    have f3' : ¬ fn.body = none := fun e => by rw [e] at f3; simp at f3
    simp [execOp, resolve, Deferred.ofValue, Act.eval, invoke, callFunc, f1, f2', f3']
  have hlen := hsub.length
  simp only [List.length_map] at hlen
  have hvs : (args.toList.map a.eval).toArray = args.map a.eval := Array.ext' (by simp)
  have hargs : ∀ (i : Nat) (hi : i < args.toList.length), (args.toList.map a.eval).getD i undef = a.eval args.toList[i] := fun i hi => by
    rw [getD_lt (by simpa using hi), List.getElem_map]
  have hxs : ∀ (i : Nat) (hi : i < args.toList.length), (args.toList.map fun y => (ev s y).strip.view h).getD i .any = (ev s args.toList[i]).strip.view h := fun i hi => by
    rw [getD_lt (by simpa using hi), List.getElem_map]
  unfold Oper.wp
  rw [hrun]
  simp only [Oper.upon]
  rcases hfl with hfl | hcl
  · have := hcall Z w (args.toList.map a.eval) (fun b hb => Nat.lt_of_lt_of_le (R.zlt b hb) R.below.size) (by simpa using hlen) (fun i hi => by
      have hi' : i < args.toList.length := by omega
      have h1 := hsub.get i (by simpa using hi')
      rw [hxs i hi'] at h1
      rw [hargs i hi']
      exact h1 _ _ _ (view_ok R ((ev_ok R _).strip (hw _ (List.getElem_mem hi')))))
    rw [hvs] at this
    refine this.mono fun e w' ⟨v, he, hr, hb⟩ => ?_
    subst he
    exact hK v w' hb (.c _ _ (hr.flat hfl))
  · have := hcall (Zf Z gs) w (args.toList.map a.eval) (fun b hb => by
      rcases hb with hb | ⟨o, K', hb⟩
      · exact Nat.lt_of_lt_of_le (R.zlt b hb) R.below.size
      · exact (R.fresh o b K' hb).2) (by simpa using hlen) (fun i hi => by
      have hi' : i < args.toList.length := by omega
      have h1 := hsub.get i (by simpa using hi')
      rw [hxs i hi'] at h1
      rw [hargs i hi']
      exact h1 _ _ _ (closed_view ((ev_ok R _).strip (hw _ (List.getElem_mem hi'))) (hcl _ (List.getElem_mem hi'))))
    rw [hvs] at this
    refine this.mono fun e w' ⟨v, he, hr, hb⟩ => ?_
    subst he
    exact hK v w' hb (.c _ _ hr)

theorem bounds_run {lo hi : Option Operand} {l hh n c : Nat} (hlo : ∀ z, lo = some z → ∃ k, a.eval z = .int k l) (hlo0 : lo = none → l = 0) (hhi : ∀ z, hi = some z → ∃ k, a.eval z = .int k hh) (hhi0 : hi = none → hh = n)
    (h1 : l ≤ hh) (h2 : hh ≤ c) (isSlice : Bool) : (Instr.sliceBounds isSlice n c (lo.map a.eval) (hi.map a.eval) none).run P w = .ok (l, hh, c) w := by
  cases lo with
  | none =>
    have := hlo0 rfl
    subst this
    cases hi with
    | none =>
      have := hhi0 rfl
      subst this
      simp [Instr.sliceBounds]
    | some z =>
      obtain ⟨k, e⟩ := hhi z rfl
      simp [Instr.sliceBounds, e, Instr.sliceBound, asIntOf, h2]
  | some y =>
    obtain ⟨k, e⟩ := hlo y rfl
    cases hi with
    | none =>
      have := hhi0 rfl
      subst this
      simp [Instr.sliceBounds, e, Instr.sliceBound, asIntOf, h1]
    | some z =>
      obtain ⟨k', e'⟩ := hhi z rfl
      simp [Instr.sliceBounds, e, e', Instr.sliceBound, asIntOf, h1, h2]

theorem aop1_slice (R : RelG w0 Z nt s h gs a w) {d : Option Tmp} {ty : TypeId} {pos : String} {af : Array Edge} {gd : Option (Nat × Bool)} {x : AV} (t : TypeId) (y : Operand) (lo hi mx : Option Operand) (hx : aop1 P (.slice t y lo hi mx) (ev s) h true x) :
    ∃ v w', (execOp a.eval ⟨d, .slice t y lo hi mx, ty, pos, af, gd⟩).run P w = .ok (.value v) w' ∧ Below w.heap.size w w' ∧ RA w' (Zf Z gs) h gs v x := by
  cases mx with
  | some m => exact hx.elim
  | none =>
  obtain ⟨l, hh, hlo, hlo0, hhi, hw, hm⟩ := hx
  obtain ⟨hw1, hlh⟩ := hw rfl
  have hlo' : ∀ z, lo = some z → ∃ k, a.eval z = .int k l := fun z e => by
    obtain ⟨q1, k, q2⟩ := hlo z e
    exact ⟨k, (ev_ok R z).raw_of (q1 rfl) q2⟩
  have hhi' : ∀ z, hi = some z → ∃ k, a.eval z = .int k hh := fun z e => by
    obtain ⟨q1, k, q2⟩ := hhi z e
    exact ⟨k, (ev_ok R z).raw_of (q1 rfl) q2⟩
  have c1 := (ev_ok R y).strip hw1
  generalize hvy : a.eval y = vy at c1
  generalize (ev s y).strip = xy at c1 hm
  have hsl : ∀ (el : TypeId) (j : TypeInfo) (A : Option Addr) (n c : Nat), vy = .slice A n c → P.underlying t = some (.slice el) → P.info? el = some j → (hi = none → hh = n) → hh ≤ c →
      (execOp a.eval ⟨d, .slice t y lo hi none, ty, pos, af, gd⟩).run P w = .ok (.value (.slice (if c = l then A else A.map (·.add (l * j.size))) (hh - l) (c - l))) w := by
    intro el j A n c hv ht hj h0 hc
    subst hv
    have hb := bounds_run (P := P) (w := w) hlo' hlo0 hhi' h0 hlh hc true
    simp only [execOp, hvy, Option.map_none, Instr.sliceAt, Sem.run_bind, run_underlying ht, Result.andThen_ok, Instr.slice, hb, sizeOf, typeInfo, run_program, hj, Sem.run_pure]
  cases c1 with
  | c _ q hq =>
    cases q with
    | im sz n f =>
      obtain ⟨⟨i, j, e1, e2, e3, hg⟩, h0, rfl⟩ := hm
      obtain ⟨rfl, hn⟩ := hg rfl
      obtain ⟨i', dd, t1, t2, -, -, -, t6, t7, -, -⟩ := tinfo_some e1
      obtain ⟨j', dj, u1, u2, u3, -, -, -, -, -, -⟩ := tinfo_some e3
      cases dd with
      | slice el =>
        simp only at t6
        rw [t6] at u1
        obtain ⟨A, c, rfl, hpos⟩ := hq.im_inv
        by_cases hz : hh - l = 0
        · by_cases hn0 : 0 < n
          · obtain ⟨ad, g, rfl, hb, hlt, hnc, hc, ho, hf, hh'⟩ := hpos hn0
            refine ⟨_, w, hsl el j' _ n c rfl t2 u1 h0 (by omega), Below.refl _ _, .c _ _ ?_⟩
            rw [hz]
            exact .nul _ _ _ _
          · refine ⟨_, w, hsl el j' _ n c rfl t2 u1 h0 (by omega), Below.refl _ _, .c _ _ ?_⟩
            rw [hz]
            exact .nul _ _ _ _
        · obtain ⟨ad, g, rfl, hb, hlt, hnc, hc, ho, hf, hh'⟩ := hpos (by omega)
          refine ⟨_, w, hsl el j' _ n c rfl t2 u1 h0 (by omega), Below.refl _ _, .c _ _ ?_⟩
          rw [if_neg (by omega)]
          have hm1 : l * j.size + (hh - l) * j.size ≤ n * j.size := by rw [← Nat.add_mul]; exact Nat.mul_le_mul_right _ (by omega)
          refine .im _ _ _ _ _ (fun q => g (l * j.size + q)) (by rw [block_add]; exact hb) (by rw [block_add]; exact hlt) (by omega) (fun q hq => ?_) (fun q hq => ho _ (by omega)) (fun q hq => hf _ (by omega)) fun q r hq hr => ?_
          · rw [add_add, ← u3]
            exact hc _ (by omega)
          · have := hh' (l + q) r (by omega) hr
            rw [Nat.add_mul, Nat.add_assoc] at this
            exact this
      | _ => simp_all
    | raw u =>
      have := hq.raw_inv
      subst this
      cases vy with
      | string b =>
        obtain ⟨ht, hb, h0, rfl⟩ := hm
        refine ⟨.string (b.extract l hh), w, ?_, Below.refl _ _, .c _ _ (.raw _)⟩
        have hbr := bounds_run (P := P) (w := w) (n := b.size) (c := b.size) hlo' hlo0 hhi' h0 hlh (hb rfl) false
        simp only [execOp, hvy, Option.map_none, Instr.sliceAt, Sem.run_bind, run_underlying ht, Result.andThen_ok, Instr.slice, hbr, Option.isSome_none, Bool.false_eq_true, if_false, Sem.run_pure]
      | _ => exact hm.elim
    | _ => exact hm.elim
  | own A k c o L ty' sz n f ho hL hv =>
    obtain ⟨ty2, sz2, n2, f2, e4, ⟨i, j, e1, e2, e3, hg⟩, hl, h0, rfl⟩ := hm
    rw [ho] at e4
    injection e4 with e5 e6 e7 e8
    subst e6; subst e7
    obtain ⟨rfl, hn⟩ := hg rfl
    have hl1 := hl rfl
    obtain ⟨i', dd, t1, t2, -, -, -, t6, t7, -, -⟩ := tinfo_some e1
    obtain ⟨j', dj, u1, u2, u3, -, -, -, -, -, -⟩ := tinfo_some e3
    cases dd with
    | slice el =>
      simp only at t6
      rw [t6] at u1
      have hob := R.objs o
      rw [ho] at hob
      rcases hv hl1 with ⟨b, K, q1, rfl, rfl, rfl⟩ | ⟨q1, rfl, rfl⟩
      · have hkc : k ≤ c := by
          rcases hob with ⟨r1, r2⟩ | ⟨b', K', cur, r1, r2, r3, r4, _⟩
          · omega
          · rw [q1] at r1
            simp only [Option.some.injEq, Prod.mk.injEq] at r1
            omega
        refine ⟨_, w, hsl el j' _ k c rfl t2 u1 h0 (by omega), Below.refl _ _, .osub _ _ _ o L l (hh - l) ty' _ k f ho hL fun _ => ⟨by omega, rfl, by omega, fun hp => ⟨b, c, q1, ?_⟩⟩⟩
        rw [if_neg (by omega), Option.map_some, addr_lit, Nat.zero_add, u3]
      · have hn0 : n = 0 := by
          rcases hob with ⟨r1, r2⟩ | ⟨b', K', cur, r1, _⟩
          · exact r2
          · rw [q1] at r1; cases r1
        subst hn0
        refine ⟨_, w, hsl el j' _ 0 0 rfl t2 u1 h0 (by omega), Below.refl _ _, .osub _ _ _ o L l (hh - l) ty' _ 0 f ho hL fun _ => ⟨by omega, rfl, by omega, fun hp => by omega⟩⟩
    | _ => simp_all
  | _ => exact hm.elim
end

end Go.Am
