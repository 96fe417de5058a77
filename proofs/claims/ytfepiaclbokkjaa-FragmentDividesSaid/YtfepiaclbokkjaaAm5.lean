/- The abstract machine, part 5: the operations that write or make an object of the frame's own (store, box, alloc, make, append, copy), and their soundness. Generic over the program; no condition. -/
import Derived.Test.YtfepiaclbokkjaaAm4
import Derived.Laws.CopyRow
import Derived.Laws.MakeOwn
namespace Go.Am
open Go.RowKit

def setLC (cs : List CV) (off : Nat) (xs : List CV) : List CV := cs.take off ++ xs ++ cs.drop (off + xs.length)

/-- A slice as a source: the size of an element, their number, the elements. -/
def srcOf (h : AH) : AV → Option (Nat × Nat × (Nat → List CV))
  | .c (.im sz m g) => some (sz, m, g)
  | .emp => some (0, 0, fun _ => [])
  | .own o L => match h o with
    | .row _ sz n f => if L = n then some (sz, n, f) else none
    | _ => none
  | .osub o L off k => match h o with
    | .row _ sz n f => if L = n then some (sz, k, fun i => f (off + i)) else none
    | _ => none
  | _ => none

/-- The operations that write: object o becomes x', the value is x. -/
def aop2 (P : Program) (op : Op) (e : Operand → AV) (h : AH) (d : Option Tmp) (o : Nat) (x' : AObj) (x : AV) : Prop :=
  match op with
  | .store t y z => d = none ∧ ∃ i, tinfo P t = some i ∧ (e y).wh = true ∧ (e z).wh = true ∧
      match (e y).strip with
      | .ptr o' off => o = o' ∧ ∃ ty cells l, h o' = .box ty cells ∧ (e z).strip.cells = some l ∧ l.length = i.size ∧ off + i.size ≤ cells.length ∧ x' = .box ty (setL cells off l)
      | .rp o' L k off => o = o' ∧ ∃ ty sz n f l, h o' = .row ty sz n f ∧ L = n ∧ k < n ∧ (e z).strip.closedCells = some l ∧ l.length = i.size ∧ off + i.size ≤ sz ∧ x' = .row ty sz n (upd f k (setLC (f k) off l))
      | _ => False
  | .call { callee := .builtin .append, args := args, argTypes := ats } => ∃ y z t i j sz m g, args = #[y, z] ∧ ats = #[t, t] ∧ tinfo P t = some i ∧ i.slice = true ∧ tinfo P i.elem = some j ∧ 0 < j.size ∧ j.zero.length = j.size ∧
      (e y).wh = true ∧ (e z).wh = true ∧ srcOf h (e z).strip = some (sz, m, g) ∧ (m = 0 ∨ sz = j.size) ∧
      match (e y).strip with
      | .own o' L => o = o' ∧ ∃ ty n f, h o' = .row ty j.size n f ∧ ty = i.elem ∧ L = n ∧ n + m ≤ maxLen ∧ (n + m) * j.bytes ≤ 140737488355328 ∧
          x' = .row ty j.size (n + m) (fun q => if q < n then f q else g (q - n)) ∧ x = .own o (n + m)
      | .emp => d = some o ∧ h o = .gone ∧ m ≤ maxLen ∧ m * j.bytes ≤ 140737488355328 ∧ x' = .row i.elem j.size m g ∧ x = .own o m
      | _ => False
  | .call { callee := .builtin .copy, args := args, argTypes := ats } => ∃ y z t t2 i j sz m g, args = #[y, z] ∧ ats = #[t, t2] ∧ tinfo P t = some i ∧ i.slice = true ∧ tinfo P i.elem = some j ∧
      (e y).wh = true ∧ (e z).wh = true ∧ srcOf h (e z).strip = some (sz, m, g) ∧ (m = 0 ∨ sz = j.size) ∧
      match (e y).strip with
      | .own o' L => o = o' ∧ ∃ ty n f, h o' = .row ty j.size n f ∧ L = n ∧ x' = .row ty j.size n (fun q => if q < Nat.min m n then g q else f q) ∧ x = .int (Nat.min m n : Nat)
      | .osub o' L off k => o = o' ∧ ∃ ty n f, h o' = .row ty j.size n f ∧ L = n ∧ x' = .row ty j.size n (fun q => if off ≤ q ∧ q < off + Nat.min m k then g (q - off) else f q) ∧ x = .int (Nat.min m k : Nat)
      | _ => False
  | _ => False

/-- The operations that make an object: it bears the number of the slot. -/
def aop3 (P : Program) (op : Op) (e : Operand → AV) (d : Nat) (x' : AObj) (x : AV) : Prop :=
  match op with
  | .box t y => ∃ l, (e y).wh = true ∧ (e y).strip.cells = some l ∧ x' = .box t l ∧ x = .ptr d 0
  | .alloc t => ∃ i, tinfo P t = some i ∧ i.zero ≠ [] ∧ x' = .box t (i.zero.map constAV1) ∧ x = .ptr d 0
  | .makeSlice t y z => ∃ i j k1 k2 n, tinfo P t = some i ∧ i.slice = true ∧ tinfo P i.elem = some j ∧ j.zero.length = j.size ∧ 0 < j.size ∧ (e y).wh = true ∧ (e z).wh = true ∧ (e y).strip = .c (.raw (.int k1 n)) ∧ (e z).strip = .c (.raw (.int k2 n)) ∧
      0 ≤ n ∧ n ≤ 9223372036854775807 ∧ j.bytes * n ≤ 281474976710656 ∧ x' = .row i.elem j.size n.toNat (fun _ => j.zero.map fun v => (constAV1 v).closed1.getD .any) ∧ x = .own d n.toNat
  | _ => False

section
variable {w0 w : World} {Z : Nat → Prop} {nt : Nat} {s : Nat → AV} {h : AH} {gs : Gs} {a : Act} {P : Program}

/-- A new object. -/
theorem RelG.new (R : RelG w0 Z nt s h gs a w) (o : Nat) (ho : h o = .gone) (x' : AObj) (K : Nat) (ty : TypeId) (cur : Array Value)
    (hx : Later w (w.alloc (.cells cur ty)) (Zf Z gs) (Zf Z (upd gs o (some (w.heap.size, K)))) → Refs h gs (upd h o x') (upd gs o (some (w.heap.size, K))) →
      RObj (w.alloc (.cells cur ty)) (Zf Z (upd gs o (some (w.heap.size, K)))) (upd h o x') (upd gs o (some (w.heap.size, K))) o x') :
    RelG w0 Z nt s (upd h o x') (upd gs o (some (w.heap.size, K))) a (w.alloc (.cells cur ty)) := by
  refine R.eff o x' (some (w.heap.size, K)) rfl rfl rfl (by simp) (fun k hk _ => Below.heap_alloc w _ k hk) (.inr ⟨_, _, rfl, Nat.le_refl _, by simp⟩) (fun ty cells e => ?_) (fun ty sz n f e => ?_) hx
  · rw [ho] at e; cases e
  · rw [ho] at e; cases e

theorem aop3_box (R : RelG w0 Z nt s h gs a w) {ty : TypeId} {pos : String} {af : Array Edge} {gd : Option (Nat × Bool)} {d : Nat} (hd : d < nt) (ho : h d = .gone) {x' : AObj} {x : AV} (t : TypeId) (y : Operand)
    (hx : aop3 P (.box t y) (ev s) d x' x) :
    ∃ v w', (execOp a.eval ⟨some d, .box t y, ty, pos, af, gd⟩).run P w = .ok (.value v) w' ∧ Rel w0 Z nt (upd s d x) (upd h d x') (a.put (some d) v) w' := by
  obtain ⟨l, hw, hl, rfl, rfl⟩ := hx
  have hc := (ev_ok R y).strip hw
  obtain ⟨c1, c2, c3⟩ := hc.cells_of hl
  have R' := R.new d ho (.box t l) 0 t (a.eval y).cells fun hL hr => ⟨w.heap.size, 0, (a.eval y).cells, upd_same _ _ _, heap_alloc_new w _, c1, c2, fun j hj => (c3 j hj).later hL hr⟩
  refine ⟨.pointer (some ⟨w.heap.size, 0, none⟩), w.alloc (.cells (a.eval y).cells t), ?_, _, R'.put hd (.ptr d 0 w.heap.size 0 t l (upd_same _ _ _) (upd_same _ _ _))⟩
  simp [execOp, Instr.box, newVar, newRow]

theorem aop3_alloc (R : RelG w0 Z nt s h gs a w) {ty : TypeId} {pos : String} {af : Array Edge} {gd : Option (Nat × Bool)} {d : Nat} (hd : d < nt) (ho : h d = .gone) {x' : AObj} {x : AV} (t : TypeId)
    (hx : aop3 P (.alloc t) (ev s) d x' x) :
    ∃ v w', (execOp a.eval ⟨some d, .alloc t, ty, pos, af, gd⟩).run P w = .ok (.value v) w' ∧ Rel w0 Z nt (upd s d x) (upd h d x') (a.put (some d) v) w' := by
  obtain ⟨i, e1, e2, rfl, rfl⟩ := hx
  obtain ⟨j, dd, t1, t2, t3, -, -, -, -, -, t9⟩ := tinfo_some e1
  cases hzz : j.zero with
  | none =>
    rw [hzz] at t9
    exact absurd t9 e2
  | some z =>
    rw [hzz] at t9
    simp only at t9
    obtain ⟨z1, z2⟩ := tinfo_zero e1 t1 hzz
    have R' := R.new d ho (.box t (i.zero.map constAV1)) 0 t z.cells fun hL hr => by
      have hzo := zeros_ok (w := w.alloc (.cells z.cells t)) (h := upd h d (.box t (i.zero.map constAV1))) (gs := upd gs d (some (w.heap.size, 0))) (Z := Zf Z (upd gs d (some (w.heap.size, 0)))) z.cells.toList z2
      rw [Array.toArray_toList, ← t9] at hzo
      exact ⟨w.heap.size, 0, z.cells, upd_same _ _ _, heap_alloc_new w _, hzo.1, hzo.2.1, hzo.2.2⟩
    refine ⟨.pointer (some ⟨w.heap.size, 0, none⟩), w.alloc (.cells z.cells t), ?_, _, R'.put hd (.ptr d 0 w.heap.size 0 t _ (upd_same _ _ _) (upd_same _ _ _))⟩
    simp [execOp, Instr.alloc, zeroValue, typeInfo, t1, hzz, newVar, newRow]

/-- A row of cells laid over with others. -/
theorem getD_splice {cur : Array Value} {off : Nat} {vs : List Value} (hl : off + vs.length ≤ cur.size) (t : Nat) :
    (cur.toList.take off ++ vs ++ cur.toList.drop (off + vs.length)).toArray.getD t undef = if off ≤ t ∧ t < off + vs.length then vs.getD (t - off) undef else cur.getD t undef := by
  simp only [Array.getD_eq_getD_getElem?, List.getD_eq_getElem?_getD, List.getElem?_toArray]
  have hc : ∀ j : Nat, cur[j]? = cur.toList[j]? := fun j => by simp
  by_cases h1 : t < off
  · rw [if_neg (by omega), List.append_assoc, List.getElem?_append_left (by simp; omega), List.getElem?_take, if_pos h1, hc]
  · by_cases h2 : t < off + vs.length
    · rw [if_pos (by omega), List.append_assoc, List.getElem?_append_right (by simp; omega), List.getElem?_append_left (by simp; omega)]
      simp only [List.length_take, Array.length_toList]
      rw [Nat.min_eq_left (by omega)]
    · rw [if_neg (by omega), List.getElem?_append_right (by simp; omega), List.getElem?_drop, hc]
      congr 2
      simp
      omega

theorem size_splice {cur : Array Value} {off : Nat} {vs : List Value} (hl : off + vs.length ≤ cur.size) : (cur.toList.take off ++ vs ++ cur.toList.drop (off + vs.length)).toArray.size = cur.size := by
  simp
  omega

theorem getD_toList {c : Array Value} (i : Nat) : c.toList.getD i undef = c.getD i undef := by simp [List.getD_eq_getElem?_getD, Array.getD_eq_getD_getElem?]

/-- An object's own block is written. -/
theorem RelG.write (R : RelG w0 Z nt s h gs a w) (o b K : Nat) (hg : gs o = some (b, K)) (cur cur' : Array Value) (ty : TypeId) (hcur : w.heap[b]? = some (.cells cur ty (0, 0))) (x' : AObj)
    (hbox : ∀ ty cells, h o = .box ty cells → ∃ ty' cells', x' = .box ty' cells')
    (hrow : ∀ ty sz n f, h o = .row ty sz n f → ∃ n' f', x' = .row ty sz n' f' ∧ n ≤ n')
    (hx : Later w (w.setRow b cur') (Zf Z gs) (Zf Z gs) → Refs h gs (upd h o x') gs → RObj (w.setRow b cur') (Zf Z gs) (upd h o x') gs o x') :
    RelG w0 Z nt s (upd h o x') gs a (w.setRow b cur') := by
  have e : upd gs o (gs o) = gs := funext fun i => by unfold upd; split <;> simp_all
  have := R.eff (w' := w.setRow b cur') o x' (gs o) rfl rfl rfl (by simp) (fun k _ hk => setRow_other w b k _ fun e => hk K (by rw [e]; exact hg)) (.inl rfl) (fun ty cells e => ⟨hbox ty cells e, rfl⟩) (fun ty sz n f e => by
    obtain ⟨n', f', e1, e2⟩ := hrow ty sz n f e
    exact ⟨n', f', e1, e2, fun _ => rfl⟩) (by rw [e]; exact hx)
  rw [e] at this
  exact this

theorem length_setLC {cs xs : List CV} {off : Nat} (hl : off + xs.length ≤ cs.length) : (setLC cs off xs).length = cs.length := by
  unfold setLC
  simp
  omega
theorem getD_setLC {cs xs : List CV} {off t : Nat} (hl : off + xs.length ≤ cs.length) : (setLC cs off xs).getD t .any = if off ≤ t ∧ t < off + xs.length then xs.getD (t - off) .any else cs.getD t .any := by
  unfold setLC
  simp only [List.getD_eq_getElem?_getD]
  by_cases h1 : t < off
  · rw [if_neg (by omega), List.append_assoc, List.getElem?_append_left (by simp; omega), List.getElem?_take, if_pos h1]
  · by_cases h2 : t < off + xs.length
    · rw [if_pos (by omega), List.append_assoc, List.getElem?_append_right (by simp; omega), List.getElem?_append_left (by simp; omega)]
      simp only [List.length_take]
      rw [Nat.min_eq_left (by omega)]
    · rw [if_neg (by omega), List.getElem?_append_right (by simp; omega), List.getElem?_drop]
      congr 2
      simp
      omega

theorem aop2_store (R : RelG w0 Z nt s h gs a w) {ty : TypeId} {pos : String} {af : Array Edge} {gd : Option (Nat × Bool)} {d : Option Tmp} {o : Nat} {x' : AObj} {x : AV} (t : TypeId) (y z : Operand)
    (hx : aop2 P (.store t y z) (ev s) h d o x' x) :
    d = none ∧ ∃ w', (execOp a.eval ⟨d, .store t y z, ty, pos, af, gd⟩).run P w = .ok .skip w' ∧ Rel w0 Z nt s (upd h o x') a w' := by
  obtain ⟨rfl, i, e1, hwy, hwz, hm⟩ := hx
  refine ⟨rfl, ?_⟩
  have c1 := (ev_ok R y).strip hwy
  have c2 := (ev_ok R z).strip hwz
  generalize hvy : a.eval y = vy at c1
  generalize hvz : a.eval z = vz at c2
  generalize (ev s y).strip = xy at c1 hm
  generalize (ev s z).strip = xz at c2 hm
  obtain ⟨j, dd, t1, t2, t3, -⟩ := tinfo_some e1
  have hs : (sizeOf t).run P w = .ok i.size w := by simp [sizeOf, typeInfo, t1, t3]
  have hrun : ∀ (b off : Nat) (cur : Array Value) (ty' : TypeId), vy = .pointer (some ⟨b, off, none⟩) → w.heap[b]? = some (.cells cur ty' (0, 0)) → vz.cells.size = i.size → off + i.size ≤ cur.size → (∀ v ∈ vz.cells.toList, v.oneCell' = true) →
      (execOp a.eval ⟨none, .store t y z, ty, pos, af, gd⟩).run P w = .ok .skip (w.setRow b (cur.toList.take off ++ vz.cells.toList ++ cur.toList.drop (off + vz.cells.toList.length)).toArray) := by
    intro b off cur ty' hv hcur hsz hfit hone
    subst hv
    have hst := run_storeCells_at P b off ty' vz.cells.toList 0 cur w hcur (by rw [Array.length_toList]; omega) hone
    simp only [Nat.add_zero] at hst
    simp only [execOp, hvy, hvz, Instr.storeAt, Instr.sureAddr, Sem.run_bind, Sem.run_pure, Result.andThen_ok, storeVar, hs]
    rw [if_neg (by omega)]
    simp only [Sem.run_bind, Sem.run_pure, Result.andThen_ok, hst]
  cases c1 with
  | ptr o' off b K ty' cells' ho hg =>
    obtain ⟨rfl, ty2, cells, l, e2, e3, e4, e5, rfl⟩ := hm
    have hob := R.objs o
    rw [e2] at hob
    obtain ⟨b', K', cur, g1, g2, g3, g4, g5⟩ := hob
    rw [hg] at g1
    simp only [Option.some.injEq, Prod.mk.injEq] at g1
    obtain ⟨rfl, rfl⟩ := g1
    obtain ⟨l1, l2, l3⟩ := c2.cells_of e3
    have hone : ∀ v ∈ vz.cells.toList, v.oneCell' = true := by
      intro v hv
      obtain ⟨k, hk, rfl⟩ := List.getElem_of_mem hv
      have hk' : k < vz.cells.size := by simpa using hk
      have := l2 k (by omega)
      rw [← getD_toList, getD_lt hk] at this
      exact this
    have hlen : vz.cells.toList.length = l.length := by rw [Array.length_toList]; exact l1
    refine ⟨_, hrun b off cur ty2 rfl g2 (by omega) (by omega) hone, gs, R.write o b K hg cur _ ty2 g2 _ (fun _ _ _ => ⟨_, _, rfl⟩) (fun ty sz n f e => by rw [e2] at e; cases e) fun hL hr => ?_⟩
    have hsl : (setL cells off l).length = cells.length := length_setL (by omega)
    refine ⟨b, K, _, hg, setRow_heap w b cur _ ty2 _ g2, by rw [size_splice (by omega), hsl, g3], fun k hk => ?_, fun k hk => ?_⟩ <;> rw [hsl] at hk <;> rw [getD_splice (by omega)]
    · split
      · rw [getD_toList]; exact l2 _ (by omega)
      · exact g4 k hk
    · rw [getD_setL (by omega)]
      by_cases h1 : off ≤ k ∧ k < off + l.length
      · rw [if_pos (by omega), if_pos h1, getD_toList]; exact (l3 _ (by omega)).later hL hr
      · rw [if_neg (by omega), if_neg h1]; exact (g5 k hk).later hL hr
  | rp ad o' L k off ty' sz n f ho hL hv =>
    obtain ⟨rfl, ty2, sz2, n2, f2, l, e2, rfl, hk, e3, e4, e5, rfl⟩ := hm
    rw [ho] at e2
    injection e2 with e6 e7 e8 e9
    subst e6; subst e7; subst e8; subst e9
    obtain ⟨b, K, g1, rfl⟩ := hv rfl
    have hob := R.objs o
    rw [ho] at hob
    rcases hob with ⟨q1, q2⟩ | ⟨b', K', cur, q1, q2, q3, q4, q5, q6, q7, q8⟩
    · omega
    rw [g1] at q1
    simp only [Option.some.injEq, Prod.mk.injEq] at q1
    obtain ⟨rfl, rfl⟩ := q1
    obtain ⟨l1, l2, l3⟩ := c2.closedCells_of e3
    have hone : ∀ v ∈ vz.cells.toList, v.oneCell' = true := by
      intro v hv
      obtain ⟨k, hk, rfl⟩ := List.getElem_of_mem hv
      have hk' : k < vz.cells.size := by simpa using hk
      have := l2 k (by omega)
      rw [← getD_toList, getD_lt hk] at this
      exact this
    have hlen : vz.cells.toList.length = l.length := by rw [Array.length_toList]; exact l1
    have hkn : k * sz + sz ≤ n * sz := by rw [← Nat.succ_mul]; exact Nat.mul_le_mul_right _ hk
    have hn : n * sz ≤ K * sz := Nat.mul_le_mul_right _ q4
    have hfk := q6 k hk
    refine ⟨_, hrun b (k * sz + off) cur ty' rfl q2 (by omega) (by omega) hone, gs, R.write o b K g1 cur _ ty' q2 _ (fun ty cells e => by rw [ho] at e; cases e) (fun ty sz2 n2 f2 e => by rw [ho] at e; injection e with e1 e2 e3 e4; subst e1; subst e2; subst e3; exact ⟨_, _, rfl, Nat.le_refl _⟩) fun hL hr => ?_⟩
    refine .inr ⟨b, K, _, g1, setRow_heap w b cur _ ty' _ q2, by rw [size_splice (by omega), q3], q4, q5, fun q hq => ?_, fun q hq => ?_, fun q r hq hr' => ?_⟩
    · unfold upd
      split
      · rename_i hqk
        rw [length_setLC (by omega)]
        exact hfk
      · exact q6 q hq
    · rw [getD_splice (by omega)]
      split
      · rw [getD_toList]; exact l2 _ (by omega)
      · exact q7 q hq
    · rw [getD_splice (by omega)]
      by_cases hqk : q = k
      · subst hqk
        rw [upd_same, getD_setLC (by omega)]
        by_cases h1 : off ≤ r ∧ r < off + l.length
        · rw [if_pos (by omega), if_pos h1, getD_toList, show q * sz + r - (q * sz + off) = r - off by omega]
          exact (l3 _ (by omega)).later hL
        · rw [if_neg (by omega), if_neg h1]
          exact (q8 q r hq hr').later hL
      · rw [upd_ne _ _ _ _ hqk]
        rw [if_neg]
        · exact (q8 q r hq hr').later hL
        · intro ⟨h1, h2⟩
          rcases Nat.lt_or_gt_of_ne hqk with h3 | h3
          · have : q * sz + sz ≤ k * sz := by rw [← Nat.succ_mul]; exact Nat.mul_le_mul_right _ h3
            omega
          · have : k * sz + sz ≤ q * sz := by rw [← Nat.succ_mul]; exact Nat.mul_le_mul_right _ h3
            omega
  | _ => exact hm.elim
end

end Go.Am
