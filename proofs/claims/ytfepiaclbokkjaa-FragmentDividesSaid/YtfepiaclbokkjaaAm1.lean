/- The abstract machine, part 1: immutable trees (CV), machine values (AV), objects of the frame's own, and what it means that a world holds them. Generic over the program; no condition. -/
import Derived.Below
import Derived.Laws.OwnMore
import Derived.Deep.LoopGhost
import Derived.Calls
import Derived.Orders
import Derived.Tactics
import Derived.ChangeSame
namespace Go.Am
open Go.RowKit

/-- An immutable value: what a Go value reads as. 'im': a slice of n elements of sz cells each. -/
inductive CV where
  | any
  | raw (v : Value)
  | agg (xs : List CV)
  | tup (xs : List CV)
  | im (sz n : Nat) (f : Nat → List CV)

instance : Inhabited CV := ⟨.any⟩

/-- 'v' reads as the tree in the world 'w', through blocks that are not in 'Z' alone. -/
inductive RC (w : World) (Z : Nat → Prop) : Value → CV → Prop
  | any (v : Value) : RC w Z v .any
  | raw (v : Value) : RC w Z v (.raw v)
  | agg (cs : Array Value) (xs : List CV) (hl : cs.size = xs.length) (ho : ∀ i, i < xs.length → (cs.getD i undef).oneCell' = true)
      (h : ∀ i, i < xs.length → RC w Z (cs.getD i undef) (xs.getD i .any)) : RC w Z (.agg cs) (.agg xs)
  | tup (cs : Array Value) (xs : List CV) (hl : cs.size = xs.length)
      (h : ∀ i, i < xs.length → RC w Z (cs.getD i undef) (xs.getD i .any)) : RC w Z (.tuple cs) (.tup xs)
  | nul (A : Option Addr) (c sz : Nat) (f : Nat → List CV) : RC w Z (.slice A 0 c) (.im sz 0 f)
  | im (a : Addr) (n c sz : Nat) (f : Nat → List CV) (g : Nat → Value) (hb : ¬ Z a.block) (hlt : a.block < w.heap.size) (hnc : n ≤ c)
      (hc : ∀ j, j < n * sz → w.cell? (a.add j) = some (g j)) (ho : ∀ j, j < n * sz → (g j).oneCell' = true)
      (hf : ∀ i, i < n → (f i).length = sz)
      (h : ∀ i j, i < n → j < sz → RC w Z (g (i * sz + j)) ((f i).getD j .any)) : RC w Z (.slice (some a) n c) (.im sz n f)

/-- From one world to a later one. -/
structure Later (w w' : World) (Z Z' : Nat → Prop) : Prop where
  size : w.heap.size ≤ w'.heap.size
  block : ∀ b, ¬ Z b → b < w.heap.size → w'.heap[b]? = w.heap[b]?
  avoid : ∀ b, Z' b → b < w.heap.size → Z b

theorem Later.refl (w : World) (Z : Nat → Prop) : Later w w Z Z := ⟨Nat.le_refl _, fun _ _ _ => rfl, fun _ h _ => h⟩

theorem Later.trans {w w' w'' : World} {Z Z' Z'' : Nat → Prop} (h : Later w w' Z Z') (k : Later w' w'' Z' Z'') : Later w w'' Z Z'' :=
  ⟨Nat.le_trans h.size k.size,
   fun b hb hl => (k.block b (fun hz => hb (h.avoid b hz hl)) (Nat.lt_of_lt_of_le hl h.size)).trans (h.block b hb hl),
   fun b hz hl => h.avoid b (k.avoid b hz (Nat.lt_of_lt_of_le hl h.size)) hl⟩

theorem block_add (a : Addr) (n : Nat) : (a.add n).block = a.block := by unfold Addr.add; split <;> rfl
theorem add_add (a : Addr) (i j : Nat) : (a.add i).add j = a.add (i + j) := by
  unfold Addr.add
  by_cases hi : i = 0 <;> by_cases hj : j = 0 <;> simp [hi, hj, Nat.add_assoc]

theorem Later.cell {w w' : World} {Z Z' : Nat → Prop} (h : Later w w' Z Z') {a : Addr} (hb : ¬ Z a.block) (hl : a.block < w.heap.size) : w'.cell? a = w.cell? a :=
  World.cell?_of_block (h.block _ hb hl)

theorem RC.later {w w' : World} {Z Z' : Nat → Prop} {v : Value} {x : CV} (h : RC w Z v x) (hw : Later w w' Z Z') : RC w' Z' v x := by
  induction h with
  | any v => exact .any v
  | raw v => exact .raw v
  | agg cs xs hl ho _ ih => exact .agg cs xs hl ho ih
  | tup cs xs hl _ ih => exact .tup cs xs hl ih
  | nul A c sz f => exact .nul A c sz f
  | im a n c sz f g hb hlt hnc hc ho hf _ ih =>
    refine .im a n c sz f g (fun hz => hb (hw.avoid _ hz hlt)) (Nat.lt_of_lt_of_le hlt hw.size) hnc (fun j hj => ?_) ho hf ih
    rw [hw.cell (by rw [block_add]; exact hb) (by rw [block_add]; exact hlt)]
    exact hc j hj

theorem getD_lt {α : Type} {l : List α} {i : Nat} {d : α} (h : i < l.length) : l.getD i d = l[i] := by simp [List.getD, List.getElem?_eq_getElem h]

/-- A tree whose reading touches no memory. -/
def CV.flat1 : CV → Bool
  | .any | .raw _ => true
  | _ => false
def CV.flat : CV → Bool
  | .any | .raw _ => true
  | .agg xs | .tup xs => xs.all CV.flat1
  | _ => false

theorem RC.flat1 {w w' : World} {Z Z' : Nat → Prop} {v : Value} {x : CV} (h : RC w Z v x) (hx : x.flat1 = true) : RC w' Z' v x := by
  cases h <;> simp [CV.flat1] at hx
  · exact .any v
  · exact .raw v

theorem RC.flat {w w' : World} {Z Z' : Nat → Prop} {v : Value} {x : CV} (h : RC w Z v x) (hx : x.flat = true) : RC w' Z' v x := by
  cases h with
  | any => exact .any v
  | raw => exact .raw v
  | agg cs xs hl ho hh =>
    refine .agg cs xs hl ho fun i hi => (hh i hi).flat1 ?_
    simp only [CV.flat, List.all_eq_true] at hx
    rw [getD_lt hi]
    exact hx _ (List.getElem_mem hi)
  | tup cs xs hl hh =>
    refine .tup cs xs hl fun i hi => (hh i hi).flat1 ?_
    simp only [CV.flat, List.all_eq_true] at hx
    rw [getD_lt hi]
    exact hx _ (List.getElem_mem hi)
  | nul => simp [CV.flat] at hx
  | im => simp [CV.flat] at hx

/-- Whatever reads as x reads as y. -/
def CV.Sub (x y : CV) : Prop := ∀ (w : World) (Z : Nat → Prop) (v : Value), RC w Z v x → RC w Z v y

theorem CV.Sub.refl (x : CV) : CV.Sub x x := fun _ _ _ h => h
theorem CV.Sub.trans {x y z : CV} (h : CV.Sub x y) (k : CV.Sub y z) : CV.Sub x z := fun w Z v r => k w Z v (h w Z v r)
theorem CV.Sub.any (x : CV) : CV.Sub x .any := fun _ _ _ _ => .any _
theorem CV.Sub.of_eq {x y : CV} (h : x = y) : CV.Sub x y := h ▸ CV.Sub.refl x

theorem CV.Sub.im {sz n n' : Nat} {f f' : Nat → List CV} (hn : n = n') (h : ∀ i, i < n → f i = f' i) : CV.Sub (.im sz n f) (.im sz n' f') := by
  subst hn
  intro w Z v r
  cases r with
  | nul => exact .nul _ _ _ _
  | im a _ c _ _ g hb hlt hnc hc ho hf hh =>
    exact .im a n c sz f' g hb hlt hnc hc ho (fun i hi => (h i hi) ▸ hf i hi) (fun i j hi hj => (h i hi) ▸ hh i j hi hj)

theorem CV.Sub.im0 {sz sz' n n' : Nat} {f f' : Nat → List CV} (hn : n = 0) (hn' : n' = 0) : CV.Sub (.im sz n f) (.im sz' n' f') := by
  subst hn; subst hn'
  intro w Z v r
  cases r with
  | nul => exact .nul _ _ _ _
  | im a _ c _ _ g hb hlt hnc hc ho hf hh => exact .nul _ _ _ _

/-- Elementwise. -/
theorem CV.Sub.im' {sz n n' : Nat} {f f' : Nat → List CV} (hn : n = n') (hl : ∀ i, i < n → (f' i).length = (f i).length) (h : ∀ i j, i < n → j < sz → CV.Sub ((f i).getD j .any) ((f' i).getD j .any)) : CV.Sub (.im sz n f) (.im sz n' f') := by
  subst hn
  intro w Z v r
  cases r with
  | nul => exact .nul _ _ _ _
  | im a _ c _ _ g hb hlt hnc hc ho hf hh =>
    exact .im a n c sz f' g hb hlt hnc hc ho (fun i hi => (hl i hi).trans (hf i hi)) (fun i j hi hj => h i j hi hj _ _ _ (hh i j hi hj))

theorem CV.Sub.agg {xs ys : List CV} (hl : xs.length = ys.length) (h : ∀ i, i < xs.length → CV.Sub (xs.getD i .any) (ys.getD i .any)) : CV.Sub (.agg xs) (.agg ys) := by
  intro w Z v r
  cases r with
  | agg cs _ hcl ho hh => exact .agg cs ys (hcl.trans hl) (fun i hi => ho i (by omega)) fun i hi => h i (by omega) _ _ _ (hh i (by omega))

theorem CV.Sub.tup {xs ys : List CV} (hl : xs.length = ys.length) (h : ∀ i, i < xs.length → CV.Sub (xs.getD i .any) (ys.getD i .any)) : CV.Sub (.tup xs) (.tup ys) := by
  intro w Z v r
  cases r with
  | tup cs _ hcl hh => exact .tup cs ys (hcl.trans hl) fun i hi => h i (by omega) _ _ _ (hh i (by omega))

/-- A value of the frame: a tree, or something that leads to an object of the frame's own. -/
inductive AV where
  | c (x : CV)
  | agg (xs : List AV)
  | pim (xs : List CV)
  | ptr (o off : Nat)
  | rp (o L i off : Nat)
  | own (o L : Nat)
  | osub (o L off n : Nat)
  | emp
  | when (b : Bool) (x : AV)

instance : Inhabited AV := ⟨.c .any⟩

/-- An object of the frame's own: a variable in memory (box); a row behind a slice that is written or appended to. -/
inductive AObj where
  | gone
  | box (ty : TypeId) (cells : List AV)
  | row (ty : TypeId) (sz n : Nat) (f : Nat → List CV)

instance : Inhabited AObj := ⟨.gone⟩

/-- Where the objects lie: block and capacity. -/
abbrev Gs := Nat → Option (Nat × Nat)

/-- The objects of the frame, by number: the number is the slot of the operation that made it. -/
abbrev AH := Nat → AObj

inductive RA (w : World) (Z : Nat → Prop) (h : AH) (gs : Gs) : Value → AV → Prop
  | c (v : Value) (x : CV) (hx : RC w Z v x) : RA w Z h gs v (.c x)
  | agg (cs : Array Value) (xs : List AV) (hl : cs.size = xs.length) (ho : ∀ i, i < xs.length → (cs.getD i undef).oneCell' = true)
      (hh : ∀ i, i < xs.length → RA w Z h gs (cs.getD i undef) (xs.getD i default)) : RA w Z h gs (.agg cs) (.agg xs)
  | pim (a : Addr) (xs : List CV) (g : Nat → Value) (hb : ¬ Z a.block) (hlt : a.block < w.heap.size)
      (hc : ∀ j, j < xs.length → w.cell? (a.add j) = some (g j)) (ho : ∀ j, j < xs.length → (g j).oneCell' = true)
      (hh : ∀ j, j < xs.length → RC w Z (g j) (xs.getD j .any)) : RA w Z h gs (.pointer (some a)) (.pim xs)
  | ptr (o off b K : Nat) (ty : TypeId) (cells : List AV) (ho : h o = .box ty cells) (hg : gs o = some (b, K)) : RA w Z h gs (.pointer (some ⟨b, off, none⟩)) (.ptr o off)
  | rp (ad : Addr) (o L i off : Nat) (ty : TypeId) (sz n : Nat) (f : Nat → List CV) (ho : h o = .row ty sz n f) (hL : L ≤ n)
      (hv : L = n → ∃ b K, gs o = some (b, K) ∧ ad = ⟨b, i * sz + off, none⟩) : RA w Z h gs (.pointer (some ad)) (.rp o L i off)
  | own (A : Option Addr) (k c : Nat) (o L : Nat) (ty : TypeId) (sz n : Nat) (f : Nat → List CV) (ho : h o = .row ty sz n f) (hL : L ≤ n)
      (hv : L = n → (∃ b K, gs o = some (b, K) ∧ A = some ⟨b, 0, none⟩ ∧ k = n ∧ c = K) ∨ (gs o = none ∧ k = 0 ∧ c = 0)) : RA w Z h gs (.slice A k c) (.own o L)
  | osub (A : Option Addr) (k' c : Nat) (o L off k : Nat) (ty : TypeId) (sz n : Nat) (f : Nat → List CV) (ho : h o = .row ty sz n f) (hL : L ≤ n)
      (hv : L = n → off + k ≤ n ∧ k' = k ∧ k ≤ c ∧ (0 < k → ∃ b K, gs o = some (b, K) ∧ A = some ⟨b, off * sz, none⟩)) : RA w Z h gs (.slice A k' c) (.osub o L off k)
  | emp (A : Option Addr) : RA w Z h gs (.slice A 0 0) .emp
  | when (v : Value) (b : Bool) (x : AV) (hx : b = true → RA w Z h gs v x) (hu : b = false → v = undef) : RA w Z h gs v (.when b x)

def AV.wh : AV → Bool
  | .when b x => b && x.wh
  | _ => true
def AV.strip : AV → AV
  | .when _ x => x.strip
  | x => x

theorem RA.strip {w : World} {Z : Nat → Prop} {h : AH} {gs : Gs} {v : Value} {x : AV} (hx : RA w Z h gs v x) (hw : x.wh = true) : RA w Z h gs v x.strip := by
  induction hx with
  | when v b x _ hu ih =>
    simp only [AV.wh, Bool.and_eq_true] at hw
    exact ih hw.1 hw.2
  | c v x hx => exact .c v x hx
  | agg cs xs hl ho hh => exact .agg cs xs hl ho hh
  | pim a xs g hb hlt hc ho hh => exact .pim a xs g hb hlt hc ho hh
  | ptr o off b K ty cells ho hg => exact .ptr o off b K ty cells ho hg
  | rp v o L i off ty sz n f ho hL hv => exact .rp v o L i off ty sz n f ho hL hv
  | own A k c o L ty sz n f ho hL hv => exact .own A k c o L ty sz n f ho hL hv
  | osub A k' c o L off k ty sz n f ho hL hv => exact .osub A k' c o L off k ty sz n f ho hL hv
  | emp A => exact .emp A

/-- How references fare from one set of objects to another. -/
structure Refs (h : AH) (gs : Gs) (h' : AH) (gs' : Gs) : Prop where
  box : ∀ o ty cells, h o = .box ty cells → (∃ ty' cells', h' o = .box ty' cells') ∧ gs' o = gs o
  row : ∀ o ty sz n f, h o = .row ty sz n f → ∃ n' f', h' o = .row ty sz n' f' ∧ n ≤ n' ∧ (n' = n → gs' o = gs o)

theorem Refs.refl (h : AH) (gs : Gs) : Refs h gs h gs := ⟨fun _ ty cells e => ⟨⟨ty, cells, e⟩, rfl⟩, fun _ _ _ n f e => ⟨n, f, e, Nat.le_refl _, fun _ => rfl⟩⟩

theorem RA.later {w w' : World} {Z Z' : Nat → Prop} {h h' : AH} {gs gs' : Gs} {v : Value} {x : AV} (hx : RA w Z h gs v x) (hw : Later w w' Z Z') (hr : Refs h gs h' gs') : RA w' Z' h' gs' v x := by
  induction hx with
  | when v b x _ hu ih => exact .when v b x (fun e => ih e) hu
  | c v x hx => exact .c v x (hx.later hw)
  | agg cs xs hl ho _ ih => exact .agg cs xs hl ho ih
  | pim a xs g hb hlt hc ho hh =>
    refine .pim a xs g (fun hz => hb (hw.avoid _ hz hlt)) (Nat.lt_of_lt_of_le hlt hw.size) (fun j hj => ?_) ho fun j hj => (hh j hj).later hw
    rw [hw.cell (by rw [block_add]; exact hb) (by rw [block_add]; exact hlt)]
    exact hc j hj
  | ptr o off b K ty cells ho hg =>
    obtain ⟨⟨ty', cells', e⟩, e2⟩ := hr.box o ty cells ho
    exact .ptr o off b K ty' cells' e (e2.trans hg)
  | rp v o L i off ty sz n f ho hL hv =>
    obtain ⟨n', f', e, hn, hg⟩ := hr.row o ty sz n f ho
    refine .rp v o L i off ty sz n' f' e (Nat.le_trans hL hn) fun e3 => ?_
    have hn' : n' = n := by omega
    obtain ⟨b, K, e4, e5⟩ := hv (by omega)
    exact ⟨b, K, (hg hn').trans e4, e5⟩
  | own A k c o L ty sz n f ho hL hv =>
    obtain ⟨n', f', e, hn, hg⟩ := hr.row o ty sz n f ho
    refine .own A k c o L ty sz n' f' e (Nat.le_trans hL hn) fun e3 => ?_
    have hn' : n' = n := by omega
    rcases hv (by omega) with ⟨b, K, e4, e5, e6, e7⟩ | ⟨e4, e5⟩
    · exact .inl ⟨b, K, (hg hn').trans e4, e5, by omega, e7⟩
    · exact .inr ⟨(hg hn').trans e4, e5⟩
  | osub A k' c o L off k ty sz n f ho hL hv =>
    obtain ⟨n', f', e, hn, hg⟩ := hr.row o ty sz n f ho
    refine .osub A k' c o L off k ty sz n' f' e (Nat.le_trans hL hn) fun e3 => ?_
    have hn' : n' = n := by omega
    obtain ⟨e4, e5, e6, e7⟩ := hv (by omega)
    refine ⟨by omega, e5, e6, fun hk => ?_⟩
    obtain ⟨b, K, e8, e9⟩ := e7 hk
    exact ⟨b, K, (hg hn').trans e8, e9⟩
  | emp A => exact .emp A

/-- One object as the world holds it. -/
def RObj (w : World) (Z : Nat → Prop) (h : AH) (gs : Gs) (o : Nat) : AObj → Prop
  | .gone => gs o = none
  | .box ty cells => ∃ b K cur, gs o = some (b, K) ∧ w.heap[b]? = some (.cells cur ty (0, 0)) ∧ cur.size = cells.length ∧
      (∀ j, j < cells.length → (cur.getD j undef).oneCell' = true) ∧ ∀ j, j < cells.length → RA w Z h gs (cur.getD j undef) (cells.getD j default)
  | .row ty sz n f => (gs o = none ∧ n = 0) ∨ ∃ b K cur, gs o = some (b, K) ∧ w.heap[b]? = some (.cells cur ty (0, 0)) ∧ cur.size = K * sz ∧ n ≤ K ∧ K ≤ maxLen ∧
      (∀ i, i < n → (f i).length = sz) ∧ (∀ j, j < n * sz → (cur.getD j undef).oneCell' = true) ∧
      ∀ i j, i < n → j < sz → RC w Z (cur.getD (i * sz + j) undef) ((f i).getD j .any)

/-- What immutable values avoid: the blocks of the callers' own, and those of the frame's. -/
def Zf (Z : Nat → Prop) (gs : Gs) : Nat → Prop := fun b => Z b ∨ ∃ o K, gs o = some (b, K)

/-- The state of the abstract machine (slots s, objects h) as the frame 'a' and the world 'w' hold it; w0: the world at the frame's entry. -/
structure RelG (w0 : World) (Z : Nat → Prop) (nt : Nat) (s : Nat → AV) (h : AH) (gs : Gs) (a : Act) (w : World) : Prop where
  below : Below w0.heap.size w0 w
  zlt : ∀ b, Z b → b < w0.heap.size
  fresh : ∀ o b K, gs o = some (b, K) → w0.heap.size ≤ b ∧ b < w.heap.size
  inj : ∀ o o' b K K', gs o = some (b, K) → gs o' = some (b, K') → o = o'
  objs : ∀ o, RObj w (Zf Z gs) h gs o (h o)
  slots : ∀ t, RA w (Zf Z gs) h gs (a.tmps.getD t undef) (s t)
  size : a.tmps.size = nt
  defers : a.defers = []

def Rel (w0 : World) (Z : Nat → Prop) (nt : Nat) (s : Nat → AV) (h : AH) (a : Act) (w : World) : Prop := ∃ gs, RelG w0 Z nt s h gs a w

/-- One slot, one object set anew. -/
def upd {α : Type} (s : Nat → α) (t : Nat) (x : α) : Nat → α := fun i => if i = t then x else s i
theorem upd_same {α : Type} (s : Nat → α) (t : Nat) (x : α) : upd s t x t = x := by simp [upd]
theorem upd_ne {α : Type} (s : Nat → α) (t i : Nat) (x : α) (h : i ≠ t) : upd s t x i = s i := by simp [upd, h]
def updO (s : Nat → AV) (d : Option Tmp) (x : AV) : Nat → AV := match d with | some t => upd s t x | none => s

theorem put_getD {a : Act} {d t : Nat} {v : Value} (hd : d < a.tmps.size) : (a.put (some d) v).tmps.getD t undef = if t = d then v else a.tmps.getD t undef := by
  unfold Act.put
  simp only [Array.getD_eq_getD_getElem?]
  by_cases h : t = d
  · subst h; simp [hd]
  · simp [h, Array.getElem?_setIfInBounds_ne (Ne.symm h)]

theorem put_size {a : Act} {d : Option Tmp} {v : Value} : (a.put d v).tmps.size = a.tmps.size := by cases d <;> simp [Act.put]
theorem put_def {a : Act} {d : Option Tmp} {v : Value} : (a.put d v).defers = a.defers := by cases d <;> rfl

end Go.Am
