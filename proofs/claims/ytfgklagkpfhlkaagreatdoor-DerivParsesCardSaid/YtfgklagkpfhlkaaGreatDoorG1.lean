/- Merged texts: Bm1 Bm2 Bm3 Bm4 Bm5 Bm6 Bm7 Bm8 Bm9 BmA BmB. -/
import Derived.Below
import Derived.Laws.OwnMore
import Derived.Deep.LoopGhost
import Derived.Calls
import Derived.Orders
import Derived.Tactics
import Derived.ChangeSame
import Derived.Laws.Entries
import Derived.Laws.Build
import Derived.WalkKit
import Derived.Laws.CopyRow
import Derived.Laws.MakeOwn
set_option linter.unusedVariables false
set_option linter.unusedSimpArgs false
/- The abstract machine, part 1: immutable trees (CV), machine values (AV), objects of the frame's own, and what it means that a world holds them. Generic over the program; no condition. -/
namespace Go.Am
open Go.RowKit

/-- An immutable value: what a Go value reads as. 'im': a slice of n elements of sz cells each. -/
inductive CV where
  | any
  | raw (v : Value)
  | agg (xs : List CV)
  | tup (xs : List CV)
  | im (sz n : Nat) (f : Nat → List CV)
  | emp

instance : Inhabited CV := ⟨.any⟩

/-- 'v' reads as the tree in the world 'w', through blocks that are not in 'Z' alone. -/
inductive RC (w : World) (Z : Nat → Prop) : Value → CV → Prop
  | any (v : Value) : RC w Z v .any
  | raw (v : Value) : RC w Z v (.raw v)
  | agg (cs : Array Value) (xs : List CV) (hl : cs.size = xs.length) (ho : ∀ i, i < xs.length → (cs.getD i undef).oneCell' = true)
      (h : ∀ i, i < xs.length → RC w Z (cs.getD i undef) (xs.getD i .any)) : RC w Z (.agg cs) (.agg xs)
  | tup (cs : Array Value) (xs : List CV) (hl : cs.size = xs.length)
      (h : ∀ i, i < xs.length → RC w Z (cs.getD i undef) (xs.getD i .any)) : RC w Z (.tuple cs) (.tup xs)
  | nul (A : Option Addr) (c sz : Nat) (f : Nat → List CV) : RC w Z (.slice A 0 c) (.im sz 0 f)
  | emp (A : Option Addr) : RC w Z (.slice A 0 0) .emp
  | im (a : Addr) (n c sz : Nat) (f : Nat → List CV) (g : Nat → Value) (hb : ¬ Z a.block) (hlt : a.block < w.heap.size) (hnc : n ≤ c)
      (hc : ∀ j, j < n * sz → w.cell? (a.add j) = some (g j)) (ho : ∀ j, j < n * sz → (g j).oneCell' = true)
      (hf : ∀ i, i < n → (f i).length = sz)
      (h : ∀ i j, i < n → j < sz → RC w Z (g (i * sz + j)) ((f i).getD j .any)) : RC w Z (.slice (some a) n c) (.im sz n f)

/-- From one world to a later one. -/
structure Later (w w' : World) (Z Z' : Nat → Prop) : Prop where
  size : w.heap.size ≤ w'.heap.size
  block : ∀ b, ¬ Z b → b < w.heap.size → w'.heap[b]? = w.heap[b]?
  avoid : ∀ b, Z' b → b < w.heap.size → Z b

theorem Later.refl (w : World) (Z : Nat → Prop) : Later w w Z Z := ⟨Nat.le_refl _, fun _ _ _ => rfl, fun _ h _ => h⟩

theorem Later.trans {w w' w'' : World} {Z Z' Z'' : Nat → Prop} (h : Later w w' Z Z') (k : Later w' w'' Z' Z'') : Later w w'' Z Z'' :=
  ⟨Nat.le_trans h.size k.size,
   fun b hb hl => (k.block b (fun hz => hb (h.avoid b hz hl)) (Nat.lt_of_lt_of_le hl h.size)).trans (h.block b hb hl),
   fun b hz hl => h.avoid b (k.avoid b hz (Nat.lt_of_lt_of_le hl h.size)) hl⟩

theorem block_add (a : Addr) (n : Nat) : (a.add n).block = a.block := by unfold Addr.add; split <;> rfl
theorem add_add (a : Addr) (i j : Nat) : (a.add i).add j = a.add (i + j) := by
  unfold Addr.add
  by_cases hi : i = 0 <;> by_cases hj : j = 0 <;> simp [hi, hj, Nat.add_assoc]

theorem Later.cell {w w' : World} {Z Z' : Nat → Prop} (h : Later w w' Z Z') {a : Addr} (hb : ¬ Z a.block) (hl : a.block < w.heap.size) : w'.cell? a = w.cell? a :=
  World.cell?_of_block (h.block _ hb hl)

theorem RC.later {w w' : World} {Z Z' : Nat → Prop} {v : Value} {x : CV} (h : RC w Z v x) (hw : Later w w' Z Z') : RC w' Z' v x := by
  induction h with
  | any v => exact .any v
  | raw v => exact .raw v
  | agg cs xs hl ho _ ih => exact .agg cs xs hl ho ih
  | tup cs xs hl _ ih => exact .tup cs xs hl ih
  | nul A c sz f => exact .nul A c sz f
  | emp A => exact .emp A
  | im a n c sz f g hb hlt hnc hc ho hf _ ih =>
    refine .im a n c sz f g (fun hz => hb (hw.avoid _ hz hlt)) (Nat.lt_of_lt_of_le hlt hw.size) hnc (fun j hj => ?_) ho hf ih
    rw [hw.cell (by rw [block_add]; exact hb) (by rw [block_add]; exact hlt)]
    exact hc j hj

theorem getD_lt {α : Type} {l : List α} {i : Nat} {d : α} (h : i < l.length) : l.getD i d = l[i] := by simp [List.getD, List.getElem?_eq_getElem h]

/-- A tree whose reading touches no memory. -/
def CV.flat1 : CV → Bool
  | .any | .raw _ => true
  | _ => false
def CV.flat : CV → Bool
  | .any | .raw _ => true
  | .agg xs | .tup xs => xs.all CV.flat1
  | _ => false

theorem RC.flat1 {w w' : World} {Z Z' : Nat → Prop} {v : Value} {x : CV} (h : RC w Z v x) (hx : x.flat1 = true) : RC w' Z' v x := by
  cases h <;> simp [CV.flat1] at hx
  · exact .any v
  · exact .raw v

theorem RC.flat {w w' : World} {Z Z' : Nat → Prop} {v : Value} {x : CV} (h : RC w Z v x) (hx : x.flat = true) : RC w' Z' v x := by
  cases h with
  | any => exact .any v
  | raw => exact .raw v
  | agg cs xs hl ho hh =>
    refine .agg cs xs hl ho fun i hi => (hh i hi).flat1 ?_
    simp only [CV.flat, List.all_eq_true] at hx
    rw [getD_lt hi]
    exact hx _ (List.getElem_mem hi)
  | tup cs xs hl hh =>
    refine .tup cs xs hl fun i hi => (hh i hi).flat1 ?_
    simp only [CV.flat, List.all_eq_true] at hx
    rw [getD_lt hi]
    exact hx _ (List.getElem_mem hi)
  | nul => simp [CV.flat] at hx
  | emp => simp [CV.flat] at hx
  | im => simp [CV.flat] at hx

/-- Whatever reads as x reads as y. -/
def CV.Sub (x y : CV) : Prop := ∀ (w : World) (Z : Nat → Prop) (v : Value), RC w Z v x → RC w Z v y

theorem CV.Sub.refl (x : CV) : CV.Sub x x := fun _ _ _ h => h
theorem CV.Sub.trans {x y z : CV} (h : CV.Sub x y) (k : CV.Sub y z) : CV.Sub x z := fun w Z v r => k w Z v (h w Z v r)
theorem CV.Sub.any (x : CV) : CV.Sub x .any := fun _ _ _ _ => .any _
theorem CV.Sub.of_eq {x y : CV} (h : x = y) : CV.Sub x y := h ▸ CV.Sub.refl x

theorem CV.Sub.im {sz n n' : Nat} {f f' : Nat → List CV} (hn : n = n') (h : ∀ i, i < n → f i = f' i) : CV.Sub (.im sz n f) (.im sz n' f') := by
  subst hn
  intro w Z v r
  cases r with
  | nul => exact .nul _ _ _ _
  | im a _ c _ _ g hb hlt hnc hc ho hf hh =>
    exact .im a n c sz f' g hb hlt hnc hc ho (fun i hi => (h i hi) ▸ hf i hi) (fun i j hi hj => (h i hi) ▸ hh i j hi hj)

theorem CV.Sub.im0 {sz sz' n n' : Nat} {f f' : Nat → List CV} (hn : n = 0) (hn' : n' = 0) : CV.Sub (.im sz n f) (.im sz' n' f') := by
  subst hn; subst hn'
  intro w Z v r
  cases r with
  | nul => exact .nul _ _ _ _
  | im a _ c _ _ g hb hlt hnc hc ho hf hh => exact .nul _ _ _ _

theorem CV.Sub.emp {sz n : Nat} {f : Nat → List CV} (hn : n = 0) : CV.Sub .emp (.im sz n f) := by
  subst hn
  intro w Z v r
  cases r with
  | emp A => exact .nul _ _ _ _
/-- Elementwise. -/
theorem CV.Sub.im' {sz n n' : Nat} {f f' : Nat → List CV} (hn : n = n') (hl : ∀ i, i < n → (f' i).length = (f i).length) (h : ∀ i j, i < n → j < sz → CV.Sub ((f i).getD j .any) ((f' i).getD j .any)) : CV.Sub (.im sz n f) (.im sz n' f') := by
  subst hn
  intro w Z v r
  cases r with
  | nul => exact .nul _ _ _ _
  | im a _ c _ _ g hb hlt hnc hc ho hf hh =>
    exact .im a n c sz f' g hb hlt hnc hc ho (fun i hi => (hl i hi).trans (hf i hi)) (fun i j hi hj => h i j hi hj _ _ _ (hh i j hi hj))

theorem CV.Sub.agg {xs ys : List CV} (hl : xs.length = ys.length) (h : ∀ i, i < xs.length → CV.Sub (xs.getD i .any) (ys.getD i .any)) : CV.Sub (.agg xs) (.agg ys) := by
  intro w Z v r
  cases r with
  | agg cs _ hcl ho hh => exact .agg cs ys (hcl.trans hl) (fun i hi => ho i (by omega)) fun i hi => h i (by omega) _ _ _ (hh i (by omega))

theorem CV.Sub.tup {xs ys : List CV} (hl : xs.length = ys.length) (h : ∀ i, i < xs.length → CV.Sub (xs.getD i .any) (ys.getD i .any)) : CV.Sub (.tup xs) (.tup ys) := by
  intro w Z v r
  cases r with
  | tup cs _ hcl hh => exact .tup cs ys (hcl.trans hl) fun i hi => h i (by omega) _ _ _ (hh i (by omega))

/-- A value of the frame: a tree, or something that leads to an object of the frame's own. -/
inductive AV where
  | c (x : CV)
  | agg (xs : List AV)
  | pim (xs : List CV)
  | ptr (o off : Nat)
  | rp (o L i off : Nat)
  | own (o L : Nat)
  | osub (o L off n : Nat)
  | emp
  | fn (f : FuncId) (os : List Nat)
  | when (b : Bool) (x : AV)

instance : Inhabited AV := ⟨.c .any⟩

/-- An object of the frame's own: a variable in memory (box); a row behind a slice that is written or appended to. -/
inductive AObj where
  | gone
  | box (ty : TypeId) (cells : List AV)
  | row (ty : TypeId) (sz n : Nat) (f : Nat → List CV)
  | blk (b : Nat) (ob : Obj)

instance : Inhabited AObj := ⟨.gone⟩

/-- Where the objects lie: block and capacity. -/
abbrev Gs := Nat → Option (Nat × Nat)

/-- The objects of the frame, by number: the number is the slot of the operation that made it. -/
abbrev AH := Nat → AObj

inductive RA (w : World) (Z : Nat → Prop) (h : AH) (gs : Gs) : Value → AV → Prop
  | c (v : Value) (x : CV) (hx : RC w Z v x) : RA w Z h gs v (.c x)
  | agg (cs : Array Value) (xs : List AV) (hl : cs.size = xs.length) (ho : ∀ i, i < xs.length → (cs.getD i undef).oneCell' = true)
      (hh : ∀ i, i < xs.length → RA w Z h gs (cs.getD i undef) (xs.getD i default)) : RA w Z h gs (.agg cs) (.agg xs)
  | pim (a : Addr) (xs : List CV) (g : Nat → Value) (hb : ¬ Z a.block) (hlt : a.block < w.heap.size)
      (hc : ∀ j, j < xs.length → w.cell? (a.add j) = some (g j)) (ho : ∀ j, j < xs.length → (g j).oneCell' = true)
      (hh : ∀ j, j < xs.length → RC w Z (g j) (xs.getD j .any)) : RA w Z h gs (.pointer (some a)) (.pim xs)
  | ptr (o off b K : Nat) (ty : TypeId) (cells : List AV) (ho : h o = .box ty cells) (hg : gs o = some (b, K)) : RA w Z h gs (.pointer (some ⟨b, off, none⟩)) (.ptr o off)
  | rp (ad : Addr) (o L i off : Nat) (ty : TypeId) (sz n : Nat) (f : Nat → List CV) (ho : h o = .row ty sz n f) (hL : L ≤ n)
      (hv : L = n → ∃ b K, gs o = some (b, K) ∧ ad = ⟨b, i * sz + off, none⟩) : RA w Z h gs (.pointer (some ad)) (.rp o L i off)
  | own (A : Option Addr) (k c : Nat) (o L : Nat) (ty : TypeId) (sz n : Nat) (f : Nat → List CV) (ho : h o = .row ty sz n f) (hL : L ≤ n)
      (hv : L = n → (∃ b K, gs o = some (b, K) ∧ A = some ⟨b, 0, none⟩ ∧ k = n ∧ c = K) ∨ (gs o = none ∧ k = 0 ∧ c = 0)) : RA w Z h gs (.slice A k c) (.own o L)
  | osub (A : Option Addr) (k' c : Nat) (o L off k : Nat) (ty : TypeId) (sz n : Nat) (f : Nat → List CV) (ho : h o = .row ty sz n f) (hL : L ≤ n)
      (hv : L = n → off + k ≤ n ∧ k' = k ∧ k ≤ c ∧ (0 < k → ∃ b K, gs o = some (b, K) ∧ A = some ⟨b, off * sz, none⟩)) : RA w Z h gs (.slice A k' c) (.osub o L off k)
  | emp (A : Option Addr) : RA w Z h gs (.slice A 0 0) .emp
  | fn (f : FuncId) (cs : Array Value) (os : List Nat) (hl : cs.size = os.length) (hh : ∀ i, i < os.length → ∃ b K ty cells, cs.getD i undef = .pointer (some ⟨b, 0, none⟩) ∧ h (os.getD i 0) = .box ty cells ∧ gs (os.getD i 0) = some (b, K)) : RA w Z h gs (.func (.func f) #[] cs) (.fn f os)
  | when (v : Value) (b : Bool) (x : AV) (hx : b = true → RA w Z h gs v x) (hu : b = false → v = undef) : RA w Z h gs v (.when b x)

def AV.wh : AV → Bool
  | .when b x => b && x.wh
  | _ => true
def AV.strip : AV → AV
  | .when _ x => x.strip
  | x => x

theorem RA.strip {w : World} {Z : Nat → Prop} {h : AH} {gs : Gs} {v : Value} {x : AV} (hx : RA w Z h gs v x) (hw : x.wh = true) : RA w Z h gs v x.strip := by
  induction hx with
  | when v b x _ hu ih =>
    simp only [AV.wh, Bool.and_eq_true] at hw
    exact ih hw.1 hw.2
  | c v x hx => exact .c v x hx
  | agg cs xs hl ho hh => exact .agg cs xs hl ho hh
  | pim a xs g hb hlt hc ho hh => exact .pim a xs g hb hlt hc ho hh
  | ptr o off b K ty cells ho hg => exact .ptr o off b K ty cells ho hg
  | rp v o L i off ty sz n f ho hL hv => exact .rp v o L i off ty sz n f ho hL hv
  | own A k c o L ty sz n f ho hL hv => exact .own A k c o L ty sz n f ho hL hv
  | osub A k' c o L off k ty sz n f ho hL hv => exact .osub A k' c o L off k ty sz n f ho hL hv
  | emp A => exact .emp A
  | fn f cs os hl hh => exact .fn f cs os hl hh

/-- How references fare from one set of objects to another. -/
structure Refs (h : AH) (gs : Gs) (h' : AH) (gs' : Gs) : Prop where
  box : ∀ o ty cells, h o = .box ty cells → (∃ ty' cells', h' o = .box ty' cells') ∧ gs' o = gs o
  row : ∀ o ty sz n f, h o = .row ty sz n f → ∃ n' f', h' o = .row ty sz n' f' ∧ n ≤ n' ∧ (n' = n → gs' o = gs o)

theorem Refs.refl (h : AH) (gs : Gs) : Refs h gs h gs := ⟨fun _ ty cells e => ⟨⟨ty, cells, e⟩, rfl⟩, fun _ _ _ n f e => ⟨n, f, e, Nat.le_refl _, fun _ => rfl⟩⟩

theorem RA.later {w w' : World} {Z Z' : Nat → Prop} {h h' : AH} {gs gs' : Gs} {v : Value} {x : AV} (hx : RA w Z h gs v x) (hw : Later w w' Z Z') (hr : Refs h gs h' gs') : RA w' Z' h' gs' v x := by
  induction hx with
  | when v b x _ hu ih => exact .when v b x (fun e => ih e) hu
  | c v x hx => exact .c v x (hx.later hw)
  | agg cs xs hl ho _ ih => exact .agg cs xs hl ho ih
  | pim a xs g hb hlt hc ho hh =>
    refine .pim a xs g (fun hz => hb (hw.avoid _ hz hlt)) (Nat.lt_of_lt_of_le hlt hw.size) (fun j hj => ?_) ho fun j hj => (hh j hj).later hw
    rw [hw.cell (by rw [block_add]; exact hb) (by rw [block_add]; exact hlt)]
    exact hc j hj
  | ptr o off b K ty cells ho hg =>
    obtain ⟨⟨ty', cells', e⟩, e2⟩ := hr.box o ty cells ho
    exact .ptr o off b K ty' cells' e (e2.trans hg)
  | rp v o L i off ty sz n f ho hL hv =>
    obtain ⟨n', f', e, hn, hg⟩ := hr.row o ty sz n f ho
    refine .rp v o L i off ty sz n' f' e (Nat.le_trans hL hn) fun e3 => ?_
    have hn' : n' = n := by omega
    obtain ⟨b, K, e4, e5⟩ := hv (by omega)
    exact ⟨b, K, (hg hn').trans e4, e5⟩
  | own A k c o L ty sz n f ho hL hv =>
    obtain ⟨n', f', e, hn, hg⟩ := hr.row o ty sz n f ho
    refine .own A k c o L ty sz n' f' e (Nat.le_trans hL hn) fun e3 => ?_
    have hn' : n' = n := by omega
    rcases hv (by omega) with ⟨b, K, e4, e5, e6, e7⟩ | ⟨e4, e5⟩
    · exact .inl ⟨b, K, (hg hn').trans e4, e5, by omega, e7⟩
    · exact .inr ⟨(hg hn').trans e4, e5⟩
  | osub A k' c o L off k ty sz n f ho hL hv =>
    obtain ⟨n', f', e, hn, hg⟩ := hr.row o ty sz n f ho
    refine .osub A k' c o L off k ty sz n' f' e (Nat.le_trans hL hn) fun e3 => ?_
    have hn' : n' = n := by omega
    obtain ⟨e4, e5, e6, e7⟩ := hv (by omega)
    refine ⟨by omega, e5, e6, fun hk => ?_⟩
    obtain ⟨b, K, e8, e9⟩ := e7 hk
    exact ⟨b, K, (hg hn').trans e8, e9⟩
  | emp A => exact .emp A
  | fn f cs os hl hh =>
    refine .fn f cs os hl fun i hi => ?_
    obtain ⟨b, K, ty, cells, e1, e2, e3⟩ := hh i hi
    obtain ⟨⟨ty', cells', e4⟩, e5⟩ := hr.box _ ty cells e2
    exact ⟨b, K, ty', cells', e1, e4, e5.trans e3⟩

/-- One object as the world holds it. -/
def RObj (w : World) (Z : Nat → Prop) (h : AH) (gs : Gs) (o : Nat) : AObj → Prop
  | .gone => gs o = none
  | .blk b ob => ∃ K, gs o = some (b, K) ∧ w.heap[b]? = some ob
  | .box ty cells => ∃ b K cur, gs o = some (b, K) ∧ w.heap[b]? = some (.cells cur ty (0, 0)) ∧ cur.size = cells.length ∧
      (∀ j, j < cells.length → (cur.getD j undef).oneCell' = true) ∧ ∀ j, j < cells.length → RA w Z h gs (cur.getD j undef) (cells.getD j default)
  | .row ty sz n f => (gs o = none ∧ n = 0) ∨ ∃ b K cur, gs o = some (b, K) ∧ w.heap[b]? = some (.cells cur ty (0, 0)) ∧ cur.size = K * sz ∧ n ≤ K ∧ K ≤ maxLen ∧
      (∀ i, i < n → (f i).length = sz) ∧ (∀ j, j < n * sz → (cur.getD j undef).oneCell' = true) ∧
      ∀ i j, i < n → j < sz → RC w Z (cur.getD (i * sz + j) undef) ((f i).getD j .any)

/-- What immutable values avoid: the blocks of the callers' own, and those of the frame's. -/
def Zf (Z : Nat → Prop) (gs : Gs) : Nat → Prop := fun b => Z b ∨ ∃ o K, gs o = some (b, K)

/-- What is known of old memory: the blocks in A hold M. -/
class Glb where
  A : Nat → Prop
  M : Nat → Option Obj

/-- What a frame is held against: the world at its entry, the blocks that immutable values avoid, the objects that were handed in. -/
structure Env where
  w0 : World
  Z : Nat → Prop
  h0 : AH
  gs0 : Gs
  ds : List Deferred
/-- The blocks of the objects that were handed in. -/
def Env.D (E : Env) : Nat → Prop := fun b => ∃ o K, E.gs0 o = some (b, K)
/-- The objects that were handed in are among these. -/
def Env.In (E : Env) (fo : List Nat) : Prop := ∀ o, E.h0 o ≠ .gone → o ∈ fo

/-- Old blocks are as they were, but for those in D. -/
structure BelowX (D : Nat → Prop) (w w' : World) : Prop where
  os : w'.os = w.os
  tape : w'.tape = w.tape
  output : w'.output = w.output
  size : w.heap.size ≤ w'.heap.size
  block : ∀ k, k < w.heap.size → ¬ D k → w'.heap[k]? = w.heap[k]?

theorem BelowX.refl (D : Nat → Prop) (w : World) : BelowX D w w := ⟨rfl, rfl, rfl, Nat.le_refl _, fun _ _ _ => rfl⟩
theorem BelowX.trans {D : Nat → Prop} {a b c : World} (h : BelowX D a b) (k : BelowX D b c) : BelowX D a c :=
  ⟨k.os.trans h.os, k.tape.trans h.tape, k.output.trans h.output, Nat.le_trans h.size k.size, fun i hi hd => (k.block i (Nat.lt_of_lt_of_le hi h.size) hd).trans (h.block i hi hd)⟩
theorem BelowX.grow {D : Nat → Prop} {a b c : World} (h : BelowX D a b) (k : Below b.heap.size b c) : BelowX D a c :=
  h.trans ⟨k.os, k.tape, k.output, k.size, fun i hi _ => k.block i hi⟩

/-- The state of the abstract machine (slots s, objects h) as the frame 'a' and the world 'w' hold it. -/
structure RelG [Glb] (E : Env) (nt : Nat) (s : Nat → AV) (h : AH) (gs : Gs) (a : Act) (w : World) : Prop where
  below : BelowX E.D E.w0 w
  zlt : ∀ b, E.Z b → b < E.w0.heap.size
  zd : ∀ b, E.D b → ¬ E.Z b ∧ b < E.w0.heap.size
  glob : ∀ b, Glb.A b → E.Z b ∧ E.w0.heap[b]? = Glb.M b
  fresh : ∀ o b K, gs o = some (b, K) → (E.w0.heap.size ≤ b ∨ E.D b) ∧ b < w.heap.size
  inj : ∀ o o' b K K', gs o = some (b, K) → gs o' = some (b, K') → o = o'
  objs : ∀ o, RObj w (Zf E.Z gs) h gs o (h o)
  slots : ∀ t, RA w (Zf E.Z gs) h gs (a.tmps.getD t undef) (s t)
  size : a.tmps.size = nt
  defers : a.defers = E.ds
  refs : Refs E.h0 E.gs0 h gs

def Rel [Glb] (E : Env) (nt : Nat) (s : Nat → AV) (h : AH) (a : Act) (w : World) : Prop := ∃ gs, RelG E nt s h gs a w

theorem RelG.glb [Glb] {E : Env} {nt : Nat} {s : Nat → AV} {h : AH} {gs : Gs} {a : Act} {w : World} (R : RelG E nt s h gs a w) : ∀ b, Glb.A b → E.Z b ∧ w.heap[b]? = Glb.M b := fun b hb => by
  have h1 := R.glob b hb
  exact ⟨h1.1, (R.below.block b (R.zlt b h1.1) fun hd => (R.zd b hd).1 h1.1).trans h1.2⟩

theorem Refs.trans {h h' h'' : AH} {gs gs' gs'' : Gs} (a : Refs h gs h' gs') (b : Refs h' gs' h'' gs'') : Refs h gs h'' gs'' := by
  refine ⟨fun o ty cells e => ?_, fun o ty sz n f e => ?_⟩
  · obtain ⟨⟨ty', cells', e1⟩, e2⟩ := a.box o ty cells e
    obtain ⟨e3, e4⟩ := b.box o ty' cells' e1
    exact ⟨e3, e4.trans e2⟩
  · obtain ⟨n', f', e1, e2, e3⟩ := a.row o ty sz n f e
    obtain ⟨n'', f'', e4, e5, e6⟩ := b.row o ty sz n' f' e1
    refine ⟨n'', f'', e4, Nat.le_trans e2 e5, fun q => ?_⟩
    have : n' = n := by omega
    exact (e6 (by omega)).trans (e3 this)

/-- One slot, one object set anew. -/
def upd {α : Type} (s : Nat → α) (t : Nat) (x : α) : Nat → α := fun i => if i = t then x else s i
theorem upd_same {α : Type} (s : Nat → α) (t : Nat) (x : α) : upd s t x t = x := by simp [upd]
theorem upd_ne {α : Type} (s : Nat → α) (t i : Nat) (x : α) (h : i ≠ t) : upd s t x i = s i := by simp [upd, h]
def updO (s : Nat → AV) (d : Option Tmp) (x : AV) : Nat → AV := match d with | some t => upd s t x | none => s

theorem put_getD {a : Act} {d t : Nat} {v : Value} (hd : d < a.tmps.size) : (a.put (some d) v).tmps.getD t undef = if t = d then v else a.tmps.getD t undef := by
  unfold Act.put
  simp only [Array.getD_eq_getD_getElem?]
  by_cases h : t = d
  · subst h; simp [hd]
  · simp [h, Array.getElem?_setIfInBounds_ne (Ne.symm h)]

theorem put_size {a : Act} {d : Option Tmp} {v : Value} : (a.put d v).tmps.size = a.tmps.size := by cases d <;> simp [Act.put]
theorem put_def {a : Act} {d : Option Tmp} {v : Value} : (a.put d v).defers = a.defers := by cases d <;> rfl

end Go.Am

/- The abstract machine, part 2: how a state fares under a step; tables of types; the plain operations and their soundness. Generic over the program; no condition. -/
namespace Go.Am
open Go.RowKit

section
variable {E : Env} {w w' : World} {nt : Nat} {s : Nat → AV} {h : AH} {gs : Gs} {a : Act}

theorem later_of_below {Z : Nat → Prop} (hb : Below w.heap.size w w') : Later w w' Z Z :=
  ⟨hb.size, fun b _ hl => hb.block b hl, fun _ hz _ => hz⟩

theorem RObj.later {w w' : World} {Z Z' : Nat → Prop} {h h' : AH} {gs gs' : Gs} {o : Nat} {x : AObj} (hx : RObj w Z h gs o x) (hw : Later w w' Z Z') (hr : Refs h gs h' gs')
    (hg : gs' o = gs o) (hb : ∀ b K, gs o = some (b, K) → w'.heap[b]? = w.heap[b]?) : RObj w' Z' h' gs' o x := by
  cases x with
  | gone => exact hg.trans hx
  | blk b ob =>
    obtain ⟨K, e1, e2⟩ := hx
    exact ⟨K, hg.trans e1, (hb b K e1).trans e2⟩
  | box ty cells =>
    obtain ⟨b, K, cur, e1, e2, e3, e4, e5⟩ := hx
    exact ⟨b, K, cur, hg.trans e1, (hb b K e1).trans e2, e3, e4, fun j hj => (e5 j hj).later hw hr⟩
  | row ty sz n f =>
    rcases hx with ⟨e1, e2⟩ | ⟨b, K, cur, e1, e2, e3, e4, e5, e6, e7, e8⟩
    · exact .inl ⟨hg.trans e1, e2⟩
    · exact .inr ⟨b, K, cur, hg.trans e1, (hb b K e1).trans e2, e3, e4, e5, e6, e7, fun i j hi hj => (e8 i j hi hj).later hw⟩

/-- New memory alone. -/
theorem RelG.grow [Glb] (R : RelG E nt s h gs a w) (hb : Below w.heap.size w w') : RelG E nt s h gs a w' where
  below := R.below.grow hb
  zlt := R.zlt
  zd := R.zd
  glob := R.glob
  fresh o b K e := ⟨(R.fresh o b K e).1, Nat.lt_of_lt_of_le (R.fresh o b K e).2 hb.size⟩
  inj := R.inj
  objs o := (R.objs o).later (later_of_below hb) (Refs.refl _ _) rfl fun b K e => hb.block b (R.fresh o b K e).2
  slots t := (R.slots t).later (later_of_below hb) (Refs.refl _ _)
  size := R.size
  defers := R.defers
  refs := R.refs

theorem RelG.put [Glb] (R : RelG E nt s h gs a w) {d : Nat} (hd : d < nt) {v : Value} {x : AV} (hx : RA w (Zf E.Z gs) h gs v x) : RelG E nt (upd s d x) h gs (a.put (some d) v) w where
  below := R.below
  zlt := R.zlt
  zd := R.zd
  glob := R.glob
  fresh := R.fresh
  inj := R.inj
  objs := R.objs
  slots t := by
    rw [put_getD (by rw [R.size]; exact hd)]
    unfold upd
    split
    · exact hx
    · exact R.slots t
  size := by rw [put_size]; exact R.size
  defers := by rw [put_def]; exact R.defers
  refs := R.refs

theorem RelG.putO [Glb] (R : RelG E nt s h gs a w) {d : Option Tmp} (hd : ∀ t, d = some t → t < nt) {v : Value} {x : AV} (hx : RA w (Zf E.Z gs) h gs v x) : RelG E nt (updO s d x) h gs (a.put d v) w := by
  cases d with
  | none => exact R
  | some t => exact R.put (hd t rfl) hx

/-- One object changes (or comes to be). -/
theorem RelG.eff [Glb] (R : RelG E nt s h gs a w) (o : Nat) (x' : AObj) (g' : Option (Nat × Nat))
    (hos : w'.os = w.os) (htape : w'.tape = w.tape) (hout : w'.output = w.output) (hsz : w.heap.size ≤ w'.heap.size)
    (hblk : ∀ k, k < w.heap.size → (∀ K, gs o ≠ some (k, K)) → w'.heap[k]? = w.heap[k]?)
    (hg : g' = gs o ∨ ∃ b K, g' = some (b, K) ∧ w.heap.size ≤ b ∧ b < w'.heap.size)
    (hbox : ∀ ty cells, h o = .box ty cells → (∃ ty' cells', x' = .box ty' cells') ∧ g' = gs o)
    (hrow : ∀ ty sz n f, h o = .row ty sz n f → ∃ n' f', x' = .row ty sz n' f' ∧ n ≤ n' ∧ (n' = n → g' = gs o))
    (hx : Later w w' (Zf E.Z gs) (Zf E.Z (upd gs o g')) → Refs h gs (upd h o x') (upd gs o g') → RObj w' (Zf E.Z (upd gs o g')) (upd h o x') (upd gs o g') o x') :
    RelG E nt s (upd h o x') (upd gs o g') a w' := by
  have hlt : ∀ k, k < E.w0.heap.size → ¬ E.D k → ∀ K, gs o ≠ some (k, K) := fun k hk hd K e => by rcases (R.fresh o k K e).1 with q | q; exact absurd hk (by omega); exact hd q
  have hL : Later w w' (Zf E.Z gs) (Zf E.Z (upd gs o g')) := by
    refine ⟨hsz, fun b hb hl => hblk b hl fun K e => hb (.inr ⟨o, K, e⟩), fun b hb hl => ?_⟩
    rcases hb with hb | ⟨o', K, e⟩
    · exact .inl hb
    · by_cases ho : o' = o
      · subst ho
        rw [upd_same] at e
        rcases hg with hg | ⟨b', K', e2, hb', _⟩
        · exact .inr ⟨o', K, hg ▸ e⟩
        · rw [e] at e2
          simp only [Option.some.injEq, Prod.mk.injEq] at e2
          omega
      · rw [upd_ne _ _ _ _ ho] at e
        exact .inr ⟨o', K, e⟩
  have hr : Refs h gs (upd h o x') (upd gs o g') := by
    refine ⟨fun o' ty cells e => ?_, fun o' ty sz n f e => ?_⟩
    · by_cases ho : o' = o
      · subst ho
        rw [upd_same, upd_same]
        exact hbox ty cells e
      · rw [upd_ne _ _ _ _ ho, upd_ne _ _ _ _ ho]
        exact ⟨⟨ty, cells, e⟩, rfl⟩
    · by_cases ho : o' = o
      · subst ho
        rw [upd_same, upd_same]
        exact hrow ty sz n f e
      · rw [upd_ne _ _ _ _ ho, upd_ne _ _ _ _ ho]
        exact ⟨n, f, e, Nat.le_refl _, fun _ => rfl⟩
  refine ⟨?_, R.zlt, R.zd, R.glob, ?_, ?_, ?_, fun t => (R.slots t).later hL hr, R.size, R.defers, R.refs.trans hr⟩
  · exact ⟨hos.trans R.below.os, htape.trans R.below.tape, hout.trans R.below.output, Nat.le_trans R.below.size hsz, fun k hk hd => (hblk k (Nat.lt_of_lt_of_le hk R.below.size) (hlt k hk hd)).trans (R.below.block k hk hd)⟩
  · intro o' b K e
    by_cases ho : o' = o
    · subst ho
      rw [upd_same] at e
      rcases hg with hg | ⟨b', K', e2, hb', hb2⟩
      · have := R.fresh o' b K (hg ▸ e)
        exact ⟨this.1, by omega⟩
      · rw [e] at e2
        simp only [Option.some.injEq, Prod.mk.injEq] at e2
        have := R.below.size
        exact ⟨.inl (by omega), by omega⟩
    · rw [upd_ne _ _ _ _ ho] at e
      have := R.fresh o' b K e
      exact ⟨this.1, by omega⟩
  · intro o1 o2 b K1 K2 e1 e2
    have hfr : ∀ o' b K, o' ≠ o → gs o' = some (b, K) → ∀ K', upd gs o g' o = some (b, K') → False := by
      intro o' b K ho e K' e'
      rw [upd_same] at e'
      rcases hg with hg | ⟨b', K'', e2, hb', hb2⟩
      · exact ho (R.inj o' o b K K' e (hg ▸ e'))
      · rw [e'] at e2
        simp only [Option.some.injEq, Prod.mk.injEq] at e2
        have := (R.fresh o' b K e).2
        omega
    by_cases h1 : o1 = o <;> by_cases h2 : o2 = o
    · omega
    · subst h1
      rw [upd_ne _ _ _ _ h2] at e2
      exact (hfr o2 b K2 h2 e2 K1 e1).elim
    · subst h2
      rw [upd_ne _ _ _ _ h1] at e1
      exact (hfr o1 b K1 h1 e1 K2 e2).elim
    · rw [upd_ne _ _ _ _ h1] at e1
      rw [upd_ne _ _ _ _ h2] at e2
      exact R.inj o1 o2 b K1 K2 e1 e2
  · intro o'
    by_cases ho : o' = o
    · subst ho
      rw [upd_same]
      exact hx hL hr
    · rw [upd_ne h o o' x' ho]
      refine (R.objs o').later hL hr (upd_ne _ _ _ _ ho) fun b K e => hblk b (R.fresh o' b K e).2 fun K' e' => ho (R.inj o' o b K K' e e')
end

/-- What the operations ask of a type. -/
structure TI where
  agg : Bool
  size : Nat
  bytes : Nat
  elem : TypeId
  slice : Bool
  fields : List (Nat × Nat)
  zero : List Value

/-- The zero value is laid of as many values of one cell as the type has cells. -/
def zchk (i : TypeInfo) : Bool := match i.zero with
  | some z => z.cells.size == i.size && z.cells.all fun v => v.oneCell'
  | none => true

def tinfo (P : Program) (t : TypeId) : Option TI :=
  match P.info? t, P.underlying t with
  | some i, some d => if zchk i then some {
      agg := match d with | .struct _ => true | .array _ _ => true | _ => false
      size := i.size
      bytes := i.bytes
      elem := match d with | .slice e => e | _ => 0
      slice := match d with | .slice _ => true | _ => false
      fields := match d with | .struct fs => fs.toList.map fun f => (f.offset, P.cellsOf f.type) | _ => []
      zero := match i.zero with | some v => v.cells.toList | none => [] } else none
  | _, _ => none

theorem tinfo_some {P : Program} {t : TypeId} {i : TI} (h : tinfo P t = some i) : ∃ j d, P.info? t = some j ∧ P.underlying t = some d ∧ i.size = j.size ∧ i.bytes = j.bytes ∧
    i.agg = (match d with | .struct _ => true | .array _ _ => true | _ => false) ∧ i.elem = (match d with | .slice e => e | _ => 0) ∧
    i.slice = (match d with | .slice _ => true | _ => false) ∧ i.fields = (match d with | .struct fs => fs.toList.map (fun f => (f.offset, P.cellsOf f.type)) | _ => []) ∧
    i.zero = (match j.zero with | some v => v.cells.toList | none => []) := by
  unfold tinfo at h
  split at h
  · rename_i j d h1 h2
    split at h
    · injection h with h
      subst h
      exact ⟨j, d, h1, h2, rfl, rfl, rfl, rfl, rfl, rfl, rfl⟩
    · cases h
  · cases h

theorem tinfo_zero {P : Program} {t : TypeId} {i : TI} {j : TypeInfo} {z : Value} (h : tinfo P t = some i) (hj : P.info? t = some j) (hz : j.zero = some z) : z.cells.size = j.size ∧ ∀ v ∈ z.cells.toList, v.oneCell' = true := by
  unfold tinfo at h
  split at h
  · rename_i j' d h1 h2
    rw [h1] at hj
    injection hj with hj
    subst hj
    split at h
    · rename_i hc
      unfold zchk at hc
      rw [hz] at hc
      simp only [Bool.and_eq_true, beq_iff_eq, Array.all_eq_true_iff_forall_mem] at hc
      exact ⟨hc.1, fun v hv => hc.2 v (Array.mem_toList_iff.1 hv)⟩
    · cases h
  · cases h

def constAV1 : Value → AV
  | .slice none 0 0 => .emp
  | v => .c (.raw v)
def constAV : Value → AV
  | .agg cs => .agg (cs.toList.map constAV1)
  | v => constAV1 v

def ev (s : Nat → AV) : Operand → AV
  | .tmp t => s t
  | .const v => constAV1 v
  | .global g => .c (.raw (.pointer (some ⟨g, 0, none⟩)))
  | .func f => .c (.raw (.func (.func f) #[] #[]))

theorem constAV1_ok (w : World) (Z : Nat → Prop) (h : AH) (gs : Gs) (v : Value) : RA w Z h gs v (constAV1 v) := by
  unfold constAV1
  split
  · exact .emp _
  · exact .c _ _ (.raw _)

theorem ev_ok [Glb] {E : Env} {w : World} {nt : Nat} {s : Nat → AV} {h : AH} {gs : Gs} {a : Act} (R : RelG E nt s h gs a w) (x : Operand) : RA w (Zf E.Z gs) h gs (a.eval x) (ev s x) := by
  cases x with
  | tmp t => exact R.slots t
  | const v => exact constAV1_ok _ _ _ _ v
  | global g => exact .c _ _ (.raw _)
  | func f => exact .c _ _ (.raw _)

abbrev AV.int (n : Int) : AV := .c (.raw (.int .i64 n))
abbrev AV.bool (b : Bool) : AV := .c (.raw (.bool b))
abbrev AV.str (b : ByteArray) : AV := .c (.raw (.string b))
abbrev CV.int (n : Int) : CV := .raw (.int .i64 n)
abbrev CV.bool (b : Bool) : CV := .raw (.bool b)
abbrev CV.str (b : ByteArray) : CV := .raw (.string b)

section
variable {w : World} {Z : Nat → Prop} {h : AH} {gs : Gs} {v : Value} {x : AV}
theorem RC.raw_inv {u : Value} (hx : RC w Z v (.raw u)) : v = u := by cases hx; rfl
theorem RA.raw_inv {u : Value} (hx : RA w Z h gs v (.c (.raw u))) : v = u := by
  cases hx with
  | c _ _ hx => exact hx.raw_inv
theorem RA.raw_of {u : Value} (hx : RA w Z h gs v x) (hw : x.wh = true) (he : x.strip = .c (.raw u)) : v = u := by
  have := hx.strip hw
  rw [he] at this
  exact this.raw_inv
theorem RA.c_inv {y : CV} (hx : RA w Z h gs v (.c y)) : RC w Z v y := by
  cases hx with
  | c _ _ hx => exact hx
theorem RA.c_of {y : CV} (hx : RA w Z h gs v x) (hw : x.wh = true) (he : x.strip = .c y) : RC w Z v y := by
  have := hx.strip hw
  rw [he] at this
  exact this.c_inv
end

/-- The binary operators on plain values. -/
def bin (op : BinOp) : Value → Value → Option Value
  | .int k a, .int k' b => if k = k' then match op with
      | .add => some (.int k (k.wrap (a + b)))
      | .sub => some (.int k (k.wrap (a - b)))
      | .mul => some (.int k (k.wrap (a * b)))
      | .eql => some (.bool (a == b))
      | .neq => some (.bool (a != b))
      | .lss => some (.bool (decide (a < b)))
      | .leq => some (.bool (decide (a ≤ b)))
      | .gtr => some (.bool (decide (b < a)))
      | .geq => some (.bool (decide (b ≤ a)))
      | .rem => if b = 0 then none else some (.int k (a.tmod b))
      | .quo => if b = 0 then none else some (.int k (k.wrap (a.tdiv b)))
      | _ => none
    else none
  | .string a, .string b => match op with
      | .eql => some (.bool (a.toList == b.toList))
      | .neq => some (.bool !(a.toList == b.toList))
      | .lss => some (.bool (Op.bytesLess a.toList b.toList))
      | .leq => some (.bool (Op.bytesLess a.toList b.toList || a.toList == b.toList))
      | .gtr => some (.bool !(Op.bytesLess a.toList b.toList || a.toList == b.toList))
      | .geq => some (.bool !(Op.bytesLess a.toList b.toList))
      | .add => if a.size + b.size ≤ 9223372036854775807 then some (.string (a ++ b)) else none
      | _ => none
  | _, _ => none

end Go.Am

/- The abstract machine, part 3: the operations that look at no object, and their soundness. Generic over the program; no condition. -/
namespace Go.Am
open Go.RowKit

/-- The value takes one cell. -/
def AV.one : AV → Bool
  | .c (.raw v) => v.oneCell'
  | .c (.im _ _ _) | .pim _ | .ptr _ _ | .rp _ _ _ _ | .own _ _ | .osub _ _ _ _ | .emp => true
  | _ => false

/-- A value as its cells. -/
def AV.cells : AV → Option (List AV)
  | .agg xs => some xs
  | .c (.agg xs) => some (xs.map .c)
  | x => if x.one then some [x] else none

def AV.closed1 : AV → Option CV
  | .c x => some x
  | .emp => some (.im 0 0 fun _ => [])
  | _ => none
def closedL : List AV → Option (List CV)
  | [] => some []
  | x :: r => match x.closed1, closedL r with
    | some y, some ys => some (y :: ys)
    | _, _ => none
def AV.closedCells (x : AV) : Option (List CV) := match x.cells with
  | some l => closedL l
  | none => none

def addOff (off : Nat) : AV → Option AV
  | .pim xs => some (.pim (xs.drop off))
  | .ptr o k => some (.ptr o (k + off))
  | .rp o L i k => some (.rp o L i (k + off))
  | _ => none

/-- The cells of a struct literal: the zero cells, the parts laid over them. -/
def setL (cs : List AV) (off : Nat) (xs : List AV) : List AV := cs.take off ++ xs ++ cs.drop (off + xs.length)
def bfill (fields : List (Nat × Nat)) (cs : List AV) : List (Nat × AV) → Option (List AV)
  | [] => some cs
  | (i, x) :: r => match fields[i]? with
    | some (off, sz) => match x.cells with
      | some l => if l.length = sz ∧ off + sz ≤ cs.length then bfill fields (setL cs off l) r else none
      | none => none
    | none => none

def partsC (e : Operand → AV) : List (Nat × Operand) → Nat → Nat → Option (List (List CV))
  | [], _, _ => some []
  | (i, y) :: r, k, sz => if i = k then match (e y).strip.closedCells, partsC e r (k + 1) sz with
      | some cs, some l => if cs.length = sz then some (cs :: l) else none
      | _, _ => none
    else none

def rawsL : List CV → Option (List Value)
  | [] => some []
  | .raw v :: r => (rawsL r).map (v :: ·)
  | _ :: _ => none
/-- A struct whose cells are all plain. -/
def AV.rawAgg : AV → Option (List Value)
  | .c (.agg xs) => rawsL xs
  | .agg xs => match closedL xs with
    | some ys => rawsL ys
    | none => none
  | _ => none
/-- A byte of a string. -/
def byteAt (b : ByteArray) (i : Nat) : Int := ((b[i]?.getD 0).toNat : Int)
def AV.isPtr : AV → Bool
  | .ptr _ _ | .rp _ _ _ _ | .pim _ | .fn _ _ => true
  | _ => false
def notIface : TypeDesc → Bool
  | .interface _ => false
  | _ => true
/-- An operator on plain values, by what it does. -/
def RawBin (P : Program) (op : BinOp) (t : TypeId) (v1 v2 v : Value) : Prop := ∀ (y z : Operand) (w : World), (do eqGuard op t y z v1 v2; binOp op t v1 v2 : Sem Value).run P w = .ok v w
/-- An operator on two structs whose cells are all plain. -/
def AggBin (P : Program) (op : BinOp) (t : TypeId) (us vs : List Value) (v : Value) : Prop :=
  ∀ (y z : Operand) (w : World), (do eqGuard op t y z (.agg us.toArray) (.agg vs.toArray); binOp op t (.agg us.toArray) (.agg vs.toArray) : Sem Value).run P w = .ok v w

/-- The operations that look at no object. -/
def aop0 (P : Program) (op : Op) (e : Operand → AV) (G : Bool) (x : AV) : Prop :=
  match op with
  | .move y | .assign y => x = e y
  | .pick c y z => ∃ b p q, (e c).strip = .bool b ∧ (e y).strip = .bool p ∧ (e z).strip = .bool q ∧
      (G = true → (e c).wh = true ∧ (b = true → (e y).wh = true) ∧ (b = false → (e z).wh = true)) ∧ x = .bool (bif b then p else q)
  | .binOp op t y z _ =>
      match (e y).strip with
      | .c (.raw v1) => ∃ v2 v, (e z).strip = .c (.raw v2) ∧ (bin op v1 v2 = some v ∨ RawBin P op t v1 v2 v) ∧ (G = true → (e y).wh = true ∧ (e z).wh = true) ∧ x = .c (.raw v)
      | q => ∃ us vs v, q.rawAgg = some us ∧ (e z).strip.rawAgg = some vs ∧ AggBin P op t us vs v ∧ (G = true → (e y).wh = true ∧ (e z).wh = true) ∧ x = .c (.raw v)
  | .unOp .not _ y => ∃ b, (e y).strip = .bool b ∧ (G = true → (e y).wh = true) ∧ x = .bool (!b)
  | .unOp .neg _ y => ∃ k n, (e y).strip = .c (.raw (.int k n)) ∧ (G = true → (e y).wh = true) ∧ x = .c (.raw (.int k (k.wrap (0 - n))))
  | .fieldAddr t y f => ∃ i off sz, tinfo P t = some i ∧ i.fields[f]? = some (off, sz) ∧ sz ≠ 0 ∧ addOff off (e y).strip = some x ∧ (G = true → (e y).wh = true)
  | .extract y i => ∃ xs, (e y).strip = .c (.tup xs) ∧ (G = true → (e y).wh = true ∧ i < xs.length) ∧ x = .c (xs.getD i .any)
  | .build t parts => ∃ i cs, tinfo P t = some i ∧ i.agg = true ∧ i.zero ≠ [] ∧ i.fields ≠ [] ∧ (∀ p ∈ i.fields, p.2 ≠ 0) ∧ bfill i.fields (i.zero.map constAV1) (parts.toList.map fun p => (p.1, (e p.2).strip)) = some cs ∧
      (G = true → ∀ p ∈ parts.toList, (e p.2).wh = true) ∧ x = .agg cs
  | .buildSlice t len parts => ∃ i j l, tinfo P t = some i ∧ i.slice = true ∧ tinfo P i.elem = some j ∧ len = parts.size ∧ len * j.size ≤ 2 ^ 24 ∧ partsC e parts.toList 0 j.size = some l ∧
      (len = 0 ∨ j.zero ≠ []) ∧ (G = true → ∀ p ∈ parts.toList, (e p.2).wh = true) ∧ x = (if len = 0 then .emp else .c (.im j.size len fun i => l.getD i []))
  | .convert src dst y => ∃ k k' n, (∃ d, P.underlying src = some d) ∧ P.underlying dst = some (.int k) ∧ (e y).strip = .c (.raw (.int k' n)) ∧ (G = true → (e y).wh = true) ∧ x = .c (.raw (.int k (k.wrap n)))
  | .nilCheck y => (G = true → (e y).wh = true) ∧ (e y).strip.isPtr = true ∧ x = (e y).strip
  | .index t y z => P.underlying t = some .string ∧ ∃ b k n, (e y).strip = .c (.raw (.string b)) ∧ (e z).strip = .c (.raw (.int k n)) ∧ (G = true → (e y).wh = true ∧ (e z).wh = true ∧ 0 ≤ n ∧ n < (b.size : Int)) ∧ x = .c (.raw (.int .u8 (byteAt b n.toNat)))
  | .makeInterface t y => (∃ d, P.underlying t = some d ∧ notIface d = true) ∧ (G = true → (e y).wh = true) ∧ ∃ v, ((e y).strip = .c (.raw v) ∨ ∃ us, (e y).strip.rawAgg = some us ∧ v = .agg us.toArray) ∧ x = .c (.raw (.iface t v))
  | .makeFunc fn first caps => ∃ f os, fn = .func f ∧ first = #[] ∧ (G = true → ∀ y ∈ caps.toList, (e y).wh = true) ∧ (caps.toList.map fun y => (e y).strip) = os.map (fun o => .ptr o 0) ∧ x = .fn f os
  | .call { callee := .builtin .max, args := args, .. } => ∃ y z k a b, args = #[y, z] ∧ (e y).strip = .c (.raw (.int k a)) ∧ (e z).strip = .c (.raw (.int k b)) ∧ (G = true → (e y).wh = true ∧ (e z).wh = true) ∧
      x = .c (.raw (.int k (if a < b then b else a)))
  | _ => False

section
variable {E : Env} {w : World} {nt : Nat} {s : Nat → AV} {h : AH} {gs : Gs} {a : Act} {P : Program}

theorem RA.drop_pim {Z : Nat → Prop} {v : Value} {xs : List CV} (hx : RA w Z h gs v (.pim xs)) (off : Nat) : ∃ ad, v = .pointer (some ad) ∧ RA w Z h gs (.pointer (some (ad.add off))) (.pim (xs.drop off)) := by
  cases hx with
  | pim ad _ g hb hlt hc ho hh =>
    refine ⟨ad, rfl, .pim _ _ (fun j => g (off + j)) (by rw [block_add]; exact hb) (by rw [block_add]; exact hlt) (fun j hj => ?_) (fun j hj => ho _ ?_) fun j hj => ?_⟩
    · rw [List.length_drop] at hj
      rw [add_add]
      exact hc _ (by omega)
    · rw [List.length_drop] at hj
      omega
    · rw [List.length_drop] at hj
      have := hh (off + j) (by omega)
      rw [List.getD_eq_getElem?_getD] at this ⊢
      rw [List.getElem?_drop]
      exact this

theorem addr_lit (b o n : Nat) : Addr.add ⟨b, o, none⟩ n = ⟨b, o + n, none⟩ := by unfold Addr.add; split <;> simp_all

/-- 'x + off' is the address that the field's operation computes. -/
theorem addOff_ok {Z : Nat → Prop} {v : Value} {x y : AV} {off : Nat} (hx : RA w Z h gs v x) (e : addOff off x = some y) : ∃ ad, v = .pointer (some ad) ∧ RA w Z h gs (.pointer (some (ad.add off))) y := by
  cases hx <;> simp only [addOff, Option.some.injEq, reduceCtorEq] at e
  case pim ad xs g hb hlt hc ho hh =>
    subst e
    exact RA.drop_pim (.pim ad xs g hb hlt hc ho hh) off
  case ptr o k b K ty cells ho hg =>
    subst e
    exact ⟨_, rfl, by rw [addr_lit]; exact .ptr o _ b K ty cells ho hg⟩
  case rp ad o L i k ty sz n f ho hL hv =>
    subst e
    refine ⟨ad, rfl, .rp _ o L i _ ty sz n f ho hL fun hn => ?_⟩
    obtain ⟨b, K, e1, e2⟩ := hv hn
    exact ⟨b, K, e1, by rw [e2, addr_lit, Nat.add_assoc]⟩

theorem cells_one {v : Value} (hv : v.oneCell' = true) : v.cells = #[v] := by cases v <;> simp [Value.oneCell', Value.cells] at hv ⊢

theorem RA.one_of {Z : Nat → Prop} {v : Value} {x : AV} (hx : RA w Z h gs v x) (ho : x.one = true) : v.oneCell' = true := by
  cases hx <;> simp only [AV.one, Bool.false_eq_true] at ho <;> try rfl
  rename_i y hy
  cases hy <;> simp only [Bool.false_eq_true] at ho <;> first | rfl | exact ho

/-- A value and its cells. -/
theorem RA.cells_of {Z : Nat → Prop} {v : Value} {x : AV} {l : List AV} (hx : RA w Z h gs v x) (hc : x.cells = some l) : v.cells.size = l.length ∧ (∀ i, i < l.length → (v.cells.getD i undef).oneCell' = true) ∧
    ∀ i, i < l.length → RA w Z h gs (v.cells.getD i undef) (l.getD i default) := by
  have one : ∀ (y : AV), RA w Z h gs v y → (if y.one then some [y] else none) = some l → v.cells.size = l.length ∧ (∀ i, i < l.length → (v.cells.getD i undef).oneCell' = true) ∧
      ∀ i, i < l.length → RA w Z h gs (v.cells.getD i undef) (l.getD i default) := by
    intro y hy e
    split at e
    · rename_i hone
      injection e with e
      subst e
      have hv := hy.one_of hone
      rw [cells_one hv]
      refine ⟨rfl, fun i hi => ?_, fun i hi => ?_⟩
      · have : i = 0 := by simpa using hi
        subst this
        exact hv
      · have : i = 0 := by simpa using hi
        subst this
        exact hy
    · cases e
  unfold AV.cells at hc
  split at hc
  · injection hc with hc
    subst hc
    cases hx with
    | agg cs xs hl ho hh => exact ⟨hl, ho, hh⟩
  · rename_i xs
    injection hc with hc
    subst hc
    cases hx with
    | c _ _ hx =>
      cases hx with
      | agg cs _ hl ho hh =>
        refine ⟨by simpa [Value.cells] using hl, fun i hi => ho i (by simpa using hi), fun i hi => ?_⟩
        have hi' : i < xs.length := by simpa using hi
        rw [getD_lt hi, List.getElem_map]
        have := hh i hi'
        rw [getD_lt hi'] at this
        exact .c _ _ this
  · exact one x hx hc

theorem RA.closed1_of {Z : Nat → Prop} {v : Value} {x : AV} {y : CV} (hx : RA w Z h gs v x) (hc : x.closed1 = some y) : RC w Z v y := by
  cases hx <;> simp only [AV.closed1, Option.some.injEq, reduceCtorEq] at hc
  case c x hx => subst hc; exact hx
  case emp => subst hc; exact .nul _ _ _ _

theorem closedL_of : ∀ {l : List AV} {ys : List CV}, closedL l = some ys → ys.length = l.length ∧ ∀ i, i < l.length → (l.getD i default).closed1 = some (ys.getD i .any)
  | [], ys, e => by simp only [closedL, Option.some.injEq] at e; subst e; exact ⟨rfl, fun i hi => by simp at hi⟩
  | x :: r, ys, e => by
    simp only [closedL] at e
    split at e
    · rename_i y ys' e1 e2
      injection e with e
      subst e
      obtain ⟨h1, h2⟩ := closedL_of e2
      refine ⟨by simp [h1], fun i hi => ?_⟩
      cases i with
      | zero => exact e1
      | succ i => exact h2 i (by simpa using hi)
    · cases e

theorem RA.closedCells_of {Z : Nat → Prop} {v : Value} {x : AV} {l : List CV} (hx : RA w Z h gs v x) (hc : x.closedCells = some l) : v.cells.size = l.length ∧ (∀ i, i < l.length → (v.cells.getD i undef).oneCell' = true) ∧
    ∀ i, i < l.length → RC w Z (v.cells.getD i undef) (l.getD i .any) := by
  unfold AV.closedCells at hc
  split at hc
  · rename_i xs e
    obtain ⟨h1, h2, h3⟩ := hx.cells_of e
    obtain ⟨h4, h5⟩ := closedL_of hc
    exact ⟨by omega, fun i hi => h2 i (by omega), fun i hi => (h3 i (by omega)).closed1_of (h5 i (by omega))⟩
  · cases hc

theorem bin_ok {op : BinOp} {t : TypeId} {v1 v2 v : Value} (y z : Operand) (hb : bin op v1 v2 = some v) : (do eqGuard op t y z v1 v2; binOp op t v1 v2 : Sem Value).run P w = .ok v w := by
  unfold bin at hb
  split at hb
  · rename_i k n k' m
    split at hb
    · rename_i hk
      subst hk
      cases op <;> simp only [Option.some.injEq, reduceCtorEq] at hb <;> first
        | (subst hb; simp [binOp, Op.intArith, Op.intCmp, go_sem]; done)
        | (split at hb
           · cases hb
           · rename_i hne
             simp only [Option.some.injEq] at hb
             subst hb
             simp [binOp, Op.intDiv, hne, go_sem])
    · cases hb
  · rename_i a b
    cases op <;> simp only [Option.some.injEq, reduceCtorEq] at hb <;> first
      | (subst hb; simp [binOp, Op.stringOp, go_sem]; done)
      | (split at hb
         · rename_i hle
           simp only [Option.some.injEq] at hb
           subst hb
           have : ¬ IntKind.i64.max < (a.size : Int) + b.size := by show ¬ (9223372036854775807 : Int) < _; omega
           simp [binOp, Op.stringOp, go_sem, this]
           try omega
         · cases hb)
  · cases hb

theorem aop0_move [Glb] (R : RelG E nt s h gs a w) {d : Option Tmp} {ty : TypeId} {pos : String} {af : Array Edge} {gd : Option (Nat × Bool)} {x : AV} (op : Op) (y : Operand) (hop : op = .move y ∨ op = .assign y) (hx : x = ev s y) :
    ∃ v w', (execOp a.eval ⟨d, op, ty, pos, af, gd⟩).run P w = .ok (.value v) w' ∧ Below w.heap.size w w' ∧ RA w' (Zf E.Z gs) h gs v x := by
  subst hx
  refine ⟨a.eval y, w, ?_, Below.refl _ _, ev_ok R y⟩
  rcases hop with rfl | rfl <;> simp [execOp]

theorem aop0_pick [Glb] (R : RelG E nt s h gs a w) {d : Option Tmp} {ty : TypeId} {pos : String} {af : Array Edge} {gd : Option (Nat × Bool)} {x : AV} (c y z : Operand) (hx : aop0 P (.pick c y z) (ev s) true x) :
    ∃ v w', (execOp a.eval ⟨d, .pick c y z, ty, pos, af, gd⟩).run P w = .ok (.value v) w' ∧ Below w.heap.size w w' ∧ RA w' (Zf E.Z gs) h gs v x := by
  obtain ⟨b, p, q, e1, e2, e3, hw, rfl⟩ := hx
  obtain ⟨h1, h2, h3⟩ := hw rfl
  have c1 := (ev_ok R c).raw_of h1 e1
  refine ⟨.bool (bif b then p else q), w, ?_, Below.refl _ _, .c _ _ (.raw _)⟩
  cases b with
  | true =>
    have c2 := (ev_ok R y).raw_of (h2 rfl) e2
    simp [execOp, c1, c2, asBool]
  | false =>
    have c3 := (ev_ok R z).raw_of (h3 rfl) e3
    simp [execOp, c1, c3, asBool]

theorem rawsL_of {Z : Nat → Prop} : ∀ (xs : List CV) (us : List Value) (cs : List Value), rawsL xs = some us → cs.length = xs.length → (∀ i, i < xs.length → RC w Z (cs.getD i undef) (xs.getD i .any)) → cs = us
  | [], us, cs, e, hl, _ => by
    simp only [rawsL, Option.some.injEq] at e
    subst e
    exact List.eq_nil_of_length_eq_zero (by simpa using hl)
  | x :: xs, us, cs, e, hl, hh => by
    cases x with
    | raw v =>
      simp only [rawsL, Option.map_eq_some_iff] at e
      obtain ⟨us', e1, rfl⟩ := e
      cases cs with
      | nil => simp at hl
      | cons c cs =>
        have h0 := (hh 0 (by simp)).raw_inv
        have h1 := rawsL_of xs us' cs e1 (by simpa using hl) (fun i hi => hh (i + 1) (by simpa using hi))
        rw [h1]
        have h2 : c = v := h0
        rw [h2]
    | _ => simp [rawsL] at e

theorem RA.rawAgg_of {Z : Nat → Prop} {v : Value} {x : AV} {us : List Value} (hx : RA w Z h gs v x) (e : x.rawAgg = some us) : v = .agg us.toArray := by
  have key : ∀ (cs : Array Value) (ys : List CV), cs.size = ys.length → (∀ i, i < ys.length → RC w Z (cs.getD i undef) (ys.getD i .any)) → rawsL ys = some us → Value.agg cs = .agg us.toArray := by
    intro cs ys hl hh e
    have := rawsL_of ys us cs.toList e (by simpa using hl) (fun i hi => by
      have := hh i hi
      rw [show cs.toList.getD i undef = cs.getD i undef by simp [List.getD_eq_getElem?_getD, Array.getD_eq_getD_getElem?]]
      exact this)
    rw [← this]
  cases hx with
  | c _ y hy =>
    cases hy <;> simp only [AV.rawAgg, reduceCtorEq] at e
    case agg cs xs hl ho hh => exact key cs xs hl hh e
  | agg cs xs hl ho hh =>
    simp only [AV.rawAgg] at e
    split at e
    · rename_i ys e1
      obtain ⟨h1, h2⟩ := closedL_of e1
      exact key cs ys (by omega) (fun i hi => (hh i (by omega)).closed1_of (h2 i (by omega))) e
    · cases e
  | _ => simp [AV.rawAgg] at e

theorem aop0_binOp [Glb] (R : RelG E nt s h gs a w) {d : Option Tmp} {ty : TypeId} {pos : String} {af : Array Edge} {gd : Option (Nat × Bool)} {x : AV} (op : BinOp) (t t2 : TypeId) (y z : Operand) (hx : aop0 P (.binOp op t y z t2) (ev s) true x) :
    ∃ v w', (execOp a.eval ⟨d, .binOp op t y z t2, ty, pos, af, gd⟩).run P w = .ok (.value v) w' ∧ Below w.heap.size w w' ∧ RA w' (Zf E.Z gs) h gs v x := by
  have agg : ∀ us vs v, (ev s y).strip.rawAgg = some us → (ev s z).strip.rawAgg = some vs → AggBin P op t us vs v → (ev s y).wh = true → (ev s z).wh = true →
      (execOp a.eval ⟨d, .binOp op t y z t2, ty, pos, af, gd⟩).run P w = .ok (.value v) w := by
    intro us vs v e1 e2 hb h1 h2
    have c1 := ((ev_ok R y).strip h1).rawAgg_of e1
    have c2 := ((ev_ok R z).strip h2).rawAgg_of e2
    have := hb y z w
    simp only [execOp, c1, c2]
    simp only [Sem.run_bind] at this ⊢
    rw [this]
    simp
  simp only [aop0] at hx
  split at hx
  · rename_i v1 e1
    obtain ⟨v2, v, e2, e3, hw, rfl⟩ := hx
    obtain ⟨h1, h2⟩ := hw trivial
    have c1 := (ev_ok R y).raw_of h1 e1
    have c2 := (ev_ok R z).raw_of h2 e2
    refine ⟨v, w, ?_, Below.refl _ _, .c _ _ (.raw _)⟩
    have hb : (do eqGuard op t y z v1 v2; binOp op t v1 v2 : Sem Value).run P w = .ok v w := by
      rcases e3 with e3 | e3
      · exact bin_ok y z e3
      · exact e3 y z w
    simp only [execOp, c1, c2]
    simp only [Sem.run_bind] at hb ⊢
    rw [hb]
    simp
  · obtain ⟨us, vs, v, e1, e2, hb, hw, rfl⟩ := hx
    obtain ⟨h1, h2⟩ := hw trivial
    exact ⟨v, w, agg us vs v e1 e2 hb h1 h2, Below.refl _ _, .c _ _ (.raw _)⟩

theorem aop0_unOp [Glb] (R : RelG E nt s h gs a w) {d : Option Tmp} {ty : TypeId} {pos : String} {af : Array Edge} {gd : Option (Nat × Bool)} {x : AV} (op : UnOp) (t : TypeId) (y : Operand) (hx : aop0 P (.unOp op t y) (ev s) true x) :
    ∃ v w', (execOp a.eval ⟨d, .unOp op t y, ty, pos, af, gd⟩).run P w = .ok (.value v) w' ∧ Below w.heap.size w w' ∧ RA w' (Zf E.Z gs) h gs v x := by
  cases op with
  | not =>
    obtain ⟨b, e1, hw, rfl⟩ := hx
    have c1 := (ev_ok R y).raw_of (hw rfl) e1
    exact ⟨.bool (!b), w, by simp [execOp, c1, Op.unary], Below.refl _ _, .c _ _ (.raw _)⟩
  | neg =>
    obtain ⟨k, n, e1, hw, rfl⟩ := hx
    have c1 := (ev_ok R y).raw_of (hw rfl) e1
    exact ⟨.int k (k.wrap (0 - n)), w, by simp [execOp, c1, Op.unary, Op.intArith], Below.refl _ _, .c _ _ (.raw _)⟩
  | _ => exact hx.elim

theorem aop0_convert [Glb] (R : RelG E nt s h gs a w) {d : Option Tmp} {ty : TypeId} {pos : String} {af : Array Edge} {gd : Option (Nat × Bool)} {x : AV} (t t2 : TypeId) (y : Operand) (hx : aop0 P (.convert t t2 y) (ev s) true x) :
    ∃ v w', (execOp a.eval ⟨d, .convert t t2 y, ty, pos, af, gd⟩).run P w = .ok (.value v) w' ∧ Below w.heap.size w w' ∧ RA w' (Zf E.Z gs) h gs v x := by
  obtain ⟨k, k', n, ⟨d', hd⟩, hu, e1, hw, rfl⟩ := hx
  have c1 := (ev_ok R y).raw_of (hw rfl) e1
  refine ⟨.int k (k.wrap n), w, ?_, Below.refl _ _, .c _ _ (.raw _)⟩
  simp [execOp, c1, convert, run_underlying hu, run_underlying hd, Conv.intToInt]

theorem aop0_extract [Glb] (R : RelG E nt s h gs a w) {d : Option Tmp} {ty : TypeId} {pos : String} {af : Array Edge} {gd : Option (Nat × Bool)} {x : AV} (y : Operand) (i : Nat) (hx : aop0 P (.extract y i) (ev s) true x) :
    ∃ v w', (execOp a.eval ⟨d, .extract y i, ty, pos, af, gd⟩).run P w = .ok (.value v) w' ∧ Below w.heap.size w w' ∧ RA w' (Zf E.Z gs) h gs v x := by
  obtain ⟨xs, e1, hw, rfl⟩ := hx
  obtain ⟨h1, h2⟩ := hw rfl
  have c1 := (ev_ok R y).c_of h1 e1
  generalize hvy : a.eval y = vy at c1
  cases c1 with
  | tup cs _ hl hh =>
    refine ⟨cs.getD i undef, w, ?_, Below.refl _ _, .c _ _ (hh i h2)⟩
    have hi : i < cs.size := by omega
    simp [execOp, hvy, Instr.extract, Array.getElem?_eq_getElem hi, Array.getD, hi]

theorem aop0_fieldAddr [Glb] (R : RelG E nt s h gs a w) {d : Option Tmp} {ty : TypeId} {pos : String} {af : Array Edge} {gd : Option (Nat × Bool)} {x : AV} (t : TypeId) (y : Operand) (f : Nat) (hx : aop0 P (.fieldAddr t y f) (ev s) true x) :
    ∃ v w', (execOp a.eval ⟨d, .fieldAddr t y f, ty, pos, af, gd⟩).run P w = .ok (.value v) w' ∧ Below w.heap.size w w' ∧ RA w' (Zf E.Z gs) h gs v x := by
  obtain ⟨i, off, sz, e1, e2, e3, e4, hw⟩ := hx
  have c1 := (ev_ok R y).strip (hw rfl)
  obtain ⟨ad, c2, c3⟩ := addOff_ok c1 e4
  obtain ⟨j, dd, t1, t2, -, -, -, -, -, t8, -⟩ := tinfo_some e1
  cases dd with
  | struct fs =>
    simp only at t8
    rw [t8, List.getElem?_map, Option.map_eq_some_iff] at e2
    obtain ⟨fl, e5, e6⟩ := e2
    simp only [Prod.mk.injEq] at e6
    obtain ⟨rfl, e7⟩ := e6
    have e8 : fs[f]? = some fl := by rw [← Array.getElem?_toList]; exact e5
    refine ⟨.pointer (some (ad.add fl.offset)), w, ?_, Below.refl _ _, c3⟩
    have hs : (sizeOf fl.type).run P w = .ok (P.cellsOf fl.type) w := by
      unfold Program.cellsOf at e7 ⊢
      cases hi : P.info? fl.type with
      | none => rw [hi] at e7; simp at e7; omega
      | some k => simp [sizeOf, typeInfo, hi]
    have hne : P.cellsOf fl.type ≠ 0 := by omega
    simp [execOp, c2, Instr.fieldAt, run_underlying t2, e8, Instr.sureAddr, fieldPlace, hs, hne]
  | _ => simp_all

/-- An array of cells as a list of values of the machine. -/
def CellsAre (w : World) (Z : Nat → Prop) (h : AH) (gs : Gs) (cur : Array Value) (l : List AV) : Prop :=
  cur.size = l.length ∧ (∀ i, i < l.length → (cur.getD i undef).oneCell' = true) ∧ ∀ i, i < l.length → RA w Z h gs (cur.getD i undef) (l.getD i default)

theorem foldl_set (off : Nat) : ∀ (l : List Value) (k : Nat) (cur : Array Value),
    ((l.zipIdx k).foldl (fun cs p => cs.setIfInBounds (off + p.2) p.1) cur).size = cur.size ∧
    ∀ t, t < cur.size → ((l.zipIdx k).foldl (fun cs p => cs.setIfInBounds (off + p.2) p.1) cur).getD t undef = if off + k ≤ t ∧ t < off + k + l.length then l.getD (t - (off + k)) undef else cur.getD t undef
  | [], k, cur => ⟨rfl, fun t _ => by rw [if_neg (by simp only [List.length_nil]; omega)]; rfl⟩
  | v :: l, k, cur => by
    have ih := foldl_set off l (k + 1) (cur.setIfInBounds (off + k) v)
    simp only [List.zipIdx_cons, List.foldl_cons]
    refine ⟨by rw [ih.1]; simp, fun t ht => ?_⟩
    rw [ih.2 t (by simpa using ht)]
    by_cases h1 : t = off + k
    · subst h1
      rw [if_neg (by omega), if_pos (by simp), Nat.sub_self]
      simp [Array.getD, ht]
    · have h2 : (cur.setIfInBounds (off + k) v).getD t undef = cur.getD t undef := by
        simp only [Array.getD_eq_getD_getElem?]
        rw [Array.getElem?_setIfInBounds_ne (Ne.symm h1)]
      rw [h2]
      by_cases h3 : off + (k + 1) ≤ t ∧ t < off + (k + 1) + l.length
      · rw [if_pos h3, if_pos (by simp only [List.length_cons]; omega)]
        obtain ⟨j, hj⟩ : ∃ j, t - (off + k) = j + 1 := ⟨t - (off + k) - 1, by omega⟩
        rw [hj, show t - (off + (k + 1)) = j by omega]
        rfl
      · rw [if_neg h3, if_neg (by simp only [List.length_cons]; omega)]

theorem getD_setL {cs xs : List AV} {off t : Nat} (hl : off + xs.length ≤ cs.length) : (setL cs off xs).getD t default = if off ≤ t ∧ t < off + xs.length then xs.getD (t - off) default else cs.getD t default := by
  unfold setL
  simp only [List.getD_eq_getElem?_getD]
  by_cases h1 : t < off
  · rw [if_neg (by omega), List.append_assoc, List.getElem?_append_left (by simp; omega), List.getElem?_take, if_pos h1]
  · by_cases h2 : t < off + xs.length
    · rw [if_pos (by omega), List.append_assoc, List.getElem?_append_right (by simp; omega), List.getElem?_append_left (by simp; omega)]
      simp only [List.length_take]
      rw [Nat.min_eq_left (by omega)]
    · rw [if_neg (by omega), List.getElem?_append_right (by simp; omega), List.getElem?_drop]
      congr 2
      simp
      omega
theorem length_setL {cs xs : List AV} {off : Nat} (hl : off + xs.length ≤ cs.length) : (setL cs off xs).length = cs.length := by
  unfold setL
  simp
  omega

theorem CellsAre.set {Z : Nat → Prop} {cur : Array Value} {cs xs : List AV} {v : Value} {off : Nat} (hc : CellsAre w Z h gs cur cs) (hv : CellsAre w Z h gs v.cells xs) (hl : off + xs.length ≤ cs.length) :
    CellsAre w Z h gs (v.cells.zipIdx.foldl (fun cs (p : Value × Nat) => cs.setIfInBounds (off + p.2) p.1) cur) (setL cs off xs) := by
  have he : v.cells.zipIdx.foldl (fun cs (p : Value × Nat) => cs.setIfInBounds (off + p.2) p.1) cur = (v.cells.toList.zipIdx 0).foldl (fun cs p => cs.setIfInBounds (off + p.2) p.1) cur := by
    rw [← Array.foldl_toList, Array.toList_zipIdx]
  obtain ⟨f1, f2⟩ := foldl_set off v.cells.toList 0 cur
  rw [he]
  obtain ⟨c1, c2, c3⟩ := hc
  obtain ⟨v1, v2, v3⟩ := hv
  have hlen : v.cells.toList.length = xs.length := by simpa using v1
  have hget : ∀ i, v.cells.toList.getD i undef = v.cells.getD i undef := fun i => by simp [List.getD_eq_getElem?_getD, Array.getD_eq_getD_getElem?]
  refine ⟨by rw [f1, length_setL hl, c1], fun i hi => ?_, fun i hi => ?_⟩ <;> rw [length_setL hl] at hi <;> rw [f2 i (by omega)]
  · split
    · rw [hget]; exact v2 _ (by omega)
    · exact c2 i hi
  · rw [getD_setL hl]
    by_cases h1 : off ≤ i ∧ i < off + xs.length
    · rw [if_pos (by omega), if_pos h1, hget, Nat.add_zero]; exact v3 _ (by omega)
    · rw [if_neg (by omega), if_neg h1]; exact c3 i hi

theorem fill_ok {Z : Nat → Prop} (fields : List (Nat × Nat)) (place : Nat → Option (Nat × Nat)) (hp : ∀ i, place i = fields[i]?) : ∀ (vs : List (Nat × Value)) (xs : List (Nat × AV)) (cur : Array Value) (cs l : List AV),
    vs.map (·.1) = xs.map (·.1) → (∀ (j : Nat) (p : Nat × Value) (q : Nat × AV), vs[j]? = some p → xs[j]? = some q → RA w Z h gs p.2 q.2) → CellsAre w Z h gs cur cs → bfill fields cs xs = some l →
    ∃ cur', Instr.fill place cur vs = some cur' ∧ CellsAre w Z h gs cur' l
  | [], [], cur, cs, l, _, _, hc, e => by
    simp only [bfill, Option.some.injEq] at e
    subst e
    exact ⟨cur, rfl, hc⟩
  | [], _ :: _, _, _, _, e, _, _, _ => by simp at e
  | _ :: _, [], _, _, _, e, _, _, _ => by simp at e
  | (i, v) :: vs, (i', x) :: xs, cur, cs, l, hi, hv, hc, e => by
    simp only [List.map_cons, List.cons.injEq] at hi
    obtain ⟨rfl, hi⟩ := hi
    simp only [bfill] at e
    split at e
    · rename_i off sz e1
      split at e
      · rename_i l' e2
        split at e
        · rename_i hsz
          have hx : RA w Z h gs v x := hv 0 _ _ rfl rfl
          have hcx := hx.cells_of e2
          have hset := hc.set (off := off) hcx (by omega)
          obtain ⟨cur', f1, f2⟩ := fill_ok fields place hp vs xs _ _ l hi (fun j p q h1 h2 => hv (j + 1) p q h1 h2) hset e
          refine ⟨cur', ?_, f2⟩
          simp only [Instr.fill, hp, e1]
          rw [if_neg]
          · exact f1
          · have := hc.1
            have := hcx.1
            simp
            omega
        · cases e
      · cases e
    · cases e

theorem zeros_ok {Z : Nat → Prop} (l : List Value) (ho : ∀ v ∈ l, v.oneCell' = true) : CellsAre w Z h gs l.toArray (l.map constAV1) := by
  refine ⟨by simp, fun i hi => ?_, fun i hi => ?_⟩
  · have hi' : i < l.length := by simpa using hi
    have : l.toArray.getD i undef = l[i] := by simp [Array.getD, hi']
    rw [this]
    exact ho _ (List.getElem_mem hi')
  · have hi' : i < l.length := by simpa using hi
    have : l.toArray.getD i undef = l[i] := by simp [Array.getD, hi']
    rw [this, getD_lt hi, List.getElem_map]
    exact constAV1_ok _ _ _ _ _


theorem mapM_places (fs : List Field) (hf : ∀ f ∈ fs, P.cellsOf f.type ≠ 0) : (fs.mapM fun f => (do pure (f.offset, ← sizeOf f.type) : Sem (Nat × Nat))).run P w = .ok (fs.map fun f => (f.offset, P.cellsOf f.type)) w := by
  induction fs with
  | nil => rfl
  | cons f fs ih =>
    have hs : (sizeOf f.type).run P w = .ok (P.cellsOf f.type) w := by
      have e7 := hf f (by simp)
      unfold Program.cellsOf at e7 ⊢
      cases hi : P.info? f.type with
      | none => rw [hi] at e7; simp at e7
      | some k => simp [sizeOf, typeInfo, hi]
    have ih' := ih fun g hg => hf g (by simp [hg])
    simp only [List.mapM_cons, Sem.run_bind, hs, Result.andThen_ok, Sem.run_pure, List.map_cons] at ih' ⊢
    rw [ih']
    rfl


theorem getElem_map_getD {l : List (Nat × Operand)} {β : Type} (F : Nat × Operand → β) {j : Nat} {p : β} (hp : (l.map F)[j]? = some p) : ∃ q, l[j]? = some q ∧ p = F q := by
  rw [List.getElem?_map, Option.map_eq_some_iff] at hp
  obtain ⟨q, h1, h2⟩ := hp
  exact ⟨q, h1, h2.symm⟩

theorem aop0_build [Glb] (R : RelG E nt s h gs a w) {d : Option Tmp} {ty : TypeId} {pos : String} {af : Array Edge} {gd : Option (Nat × Bool)} {x : AV} (t : TypeId) (parts : Array (Nat × Operand)) (hx : aop0 P (.build t parts) (ev s) true x) :
    ∃ v w', (execOp a.eval ⟨d, .build t parts, ty, pos, af, gd⟩).run P w = .ok (.value v) w' ∧ Below w.heap.size w w' ∧ RA w' (Zf E.Z gs) h gs v x := by
  obtain ⟨i, cs, e1, e2, e3, e30, e4, hnz, hw, rfl⟩ := hx
  obtain ⟨j, dd, t1, t2, t3, -, t5, -, -, t8, t9⟩ := tinfo_some e1
  cases hzz : j.zero with
  | none =>
    rw [hzz] at t9
    simp only at t9
    exact absurd t9 e3
  | some z =>
  rw [hzz] at t9
  simp only at t9
  obtain ⟨z1, z2⟩ := tinfo_zero e1 t1 hzz
  cases dd with
  | struct fs =>
    simp only at t8
    have hr := fill_ok (w := w) (h := h) (gs := gs) (Z := Zf E.Z gs) i.fields (fun k => (fs.map fun f => (f.offset, P.cellsOf f.type))[k]?) (fun k => by rw [t8]; simp) (parts.toList.map fun p => (p.1, a.eval p.2)) (parts.toList.map fun p => (p.1, (ev s p.2).strip)) z.cells (i.zero.map constAV1) cs (by simp) (fun k p q h1 h2 => by
      obtain ⟨q1, h3, rfl⟩ := getElem_map_getD _ h1
      obtain ⟨q2, h4, rfl⟩ := getElem_map_getD _ h2
      rw [h3] at h4
      injection h4 with h4
      subst h4
      exact (ev_ok R q1.2).strip (hw rfl q1 (List.mem_of_getElem? h3))) (by rw [t9]; exact zeros_ok _ z2) hnz
    obtain ⟨cur', f1, f2⟩ := hr
    refine ⟨.agg cur', w, ?_, Below.refl _ _, .agg cur' cs f2.1 f2.2.1 f2.2.2⟩
    have hm := mapM_places (P := P) (w := w) fs.toList (fun f hf => e4 (f.offset, P.cellsOf f.type) (by rw [t8]; exact List.mem_map.2 ⟨f, hf, rfl⟩))
    have hm' : (fs.mapM fun f => (do pure (f.offset, ← sizeOf f.type) : Sem (Nat × Nat))).run P w = .ok (fs.map fun f => (f.offset, P.cellsOf f.type)) w := by
      rw [← Array.toArray_toList (xs := fs), List.mapM_toArray]
      simp only [Sem.run_map, hm, Result.andThen_ok]
      simp
      exact Array.ext' (by simp)
    have hz0 : (zeroValue t).run P w = .ok z w := by simp [zeroValue, typeInfo, t1, hzz]
    have f1' : Instr.fill (fun x => (fs.map fun f => (f.offset, P.cellsOf f.type))[x]?) z.cells ((parts.map fun p => (p.1, a.eval p.2)).toList) = some cur' := by simpa using f1
    simp only [execOp, Instr.build, Sem.run_bind, hz0, Result.andThen_ok, run_underlying t2, hm', Sem.run_pure, f1']
  | array n e =>
    simp only at t8
    exact absurd t8 e30
  | _ => simp_all

theorem fillS_ok {Z : Nat → Prop} (e : Operand → AV) (g : Operand → Value) (sz : Nat) : ∀ (ps : List (Nat × Operand)) (k : Nat) (l : List (List CV)) (cur : Array Value),
    (∀ p ∈ ps, RA w Z h gs (g p.2) (e p.2).strip) → partsC e ps k sz = some l → (k + ps.length) * sz ≤ cur.size →
    l.length = ps.length ∧ (∀ i, i < ps.length → (l.getD i []).length = sz) ∧ ∃ cur', Instr.fill (fun i => some (i * sz, sz)) cur (ps.map fun p => (p.1, g p.2)) = some cur' ∧ cur'.size = cur.size ∧ (∀ t, t < k * sz → cur'.getD t undef = cur.getD t undef) ∧
      ∀ i j, i < ps.length → j < sz → (cur'.getD ((k + i) * sz + j) undef).oneCell' = true ∧ RC w Z (cur'.getD ((k + i) * sz + j) undef) ((l.getD i []).getD j .any)
  | [], k, l, cur, _, hl, _ => by
    simp only [partsC, Option.some.injEq] at hl
    subst hl
    exact ⟨rfl, fun i hi => by simp at hi, cur, rfl, rfl, fun _ _ => rfl, fun i j hi => by simp at hi⟩
  | (i, y) :: ps, k, l, cur, he, hl, hs => by
    simp only [partsC] at hl
    split at hl
    · rename_i hik
      subst hik
      split at hl
      · rename_i cs l' e1 e2
        split at hl
        · rename_i hcl
          injection hl with hl
          subst hl
          have hx := (he (i, y) (by simp)).closedCells_of e1
          obtain ⟨x1, x2, x3⟩ := hx
          simp only at x1 x2 x3
          simp only [List.length_cons] at hs
          have hs' : i * sz + sz + ps.length * sz ≤ cur.size := by rw [← Nat.succ_mul, ← Nat.add_mul]; rw [show i + 1 + ps.length = i + (ps.length + 1) by omega]; exact hs
          have he' : (g y).cells.zipIdx.foldl (fun cs (p : Value × Nat) => cs.setIfInBounds (i * sz + p.2) p.1) cur = ((g y).cells.toList.zipIdx 0).foldl (fun cs p => cs.setIfInBounds (i * sz + p.2) p.1) cur := by
            rw [← Array.foldl_toList, Array.toList_zipIdx]
          obtain ⟨f1, f2⟩ := foldl_set (i * sz) (g y).cells.toList 0 cur
          rw [← he'] at f1 f2
          have hget : ∀ t, (g y).cells.toList.getD t undef = (g y).cells.getD t undef := fun t => by simp [List.getD_eq_getElem?_getD, Array.getD_eq_getD_getElem?]
          obtain ⟨r0, r1, cur', r2, r3, r4, r5⟩ := fillS_ok e g sz ps (i + 1) l' ((g y).cells.zipIdx.foldl (fun cs (p : Value × Nat) => cs.setIfInBounds (i * sz + p.2) p.1) cur) (fun p hp => he p (by simp [hp])) e2 (by rw [f1, Nat.add_mul, Nat.add_mul]; omega)
          have hlen : (g y).cells.toList.length = sz := by rw [Array.length_toList]; omega
          refine ⟨by simp [r0], fun t ht => ?_, cur', ?_, by rw [r3, f1], fun t ht => ?_, fun t j ht hj => ?_⟩
          · cases t with
            | zero => exact hcl
            | succ t => exact r1 t (by simpa using ht)
          · simp only [List.map_cons, Instr.fill]
            rw [if_neg (by simp; omega)]
            exact r2
          · rw [r4 t (by rw [Nat.succ_mul]; omega), f2 t (by omega), if_neg (by omega)]
          · cases t with
            | zero =>
              simp only [Nat.add_zero]
              rw [r4 (i * sz + j) (by rw [Nat.succ_mul]; omega), f2 (i * sz + j) (by omega), if_pos (by omega), hget, Nat.add_zero, Nat.add_sub_cancel_left]
              exact ⟨x2 j (by omega), x3 j (by omega)⟩
            | succ t =>
              have := r5 t j (by simpa using ht) hj
              rw [show i + 1 + t = i + (t + 1) by omega] at this
              exact this
        · cases hl
      · cases hl
    · cases hl

theorem aop0_buildSlice [Glb] (R : RelG E nt s h gs a w) {d : Option Tmp} {ty : TypeId} {pos : String} {af : Array Edge} {gd : Option (Nat × Bool)} {x : AV} (t : TypeId) (len : Nat) (parts : Array (Nat × Operand)) (hx : aop0 P (.buildSlice t len parts) (ev s) true x) :
    ∃ v w', (execOp a.eval ⟨d, .buildSlice t len parts, ty, pos, af, gd⟩).run P w = .ok (.value v) w' ∧ Below w.heap.size w w' ∧ RA w' (Zf E.Z gs) h gs v x := by
  obtain ⟨i, j, l, e1, e2, e3, rfl, e5, e6, e7, hw, rfl⟩ := hx
  obtain ⟨i', dd, t1, t2, -, -, -, t6, t7, -, -⟩ := tinfo_some e1
  obtain ⟨j', dj, u1, u2, u3, -, -, -, -, -, u9⟩ := tinfo_some e3
  cases dd with
  | slice el =>
    simp only at t6
    rw [t6] at u1
    have hsz : (sizeOf el).run P w = .ok j.size w := by simp [sizeOf, typeInfo, u1, u3]
    have key : ∀ zc : Array Value, (((Array.range (parts.size * j.size)).map (zc[· % zc.size]!))).size = parts.size * j.size := by intro zc; simp
    have hzz : ∃ zc : Array Value, (parts.size * j.size = 0 ∧ zc = #[]) ∨ (parts.size * j.size ≠ 0 ∧ ∃ z, (zeroValue el).run P w = .ok z w ∧ zc = z.cells) := by
      by_cases h0 : parts.size * j.size = 0
      · exact ⟨#[], .inl ⟨h0, rfl⟩⟩
      · cases hz : j'.zero with
        | none =>
          rw [hz] at u9
          simp only at u9
          rcases e7 with e7 | e7
          · rw [e7] at h0; simp at h0
          · exact absurd u9 e7
        | some z => exact ⟨z.cells, .inr ⟨h0, z, by simp [zeroValue, typeInfo, u1, hz], rfl⟩⟩
    obtain ⟨zc, hzc⟩ := hzz
    obtain ⟨r0, r1, cur', r2, r3, r4, r5⟩ := fillS_ok (w := w) (h := h) (gs := gs) (Z := Zf E.Z gs) (ev s) a.eval j.size parts.toList 0 l ((Array.range (parts.size * j.size)).map (zc[· % zc.size]!)) (fun p hp => (ev_ok R p.2).strip (hw rfl p hp)) e6 (by rw [key]; simp)
    have r2' : Instr.fill (fun i => some (i * j.size, j.size)) ((Array.range (parts.size * j.size)).map (zc[· % zc.size]!)) ((parts.map fun p => (p.1, a.eval p.2)).toList) = some cur' := by simpa using r2
    have hcs : cur'.size = parts.size * j.size := by rw [r3, key]
    have hb : Below w.heap.size w (w.alloc (.cells cur' el)) := (Below.refl _ _).alloc (Nat.le_refl _) _
    refine ⟨.slice (some ⟨w.heap.size, 0, none⟩) parts.size parts.size, w.alloc (.cells cur' el), ?_, hb, ?_⟩
    · simp only [execOp, Instr.buildSlice, Sem.run_bind, run_underlying t2, Result.andThen_ok, hsz]
      rw [if_neg (by omega)]
      rcases hzc with ⟨h0, rfl⟩ | ⟨h0, z, hz1, rfl⟩
      · rw [if_pos h0]
        simp only [Sem.run_pure, Result.andThen_ok, Sem.run_bind, r2', newRow, run_newObj]
        rfl
      · rw [if_neg h0]
        simp only [Sem.run_pure, Result.andThen_ok, Sem.run_bind, hz1, r2', newRow, run_newObj]
        rfl
    · by_cases h0 : parts.size = 0
      · rw [if_pos h0, h0]
        exact .emp _
      · rw [if_neg h0]
        refine .c _ _ (.im _ _ _ _ _ (fun t => cur'.getD t undef) ?_ (by simp) (Nat.le_refl _) (fun t ht => ?_) (fun t ht => ?_) (fun t ht => r1 t (by simpa using ht)) fun t k ht hk => ?_)
        · intro hz
          rcases hz with hz | ⟨o, K, hz⟩
          · have h1 := R.zlt w.heap.size hz
            have h2 := R.below.size
            omega
          · have h1 := (R.fresh _ w.heap.size _ hz).2
            omega
        · rw [addr_lit, Nat.zero_add, World.cell?_alloc_new]
          have : t < cur'.size := by omega
          simp [Array.getD, this]
        · have hpos : 0 < j.size := by
            rcases Nat.eq_zero_or_pos j.size with h1 | h1
            · rw [h1] at ht; simp at ht
            · exact h1
          have h2 := r5 (t / j.size) (t % j.size) (by rw [Array.length_toList]; exact Nat.div_lt_of_lt_mul (by rw [Nat.mul_comm]; exact ht)) (Nat.mod_lt _ hpos)
          rw [Nat.zero_add, Nat.mul_comm (t / j.size), Nat.div_add_mod] at h2
          exact h2.1
        · have h2 := r5 t k (by simpa using ht) hk
          rw [Nat.zero_add] at h2
          exact h2.2.later (later_of_below hb)
  | _ => simp_all

theorem aop0_nilCheck [Glb] (R : RelG E nt s h gs a w) {d : Option Tmp} {ty : TypeId} {pos : String} {af : Array Edge} {gd : Option (Nat × Bool)} {x : AV} (y : Operand) (hx : aop0 P (.nilCheck y) (ev s) true x) :
    ∃ v w', (execOp a.eval ⟨d, .nilCheck y, ty, pos, af, gd⟩).run P w = .ok (.value v) w' ∧ Below w.heap.size w w' ∧ RA w' (Zf E.Z gs) h gs v x := by
  obtain ⟨hw, hm, rfl⟩ := hx
  have hv := (ev_ok R y).strip (hw rfl)
  refine ⟨a.eval y, w, ?_, Below.refl _ _, hv⟩
  generalize hq : (ev s y).strip = q at hm hv
  generalize he : a.eval y = v at hv
  cases hv <;> first | (cases hm; done) | simp [execOp, he]
theorem aop0_index [Glb] (R : RelG E nt s h gs a w) {d : Option Tmp} {ty : TypeId} {pos : String} {af : Array Edge} {gd : Option (Nat × Bool)} {x : AV} (t : TypeId) (y z : Operand) (hx : aop0 P (.index t y z) (ev s) true x) :
    ∃ v w', (execOp a.eval ⟨d, .index t y z, ty, pos, af, gd⟩).run P w = .ok (.value v) w' ∧ Below w.heap.size w w' ∧ RA w' (Zf E.Z gs) h gs v x := by
  obtain ⟨ht, b, k, n, e1, e2, hw, rfl⟩ := hx
  obtain ⟨h1, h2, h3, h4⟩ := hw rfl
  have c1 := (ev_ok R y).raw_of h1 e1
  have c2 := (ev_ok R z).raw_of h2 e2
  refine ⟨_, w, ?_, Below.refl _ _, .c _ _ (.raw _)⟩
  have hlt : n.toNat < b.size := by omega
  simp [execOp, c1, c2, Instr.index, asIntOf, run_underlying ht, h3, getElem?_pos b n.toNat hlt, byteAt]
theorem aop0_makeInterface [Glb] (R : RelG E nt s h gs a w) {d : Option Tmp} {ty : TypeId} {pos : String} {af : Array Edge} {gd : Option (Nat × Bool)} {x : AV} (t : TypeId) (y : Operand) (hx : aop0 P (.makeInterface t y) (ev s) true x) :
    ∃ v w', (execOp a.eval ⟨d, .makeInterface t y, ty, pos, af, gd⟩).run P w = .ok (.value v) w' ∧ Below w.heap.size w w' ∧ RA w' (Zf E.Z gs) h gs v x := by
  obtain ⟨⟨d0, ht, hni⟩, hw, v, hv, rfl⟩ := hx
  have hv0 := (ev_ok R y).strip (hw rfl)
  have he : a.eval y = v := by
    rcases hv with hv | ⟨us, hv, rfl⟩
    · rw [hv] at hv0; exact hv0.raw_inv
    · exact hv0.rawAgg_of hv
  refine ⟨_, w, ?_, Below.refl _ _, .c _ _ (.raw _)⟩
  cases d0 <;> first | (simp [execOp, he, Instr.makeInterface, run_underlying ht]; done) | (cases hni; done)
theorem aop0_makeFunc [Glb] (R : RelG E nt s h gs a w) {d : Option Tmp} {ty : TypeId} {pos : String} {af : Array Edge} {gd : Option (Nat × Bool)} {x : AV} (fn : Fn) (first caps : Array Operand) (hx : aop0 P (.makeFunc fn first caps) (ev s) true x) :
    ∃ v w', (execOp a.eval ⟨d, .makeFunc fn first caps, ty, pos, af, gd⟩).run P w = .ok (.value v) w' ∧ Below w.heap.size w w' ∧ RA w' (Zf E.Z gs) h gs v x := by
  obtain ⟨f, os, rfl, rfl, hw, hm, rfl⟩ := hx
  have hl : caps.size = os.length := by simpa using congrArg List.length hm
  refine ⟨.func (.func f) #[] (caps.map a.eval), w, ?_, Below.refl _ _, .fn f _ os (by simpa using hl) fun i hi => ?_⟩
  · simp [execOp, Instr.makeFunc]
  · have hic : i < caps.toList.length := by simpa using (by omega : i < caps.size)
    have h1 := (ev_ok R caps.toList[i]).strip (hw rfl _ (List.getElem_mem hic))
    have h2 : (ev s caps.toList[i]).strip = .ptr os[i] 0 := by
      have h3 : (caps.toList.map fun y => (ev s y).strip)[i]'(by simpa using hic) = (os.map (fun o => AV.ptr o 0))[i]'(by simpa using hi) := by simp only [hm]
      simpa using h3
    rw [h2] at h1
    have e1 : (caps.map a.eval).getD i undef = a.eval caps.toList[i] := by
      rw [Array.getD_eq_getD_getElem?, Array.getElem?_map, Array.getElem?_eq_getElem (by simpa using hic)]
      simp
    rw [e1, getD_lt hi]
    generalize a.eval caps.toList[i] = v at h1
    cases h1 with
    | ptr _ _ b K ty' cells ho hg => exact ⟨b, K, ty', cells, rfl, ho, hg⟩
theorem aop0_max [Glb] (R : RelG E nt s h gs a w) {d : Option Tmp} {ty : TypeId} {pos : String} {af : Array Edge} {gd : Option (Nat × Bool)} {x : AV} (args : Array Operand) (ats : Array TypeId) (hx : aop0 P (.call ⟨.builtin .max, args, ats⟩) (ev s) true x) :
    ∃ v w', (execOp a.eval ⟨d, .call ⟨.builtin .max, args, ats⟩, ty, pos, af, gd⟩).run P w = .ok (.value v) w' ∧ Below w.heap.size w w' ∧ RA w' (Zf E.Z gs) h gs v x := by
  obtain ⟨y, z, k, n, m, rfl, e1, e2, hw, rfl⟩ := hx
  obtain ⟨h1, h2⟩ := hw rfl
  have c1 := (ev_ok R y).raw_of h1 e1
  have c2 := (ev_ok R z).raw_of h2 e2
  refine ⟨.int k (if n < m then m else n), w, ?_, Below.refl _ _, .c _ _ (.raw _)⟩
  simp [execOp, resolve, invoke, builtin, c1, c2, Builtin.max_, Builtin.max2]
end

end Go.Am

/- The abstract machine, part 4: the operations that look at objects and leave them as they are (load, len, an element's address, a call by its contract), and their soundness. Generic over the program; no condition. -/
namespace Go.Am
open Go.RowKit

/-- The function can be entered. -/
def Enters (P : Program) (f : FuncId) : Prop := ∃ fn, P.funcs[f]? = some fn ∧ (fn.name == "runtime.NumGoroutine") = false ∧ fn.body.isNone = false

/-- THE CONTRACT: wherever the arguments read as xs, the call returns what reads as r, and leaves all that was there as it was. -/
def APure [Glb] (P : Program) (f : FuncId) (xs : List CV) (r : CV) : Prop := Enters P f ∧
  ∀ (Z : Nat → Prop) (w : World) (vs : List Value), (∀ b, Z b → b < w.heap.size) → (∀ b, Glb.A b → Z b ∧ w.heap[b]? = Glb.M b) → vs.length = xs.length → (∀ i, i < xs.length → RC w Z (vs.getD i undef) (xs.getD i .any)) →
    Calls P f vs.toArray w fun e w' => ∃ v, e = .returned v ∧ RC w' Z v r ∧ Below w.heap.size w w'

def AV.view1 (h : AH) : AV → CV
  | .c x => x
  | .emp => .im 0 0 fun _ => []
  | .own o L => match h o with
    | .row _ sz n f => if L = n then .im sz n f else .any
    | _ => .any
  | .osub o L off k => match h o with
    | .row _ sz n f => if L = n then .im sz k (fun i => f (off + i)) else .any
    | _ => .any
  | _ => .any
def AV.view (h : AH) : AV → CV
  | .agg xs => .agg (xs.map (AV.view1 h))
  | x => x.view1 h
def AV.closedA : AV → Bool
  | .c _ | .emp => true
  | .agg xs => xs.all fun x => x.closed1.isSome
  | _ => false

def AV.live1 (h : AH) : AV → Bool
  | .own o _ | .osub o _ _ _ => match h o with
    | .gone => false
    | _ => true
  | _ => true
def AV.live (h : AH) : AV → Bool
  | .agg xs => xs.all fun x => x.live1 h
  | x => x.live1 h

def Subs : List CV → List CV → Prop
  | [], [] => True
  | x :: xs, y :: ys => CV.Sub x y ∧ Subs xs ys
  | _, _ => False

theorem Subs.refl : ∀ xs : List CV, Subs xs xs
  | [] => trivial
  | x :: xs => ⟨CV.Sub.refl x, Subs.refl xs⟩
theorem Subs.length : ∀ {xs ys : List CV}, Subs xs ys → xs.length = ys.length
  | [], [], _ => rfl
  | _ :: _, _ :: _, h => by simp [Subs.length h.2]
theorem Subs.get : ∀ {xs ys : List CV}, Subs xs ys → ∀ i, i < xs.length → CV.Sub (xs.getD i .any) (ys.getD i .any)
  | [], [], _, i, hi => by simp at hi
  | _ :: _, _ :: _, h, 0, _ => h.1
  | _ :: _, _ :: _, h, i + 1, hi => Subs.get h.2 i (by simpa using hi)

def loadC (i : TI) (xs : List CV) : AV := if i.agg then .c (.agg (xs.take i.size)) else .c (xs.headD .any)
def loadA (i : TI) (xs : List AV) : AV := if i.agg then .agg (xs.take i.size) else xs.headD default

/-- The operations that look at objects and leave them as they are. -/
def aop1 [Glb] (P : Program) (op : Op) (e : Operand → AV) (h : AH) (G : Bool) (x : AV) : Prop :=
  match op with
  | .load t y => ∃ i, tinfo P t = some i ∧ (i.agg = false → i.size = 1) ∧ (G = true → (e y).wh = true) ∧
      match (e y).strip with
      | .pim xs => (G = true → i.size ≤ xs.length) ∧ x = loadC i xs
      | .ptr o off => ∃ ty cells, h o = .box ty cells ∧ (G = true → off + i.size ≤ cells.length) ∧ x = loadA i (cells.drop off)
      | .rp o L k off => ∃ ty sz n f, h o = .row ty sz n f ∧ (G = true → L = n ∧ k < n ∧ off + i.size ≤ sz) ∧ x = loadC i ((f k).drop off)
      | _ => False
  | .call { callee := .builtin .len, args := args, argTypes := ats } => ∃ y t, args = #[y] ∧ ats = #[t] ∧ (G = true → (e y).wh = true) ∧
      match (e y).strip with
      | .c (.im _ n _) => (∃ el, P.underlying t = some (.slice el)) ∧ x = .int n
      | .own o L => (∃ el, P.underlying t = some (.slice el)) ∧ ∃ ty sz n f, h o = .row ty sz n f ∧ (G = true → L = n) ∧ x = .int L
      | .osub o L _ k => (∃ el, P.underlying t = some (.slice el)) ∧ ∃ ty sz n f, h o = .row ty sz n f ∧ (G = true → L = n) ∧ x = .int k
      | .emp => (∃ el, P.underlying t = some (.slice el)) ∧ x = .int 0
      | .c (.raw (.string s)) => P.underlying t = some .string ∧ x = .int s.size
      | _ => False
  | .indexAddr t y z => ∃ i j k n, tinfo P t = some i ∧ i.slice = true ∧ tinfo P i.elem = some j ∧ (e z).strip = .c (.raw (.int k n)) ∧ (G = true → (e y).wh = true ∧ (e z).wh = true) ∧
      match (e y).strip with
      | .c (.im sz m f) => (G = true → sz = j.size ∧ 0 ≤ n ∧ n < m) ∧ x = .pim (f n.toNat)
      | .own o L => ∃ ty sz m f, h o = .row ty sz m f ∧ (G = true → L = m ∧ sz = j.size ∧ 0 ≤ n ∧ n < m) ∧ x = .rp o L n.toNat 0
      | .osub o L off q => ∃ ty sz m f, h o = .row ty sz m f ∧ (G = true → L = m ∧ sz = j.size ∧ 0 ≤ n ∧ n < q) ∧ x = .rp o L (off + n.toNat) 0
      | _ => False
  | .slice t y lo hi none => ∃ l hh : Nat, (∀ z, lo = some z → (G = true → (e z).wh = true) ∧ ∃ k, (e z).strip = .c (.raw (.int k l))) ∧ (lo = none → l = 0) ∧
      (∀ z, hi = some z → (G = true → (e z).wh = true) ∧ ∃ k, (e z).strip = .c (.raw (.int k hh))) ∧ (G = true → (e y).wh = true ∧ l ≤ hh) ∧
      match (e y).strip with
      | .c (.im sz n f) => (∃ i j, tinfo P t = some i ∧ i.slice = true ∧ tinfo P i.elem = some j ∧ (G = true → sz = j.size ∧ hh ≤ n)) ∧ (hi = none → hh = n) ∧ x = .c (.im sz (hh - l) fun q => f (l + q))
      | .own o L => ∃ ty sz n f, h o = .row ty sz n f ∧ (∃ i j, tinfo P t = some i ∧ i.slice = true ∧ tinfo P i.elem = some j ∧ (G = true → sz = j.size ∧ hh ≤ n)) ∧ (G = true → L = n) ∧ (hi = none → hh = n) ∧ x = .osub o L l (hh - l)
      | .c (.raw (.string b)) => P.underlying t = some .string ∧ (G = true → hh ≤ b.size) ∧ (hi = none → hh = b.size) ∧ x = .str (b.extract l hh)
      | _ => False
  | .call { callee := .value (.func f), args := args, .. } => ∃ cs r, (∀ y ∈ args.toList, (e y).strip.live h = true) ∧ Subs (args.toList.map fun y => (e y).strip.view h) cs ∧ (G = true → ∀ y ∈ args.toList, (e y).wh = true) ∧ (G = true → APure P f cs r) ∧
      (r.flat = true ∨ ∀ y ∈ args.toList, (e y).strip.closedA = true) ∧ x = .c r
  | .call { callee := .value (.tmp t), args := args, .. } => ∃ f, (G = true → (e (.tmp t)).wh = true) ∧ (e (.tmp t)).strip = .c (.raw (.func (.func f) #[] #[])) ∧ ∃ cs r, (∀ y ∈ args.toList, (e y).strip.live h = true) ∧ Subs (args.toList.map fun y => (e y).strip.view h) cs ∧ (G = true → ∀ y ∈ args.toList, (e y).wh = true) ∧ (G = true → APure P f cs r) ∧
      (r.flat = true ∨ ∀ y ∈ args.toList, (e y).strip.closedA = true) ∧ x = .c r
  | _ => False

section
variable {E : Env} {w : World} {nt : Nat} {s : Nat → AV} {h : AH} {gs : Gs} {a : Act} {P : Program}

theorem run_loadCellsFrom (ad : Addr) (g : Nat → Value) : ∀ (n i : Nat) (acc : Array Value), (∀ j, j < n → w.cell? (ad.add (i + j)) = some (g (i + j))) →
    (loadCellsFrom ad i n acc).run P w = .ok (acc ++ ((List.range n).map fun j => g (i + j)).toArray) w
  | 0, i, acc, _ => by simp [loadCellsFrom]
  | n + 1, i, acc, hc => by
    have h0 := hc 0 (by omega)
    simp only [Nat.add_zero] at h0
    simp only [loadCellsFrom, Sem.run_bind, run_load, h0, Result.andThen_ok]
    rw [run_loadCellsFrom ad g n (i + 1) (acc.push (g i)) (fun j hj => by have := hc (j + 1) (by omega); rw [show i + 1 + j = i + (j + 1) by omega]; exact this)]
    congr 1
    apply Array.ext'
    simp only [Array.toList_append, Array.toList_push, List.range_succ_eq_map, List.map_cons, List.map_map]
    simp only [List.append_assoc, List.cons_append, List.nil_append, Nat.add_zero]
    congr 2
    apply List.map_congr_left
    intro j _
    simp [show i + 1 + j = i + (j + 1) by omega]

theorem run_loadCells (ad : Addr) (g : Nat → Value) (n : Nat) (hc : ∀ j, j < n → w.cell? (ad.add j) = some (g j)) :
    (loadCells ad n).run P w = .ok ((List.range n).map g).toArray w := by
  have := run_loadCellsFrom (P := P) ad g n 0 #[] (fun j hj => by rw [Nat.zero_add]; exact hc j hj)
  simp only [Nat.zero_add] at this
  unfold loadCells
  rw [this]
  simp

/-- A variable is read out of cells that are known. -/
theorem run_loadVar {t : TypeId} {i : TI} (hi : tinfo P t = some i) (h1 : i.agg = false → i.size = 1) (ad : Addr) (g : Nat → Value) (hc : ∀ j, j < i.size → w.cell? (ad.add j) = some (g j)) :
    (loadVar t ad).run P w = .ok (if i.agg then .agg ((List.range i.size).map g).toArray else g 0) w := by
  obtain ⟨j, d, t1, t2, t3, -, t5, -⟩ := tinfo_some hi
  have hs : (sizeOf t).run P w = .ok i.size w := by simp [sizeOf, typeInfo, t1, t3]
  have hag : (isAgg t).run P w = .ok i.agg w := by
    rw [t5]
    simp only [isAgg, Sem.run_bind, run_underlying t2, Result.andThen_ok]
    cases d <;> rfl
  unfold loadVar
  simp only [Sem.run_bind, hag, Result.andThen_ok]
  cases hb : i.agg with
  | true =>
    simp only [if_true, Sem.run_bind, hs, Result.andThen_ok, run_loadCells ad g i.size hc, Sem.run_pure]
  | false =>
    have h0 := hc 0 (by rw [h1 hb]; omega)
    rw [show ad.add 0 = ad by unfold Addr.add; simp] at h0
    simp [h0]

theorem getD_range_map {n i : Nat} {g : Nat → Value} (hi : i < n) : ((List.range n).map g).toArray.getD i undef = g i := by
  simp [Array.getD, hi]

theorem loadC_ok {Z : Nat → Prop} {i : TI} {xs : List CV} {g : Nat → Value} (h1 : i.agg = false → i.size = 1) (hl : i.size ≤ xs.length) (ho : ∀ j, j < i.size → (g j).oneCell' = true) (hh : ∀ j, j < i.size → RC w Z (g j) (xs.getD j .any)) :
    RA w Z h gs (if i.agg then .agg ((List.range i.size).map g).toArray else g 0) (loadC i xs) := by
  unfold loadC
  cases hb : i.agg with
  | true =>
    simp only [if_true]
    have hlt : (xs.take i.size).length = i.size := by simp; omega
    refine .c _ _ (.agg _ _ (by rw [hlt]; simp) (fun j hj => ?_) fun j hj => ?_)
    · rw [hlt] at hj
      rw [getD_range_map hj]
      exact ho j hj
    · have hj' := hj
      rw [hlt] at hj'
      rw [getD_range_map hj', getD_lt hj, List.getElem_take]
      have := hh j hj'
      rw [getD_lt (by omega)] at this
      exact this
  | false =>
    simp only [Bool.false_eq_true, if_false]
    have hs := h1 hb
    refine .c _ _ ?_
    have := hh 0 (by omega)
    cases xs with
    | nil => simp at hl; omega
    | cons x xs => exact this

theorem loadA_ok {Z : Nat → Prop} {i : TI} {xs : List AV} {g : Nat → Value} (h1 : i.agg = false → i.size = 1) (hl : i.size ≤ xs.length) (ho : ∀ j, j < i.size → (g j).oneCell' = true) (hh : ∀ j, j < i.size → RA w Z h gs (g j) (xs.getD j default)) :
    RA w Z h gs (if i.agg then .agg ((List.range i.size).map g).toArray else g 0) (loadA i xs) := by
  unfold loadA
  cases hb : i.agg with
  | true =>
    simp only [if_true]
    have hlt : (xs.take i.size).length = i.size := by simp; omega
    refine .agg _ _ (by rw [hlt]; simp) (fun j hj => ?_) fun j hj => ?_
    · rw [hlt] at hj
      rw [getD_range_map hj]
      exact ho j hj
    · have hj' := hj
      rw [hlt] at hj'
      rw [getD_range_map hj', getD_lt hj, List.getElem_take]
      have := hh j hj'
      rw [getD_lt (by omega)] at this
      exact this
  | false =>
    simp only [Bool.false_eq_true, if_false]
    have hs := h1 hb
    have := hh 0 (by omega)
    cases xs with
    | nil => simp at hl; omega
    | cons x xs => exact this

theorem getD_drop {α : Type} {l : List α} {k i : Nat} {d : α} : (l.drop k).getD i d = l.getD (k + i) d := by
  simp [List.getD_eq_getElem?_getD, List.getElem?_drop]

theorem cell_of_heap {b j : Nat} {cur : Array Value} {ty : TypeId} (hb : w.heap[b]? = some (.cells cur ty (0, 0))) (hj : j < cur.size) : w.cell? ⟨b, j, none⟩ = some (cur.getD j undef) := by
  rw [cell_of_row w b j cur ty (0, 0) hb]
  simp [Array.getD, hj]

/-- A load: the address is there, and what lies there is known. -/
theorem load_run [Glb] (R : RelG E nt s h gs a w) {x : AV} (t : TypeId) (y : Operand) (hx : aop1 P (.load t y) (ev s) h true x) :
    ∃ ad v, a.eval y = .pointer (some ad) ∧ (loadVar t ad).run P w = .ok v w ∧ RA w (Zf E.Z gs) h gs v x := by
  obtain ⟨i, e1, h1, hw, hm⟩ := hx
  have c1 := (ev_ok R y).strip (hw rfl)
  generalize hvy : a.eval y = vy at c1
  generalize (ev s y).strip = xy at c1 hm
  cases c1 with
  | pim ad xs g hb hlt hc ho hh =>
    obtain ⟨hl, rfl⟩ := hm
    have hl := hl rfl
    exact ⟨ad, _, rfl, run_loadVar (w := w) e1 h1 ad g (fun j hj => hc j (by omega)), loadC_ok (g := g) h1 hl (fun j hj => ho j (by omega)) fun j hj => hh j (by omega)⟩
  | ptr o off b K ty' cells ho hg =>
    obtain ⟨ty2, cells2, e2, hl, rfl⟩ := hm
    have hl := hl rfl
    have hob := R.objs o
    rw [e2] at hob
    obtain ⟨b', K', cur, g1, g2, g3, g4, g5⟩ := hob
    rw [hg] at g1
    simp only [Option.some.injEq, Prod.mk.injEq] at g1
    obtain ⟨rfl, rfl⟩ := g1
    refine ⟨_, _, rfl, run_loadVar (w := w) e1 h1 ⟨b, off, none⟩ (fun j => cur.getD (off + j) undef) (fun j hj => by rw [addr_lit]; exact cell_of_heap g2 (by omega)), loadA_ok (g := fun j => cur.getD (off + j) undef) h1 (by rw [List.length_drop]; omega) (fun j hj => g4 _ (by omega)) fun j hj => ?_⟩
    rw [getD_drop]
    exact g5 _ (by omega)
  | rp ad o L k off ty' sz n f ho hL hv =>
    obtain ⟨ty2, sz2, n2, f2, e2, hl, rfl⟩ := hm
    obtain ⟨hl1, hl2, hl3⟩ := hl rfl
    rw [ho] at e2
    injection e2 with e3 e4 e5 e6
    subst e4; subst e5; subst e6
    obtain ⟨b, K, g1, rfl⟩ := hv hl1
    have hob := R.objs o
    rw [ho] at hob
    rcases hob with ⟨q1, q2⟩ | ⟨b', K', cur, q1, q2, q3, q4, q5, q6, q7, q8⟩
    · omega
    rw [g1] at q1
    simp only [Option.some.injEq, Prod.mk.injEq] at q1
    obtain ⟨rfl, rfl⟩ := q1
    have hk : k * sz + sz ≤ n * sz := by rw [← Nat.succ_mul]; exact Nat.mul_le_mul_right _ hl2
    have hn : n * sz ≤ K * sz := Nat.mul_le_mul_right _ q4
    refine ⟨_, _, rfl, run_loadVar (w := w) e1 h1 ⟨b, k * sz + off, none⟩ (fun j => cur.getD (k * sz + off + j) undef) (fun j hj => by rw [addr_lit]; exact cell_of_heap q2 (by omega)), loadC_ok (g := fun j => cur.getD (k * sz + off + j) undef) h1 (by rw [List.length_drop, q6 k hl2]; omega) (fun j hj => q7 _ (by omega)) fun j hj => ?_⟩
    rw [getD_drop]
    have := q8 k (off + j) hl2 (by omega)
    rw [← Nat.add_assoc] at this
    exact this
  | _ => exact hm.elim

theorem aop1_load [Glb] (R : RelG E nt s h gs a w) {d : Option Tmp} {ty : TypeId} {pos : String} {af : Array Edge} {gd : Option (Nat × Bool)} {x : AV} (t : TypeId) (y : Operand) (hx : aop1 P (.load t y) (ev s) h true x) :
    ∃ v w', (execOp a.eval ⟨d, .load t y, ty, pos, af, gd⟩).run P w = .ok (.value v) w' ∧ Below w.heap.size w w' ∧ RA w' (Zf E.Z gs) h gs v x := by
  obtain ⟨ad, v, h1, h2, h3⟩ := load_run R t y hx
  refine ⟨v, w, ?_, Below.refl _ _, h3⟩
  simp only [execOp, h1, Instr.loadAt, Instr.sureAddr, Sem.run_bind, Sem.run_pure, Result.andThen_ok, h2]

theorem run_len_slice {t el : TypeId} (ht : P.underlying t = some (.slice el)) (ty : TypeId) (A : Option Addr) (n c : Nat) : (Builtin.len_ #[t] ty #[.slice A n c]).run P w = .ok (.int .i64 n) w := by
  simp [Builtin.len_, run_underlying ht, goInt]

theorem RC.im_inv {Z : Nat → Prop} {v : Value} {sz n : Nat} {f : Nat → List CV} (hx : RC w Z v (.im sz n f)) : ∃ (A : Option Addr) (c : Nat), v = .slice A n c ∧ (0 < n → ∃ (ad : Addr) (g : Nat → Value), A = some ad ∧ ¬ Z ad.block ∧ ad.block < w.heap.size ∧ n ≤ c ∧
    (∀ j, j < n * sz → w.cell? (ad.add j) = some (g j)) ∧ (∀ j, j < n * sz → (g j).oneCell' = true) ∧ (∀ i, i < n → (f i).length = sz) ∧ ∀ i j, i < n → j < sz → RC w Z (g (i * sz + j)) ((f i).getD j .any)) := by
  cases hx with
  | nul A c => exact ⟨A, c, rfl, fun h => absurd h (by omega)⟩
  | im ad _ c _ _ g hb hlt hnc hc ho hf hh => exact ⟨some ad, c, rfl, fun _ => ⟨ad, g, rfl, hb, hlt, hnc, hc, ho, hf, hh⟩⟩

theorem aop1_len [Glb] (R : RelG E nt s h gs a w) {d : Option Tmp} {ty : TypeId} {pos : String} {af : Array Edge} {gd : Option (Nat × Bool)} {x : AV} (args : Array Operand) (ats : Array TypeId) (hx : aop1 P (.call ⟨.builtin .len, args, ats⟩) (ev s) h true x) :
    ∃ v w', (execOp a.eval ⟨d, .call ⟨.builtin .len, args, ats⟩, ty, pos, af, gd⟩).run P w = .ok (.value v) w' ∧ Below w.heap.size w w' ∧ RA w' (Zf E.Z gs) h gs v x := by
  obtain ⟨y, t, rfl, rfl, hw, hm⟩ := hx
  have c1 := (ev_ok R y).strip (hw rfl)
  generalize hvy : a.eval y = vy at c1
  generalize (ev s y).strip = xy at c1 hm
  have sl : ∀ (el : TypeId) (A : Option Addr) (n c : Nat), P.underlying t = some (.slice el) → vy = .slice A n c → (execOp a.eval ⟨d, .call ⟨.builtin .len, #[y], #[t]⟩, ty, pos, af, gd⟩).run P w = .ok (.value (.int .i64 n)) w := by
    intro el A n c ht hv
    subst hv
    have := run_len_slice (P := P) (w := w) ht ty A n c
    simp [execOp, resolve, invoke, builtin, hvy, this]
  cases c1 with
  | c _ z hz =>
    cases z with
    | im sz n f =>
      obtain ⟨⟨el, ht⟩, rfl⟩ := hm
      obtain ⟨A, c, rfl, _⟩ := hz.im_inv
      exact ⟨_, w, sl el A n c ht rfl, Below.refl _ _, .c _ _ (.raw _)⟩
    | raw u =>
      have := hz.raw_inv
      subst this
      cases vy with
      | string b =>
        obtain ⟨ht, rfl⟩ := hm
        refine ⟨.int .i64 b.size, w, ?_, Below.refl _ _, .c _ _ (.raw _)⟩
        simp [execOp, resolve, invoke, builtin, hvy, Builtin.len_, run_underlying ht, goInt]
      | _ => exact hm.elim
    | _ => exact hm.elim
  | own A k c o L ty' sz n f ho hL hv =>
    obtain ⟨⟨el, ht⟩, ty2, sz2, n2, f2, e2, hl, rfl⟩ := hm
    rw [ho] at e2
    injection e2 with e3 e4 e5 e6
    subst e5
    have hl := hl rfl
    have hk : k = L := by
      rcases hv hl with ⟨b, K, _, _, e, _⟩ | ⟨e0, e, _⟩
      · omega
      · have hob := R.objs o
        rw [ho] at hob
        rcases hob with ⟨q1, q2⟩ | ⟨b', K', cur, q1, _⟩
        · omega
        · rw [e0] at q1; cases q1
    rw [← hk]
    exact ⟨_, w, sl el A k c ht rfl, Below.refl _ _, .c _ _ (.raw _)⟩
  | osub A k' c o L off k ty' sz n f ho hL hv =>
    obtain ⟨⟨el, ht⟩, ty2, sz2, n2, f2, e2, hl, rfl⟩ := hm
    rw [ho] at e2
    injection e2 with e3 e4 e5 e6
    subst e5
    obtain ⟨_, rfl, _⟩ := hv (hl rfl)
    exact ⟨_, w, sl el A k' c ht rfl, Below.refl _ _, .c _ _ (.raw _)⟩
  | emp A =>
    obtain ⟨⟨el, ht⟩, rfl⟩ := hm
    exact ⟨_, w, sl el A 0 0 ht rfl, Below.refl _ _, .c _ _ (.raw _)⟩
  | _ => exact hm.elim

theorem run_indexAt {t el : TypeId} {j : TypeInfo} (ht : P.underlying t = some (.slice el)) (hj : P.info? el = some j) (ad : Addr) (m c : Nat) (k : IntKind) (n : Int) (h0 : 0 ≤ n) (h1 : n < m) :
    (Instr.indexAt t (.slice (some ad) m c) (.int k n)).run P w = .ok (.pointer (some (ad.add (n.toNat * j.size)))) w := by
  simp [Instr.indexAt, asIntOf, run_underlying ht, sizeOf, typeInfo, hj, h0, h1]

theorem aop1_indexAddr [Glb] (R : RelG E nt s h gs a w) {d : Option Tmp} {ty : TypeId} {pos : String} {af : Array Edge} {gd : Option (Nat × Bool)} {x : AV} (t : TypeId) (y z : Operand) (hx : aop1 P (.indexAddr t y z) (ev s) h true x) :
    ∃ v w', (execOp a.eval ⟨d, .indexAddr t y z, ty, pos, af, gd⟩).run P w = .ok (.value v) w' ∧ Below w.heap.size w w' ∧ RA w' (Zf E.Z gs) h gs v x := by
  obtain ⟨i, j, k, n, e1, e2, e3, ez, hw, hm⟩ := hx
  obtain ⟨hw1, hw2⟩ := hw rfl
  have c1 := (ev_ok R y).strip hw1
  have c2 := (ev_ok R z).raw_of hw2 ez
  generalize hvy : a.eval y = vy at c1
  generalize (ev s y).strip = xy at c1 hm
  obtain ⟨i', dd, t1, t2, -, -, -, t6, t7, -, -⟩ := tinfo_some e1
  obtain ⟨j', dj, u1, u2, u3, -, -, -, -, -, -⟩ := tinfo_some e3
  cases dd with
  | slice el =>
    simp only at t6
    rw [t6] at u1
    have sl : ∀ (ad : Addr) (m c : Nat), vy = .slice (some ad) m c → 0 ≤ n → n < m → (execOp a.eval ⟨d, .indexAddr t y z, ty, pos, af, gd⟩).run P w = .ok (.value (.pointer (some (ad.add (n.toNat * j.size))))) w := by
      intro ad m c hv h0 h1
      subst hv
      have := run_indexAt (P := P) (w := w) t2 u1 ad m c k n h0 h1
      simp only [execOp, hvy, c2, Sem.run_bind, this, Result.andThen_ok, Sem.run_pure, u3]
    cases c1 with
    | c _ q hq =>
      cases q with
      | im sz m f =>
        obtain ⟨hl, rfl⟩ := hm
        obtain ⟨rfl, h0, h1⟩ := hl rfl
        obtain ⟨A, c, rfl, hpos⟩ := hq.im_inv
        obtain ⟨ad, g, rfl, hb, hlt, hnc, hc, ho, hf, hh⟩ := hpos (by omega)
        have hk : n.toNat * j.size + j.size ≤ m * j.size := by rw [← Nat.succ_mul]; exact Nat.mul_le_mul_right _ (by omega)
        have hfl := hf n.toNat (by omega)
        refine ⟨_, w, sl ad m c rfl h0 h1, Below.refl _ _, .pim _ _ (fun q => g (n.toNat * j.size + q)) (by rw [block_add]; exact hb) (by rw [block_add]; exact hlt) (fun q hq => ?_) (fun q hq => ho _ (by omega)) fun q hq => hh _ _ (by omega) (by omega)⟩
        rw [add_add]
        exact hc _ (by omega)
      | _ => exact hm.elim
    | own A q c o L ty' sz m f ho hL hv =>
      obtain ⟨ty2, sz2, n2, f2, e4, hl, rfl⟩ := hm
      rw [ho] at e4
      injection e4 with e5 e6 e7 e8
      subst e6; subst e7
      obtain ⟨hl1, rfl, h0, h1⟩ := hl rfl
      rcases hv hl1 with ⟨b, K, g1, rfl, rfl, rfl⟩ | ⟨g1, rfl, rfl⟩
      · refine ⟨_, w, sl _ _ _ rfl h0 h1, Below.refl _ _, .rp _ o L _ 0 ty' _ _ f ho hL fun _ => ⟨b, _, g1, ?_⟩⟩
        rw [addr_lit]
        simp
      · have hob := R.objs o
        rw [ho] at hob
        rcases hob with ⟨q1, q2⟩ | ⟨b', K', cur, q1, _⟩
        · omega
        · rw [g1] at q1; cases q1
    | osub A q' c o L off q ty' sz m f ho hL hv =>
      obtain ⟨ty2, sz2, n2, f2, e4, hl, rfl⟩ := hm
      rw [ho] at e4
      injection e4 with e5 e6 e7 e8
      subst e6; subst e7
      obtain ⟨hl1, rfl, h0, h1⟩ := hl rfl
      obtain ⟨v1, rfl, v3, v4⟩ := hv hl1
      obtain ⟨b, K, g1, rfl⟩ := v4 (by omega)
      refine ⟨_, w, sl _ _ _ rfl h0 h1, Below.refl _ _, .rp _ o L _ 0 ty' _ _ f ho hL fun _ => ⟨b, K, g1, ?_⟩⟩
      rw [addr_lit, Nat.add_mul]
      simp
    | _ => exact hm.elim
  | _ => simp_all

theorem RC.less {Z Z' : Nat → Prop} {v : Value} {x : CV} (hx : RC w Z v x) (hz : ∀ b, Z' b → Z b) : RC w Z' v x :=
  hx.later ⟨Nat.le_refl _, fun _ _ _ => rfl, fun b hb _ => hz b hb⟩

/-- What the callee sees. -/
theorem view1_ok [Glb] (R : RelG E nt s h gs a w) {v : Value} {x : AV} (hx : RA w (Zf E.Z gs) h gs v x) : RC w E.Z v (x.view1 h) := by
  have less : ∀ {v : Value} {x : CV}, RC w (Zf E.Z gs) v x → RC w E.Z v x := fun hx => hx.less fun b hb => .inl hb
  have nz : ∀ o b K, gs o = some (b, K) → ¬ E.Z b := fun o b K e hz => by
    have h1 := R.zlt b hz
    rcases (R.fresh o b K e).1 with h2 | h2
    · omega
    · exact (R.zd b h2).1 hz
  cases hx with
  | c _ y hy => exact less hy
  | emp A => exact .nul _ _ _ _
  | own A k c o L ty sz n f ho hL hv =>
    simp only [AV.view1, ho]
    split
    · rename_i hl
      have hob := R.objs o
      rw [ho] at hob
      rcases hv hl with ⟨b, K, g1, rfl, rfl, rfl⟩ | ⟨g1, rfl, rfl⟩
      · rcases hob with ⟨q1, q2⟩ | ⟨b', K', cur, q1, q2, q3, q4, q5, q6, q7, q8⟩
        · rw [g1] at q1; cases q1
        · rw [g1] at q1
          simp only [Option.some.injEq, Prod.mk.injEq] at q1
          obtain ⟨rfl, rfl⟩ := q1
          have hn : k * sz ≤ c * sz := Nat.mul_le_mul_right _ q4
          refine .im _ k c sz f (fun j => cur.getD j undef) (nz _ _ _ g1) (R.fresh _ _ _ g1).2 q4 (fun j hj => ?_) q7 q6 fun i j hi hj => less (q8 i j hi hj)
          rw [addr_lit, Nat.zero_add]
          exact cell_of_heap q2 (by omega)
      · rcases hob with ⟨q1, rfl⟩ | ⟨b', K', cur, q1, _⟩
        · exact .nul _ _ _ _
        · rw [g1] at q1; cases q1
    · exact .any _
  | osub A k' c o L off k ty sz n f ho hL hv =>
    simp only [AV.view1, ho]
    split
    · rename_i hl
      have hob := R.objs o
      rw [ho] at hob
      obtain ⟨v1, rfl, v3, v4⟩ := hv hl
      rcases Nat.eq_zero_or_pos k' with h0 | h0
      · subst h0
        exact .nul _ _ _ _
      · obtain ⟨b, K, g1, rfl⟩ := v4 h0
        rcases hob with ⟨q1, q2⟩ | ⟨b', K', cur, q1, q2, q3, q4, q5, q6, q7, q8⟩
        · rw [g1] at q1; cases q1
        · rw [g1] at q1
          simp only [Option.some.injEq, Prod.mk.injEq] at q1
          obtain ⟨rfl, rfl⟩ := q1
          have hn : n * sz ≤ K * sz := Nat.mul_le_mul_right _ q4
          have ho2 : off * sz + k' * sz ≤ n * sz := by rw [← Nat.add_mul]; exact Nat.mul_le_mul_right _ v1
          refine .im _ k' c sz _ (fun j => cur.getD (off * sz + j) undef) (nz _ _ _ g1) (R.fresh _ _ _ g1).2 v3 (fun j hj => ?_) (fun j hj => q7 _ (by omega)) (fun i hi => q6 _ (by omega)) fun i j hi hj => ?_
          · rw [addr_lit]
            exact cell_of_heap q2 (by omega)
          · have := q8 (off + i) j (by omega) hj
            rw [Nat.add_mul, Nat.add_assoc] at this
            exact less this
    · exact .any _
  | _ => exact .any _

theorem view_ok [Glb] (R : RelG E nt s h gs a w) {v : Value} {x : AV} (hx : RA w (Zf E.Z gs) h gs v x) : RC w E.Z v (x.view h) := by
  cases hx with
  | agg cs xs hl ho hh =>
    refine .agg cs _ (by simpa using hl) (fun i hi => ho i (by simpa using hi)) fun i hi => ?_
    have hi' : i < xs.length := by simpa using hi
    rw [getD_lt hi, List.getElem_map]
    have := view1_ok R (hh i hi')
    rw [getD_lt hi'] at this
    exact this
  | c _ y hy => exact view1_ok R (.c _ y hy)
  | emp A => exact view1_ok R (.emp A)
  | own A k c o L ty sz n f ho hL hv => exact view1_ok R (.own A k c o L ty sz n f ho hL hv)
  | osub A k' c o L off k ty sz n f ho hL hv => exact view1_ok R (.osub A k' c o L off k ty sz n f ho hL hv)
  | _ => exact .any _

theorem closed_view {Z : Nat → Prop} {v : Value} {x : AV} (hx : RA w Z h gs v x) (hc : x.closedA = true) : RC w Z v (x.view h) := by
  cases hx with
  | agg cs xs hl ho hh =>
    simp only [AV.closedA, List.all_eq_true] at hc
    refine .agg cs _ (by simpa using hl) (fun i hi => ho i (by simpa using hi)) fun i hi => ?_
    have hi' : i < xs.length := by simpa using hi
    rw [getD_lt hi, List.getElem_map]
    have h1 := hh i hi'
    rw [getD_lt hi'] at h1
    have h2 := hc _ (List.getElem_mem hi')
    cases hx : xs[i] with
    | c y => rw [hx] at h1; exact h1.c_inv
    | emp =>
      rw [hx] at h1
      generalize cs.getD i undef = u at h1
      cases h1
      exact .nul _ _ _ _
    | _ => rw [hx] at h2; simp [AV.closed1] at h2
  | c _ y hy => exact hy
  | emp A => exact .nul _ _ _ _
  | _ => simp [AV.closedA] at hc

/-- A call by its contract. -/
theorem aop1_call [Glb] (R : RelG E nt s h gs a w) {d : Option Tmp} {ty : TypeId} {pos : String} {af : Array Edge} {gd : Option (Nat × Bool)} {x : AV} (f : FuncId) (args : Array Operand) (ats : Array TypeId)
    (hx : aop1 P (.call ⟨.value (.func f), args, ats⟩) (ev s) h true x) {K : Act → World → Prop} {Q : Exit → Act → World → Prop}
    (hK : ∀ v w', Below w.heap.size w w' → RA w' (Zf E.Z gs) h gs v x → K (a.put d v) w') : Oper.wp P ⟨d, .call ⟨.value (.func f), args, ats⟩, ty, pos, af, gd⟩ a w K Q := by
  obtain ⟨cs, r, -, hsub, hw, hp, hfl, rfl⟩ := hx
  have hw := hw rfl
  obtain ⟨⟨fn, f1, f2, f3⟩, hcall⟩ := hp rfl
  have hrun : (execOp a.eval ⟨d, .call ⟨.value (.func f), args, ats⟩, ty, pos, af, gd⟩).run P w = .ok (.enter f (args.map a.eval)) w := by
    have f2' : ¬ fn.name = "runtime.NumGoroutine" := by simpa using f2
    have f3' : ¬ fn.body = none := fun e => by rw [e] at f3; simp at f3
    simp [execOp, resolve, Deferred.ofValue, Act.eval, invoke, callFunc, f1, f2', f3']
  have hlen := hsub.length
  simp only [List.length_map] at hlen
  have hvs : (args.toList.map a.eval).toArray = args.map a.eval := Array.ext' (by simp)
  have hargs : ∀ (i : Nat) (hi : i < args.toList.length), (args.toList.map a.eval).getD i undef = a.eval args.toList[i] := fun i hi => by
    rw [getD_lt (by simpa using hi), List.getElem_map]
  have hxs : ∀ (i : Nat) (hi : i < args.toList.length), (args.toList.map fun y => (ev s y).strip.view h).getD i .any = (ev s args.toList[i]).strip.view h := fun i hi => by
    rw [getD_lt (by simpa using hi), List.getElem_map]
  unfold Oper.wp
  rw [hrun]
  simp only [Oper.upon]
  rcases hfl with hfl | hcl
  · have := hcall E.Z w (args.toList.map a.eval) (fun b hb => Nat.lt_of_lt_of_le (R.zlt b hb) R.below.size) R.glb (by simpa using hlen) (fun i hi => by
      have hi' : i < args.toList.length := by omega
      have h1 := hsub.get i (by simpa using hi')
      rw [hxs i hi'] at h1
      rw [hargs i hi']
      exact h1 _ _ _ (view_ok R ((ev_ok R _).strip (hw _ (List.getElem_mem hi')))))
    rw [hvs] at this
    refine this.mono fun e w' ⟨v, he, hr, hb⟩ => ?_
    subst he
    exact hK v w' hb (.c _ _ (hr.flat hfl))
  · have := hcall (Zf E.Z gs) w (args.toList.map a.eval) (fun b hb => by
      rcases hb with hb | ⟨o, K', hb⟩
      · exact Nat.lt_of_lt_of_le (R.zlt b hb) R.below.size
      · exact (R.fresh o b K' hb).2) (fun b hb => ⟨.inl (R.glb b hb).1, (R.glb b hb).2⟩) (by simpa using hlen) (fun i hi => by
      have hi' : i < args.toList.length := by omega
      have h1 := hsub.get i (by simpa using hi')
      rw [hxs i hi'] at h1
      rw [hargs i hi']
      exact h1 _ _ _ (closed_view ((ev_ok R _).strip (hw _ (List.getElem_mem hi'))) (hcl _ (List.getElem_mem hi'))))
    rw [hvs] at this
    refine this.mono fun e w' ⟨v, he, hr, hb⟩ => ?_
    subst he
    exact hK v w' hb (.c _ _ hr)

/-- A call of a function value that captures nothing, by its contract. -/
theorem aop1_callV [Glb] (R : RelG E nt s h gs a w) {d : Option Tmp} {ty : TypeId} {pos : String} {af : Array Edge} {gd : Option (Nat × Bool)} {x : AV} (t : Tmp) (args : Array Operand) (ats : Array TypeId)
    (hx : aop1 P (.call ⟨.value (.tmp t), args, ats⟩) (ev s) h true x) {K : Act → World → Prop} {Q : Exit → Act → World → Prop}
    (hK : ∀ v w', Below w.heap.size w w' → RA w' (Zf E.Z gs) h gs v x → K (a.put d v) w') : Oper.wp P ⟨d, .call ⟨.value (.tmp t), args, ats⟩, ty, pos, af, gd⟩ a w K Q := by
  obtain ⟨f, hwt, het, cs, r, -, hsub, hw, hp, hfl, rfl⟩ := hx
  have het : a.eval (.tmp t) = .func (.func f) #[] #[] := (ev_ok R (.tmp t)).raw_of (hwt rfl) het
  have hw := hw rfl
  obtain ⟨⟨fn, f1, f2, f3⟩, hcall⟩ := hp rfl
  have hrun : (execOp a.eval ⟨d, .call ⟨.value (.tmp t), args, ats⟩, ty, pos, af, gd⟩).run P w = .ok (.enter f (args.map a.eval)) w := by
    have f2' : ¬ fn.name = "runtime.NumGoroutine" := by simpa using f2
    have f3' : ¬ fn.body = none := fun e => by rw [e] at f3; simp at f3
    simp [execOp, resolve, Deferred.ofValue, het, invoke, callFunc, f1, f2', f3']
  have hlen := hsub.length
  simp only [List.length_map] at hlen
  have hvs : (args.toList.map a.eval).toArray = args.map a.eval := Array.ext' (by simp)
  have hargs : ∀ (i : Nat) (hi : i < args.toList.length), (args.toList.map a.eval).getD i undef = a.eval args.toList[i] := fun i hi => by
    rw [getD_lt (by simpa using hi), List.getElem_map]
  have hxs : ∀ (i : Nat) (hi : i < args.toList.length), (args.toList.map fun y => (ev s y).strip.view h).getD i .any = (ev s args.toList[i]).strip.view h := fun i hi => by
    rw [getD_lt (by simpa using hi), List.getElem_map]
  unfold Oper.wp
  rw [hrun]
  simp only [Oper.upon]
  rcases hfl with hfl | hcl
  · have := hcall E.Z w (args.toList.map a.eval) (fun b hb => Nat.lt_of_lt_of_le (R.zlt b hb) R.below.size) R.glb (by simpa using hlen) (fun i hi => by
      have hi' : i < args.toList.length := by omega
      have h1 := hsub.get i (by simpa using hi')
      rw [hxs i hi'] at h1
      rw [hargs i hi']
      exact h1 _ _ _ (view_ok R ((ev_ok R _).strip (hw _ (List.getElem_mem hi')))))
    rw [hvs] at this
    refine this.mono fun e w' ⟨v, he, hr, hb⟩ => ?_
    subst he
    exact hK v w' hb (.c _ _ (hr.flat hfl))
  · have := hcall (Zf E.Z gs) w (args.toList.map a.eval) (fun b hb => by
      rcases hb with hb | ⟨o, K', hb⟩
      · exact Nat.lt_of_lt_of_le (R.zlt b hb) R.below.size
      · exact (R.fresh o b K' hb).2) (fun b hb => ⟨.inl (R.glb b hb).1, (R.glb b hb).2⟩) (by simpa using hlen) (fun i hi => by
      have hi' : i < args.toList.length := by omega
      have h1 := hsub.get i (by simpa using hi')
      rw [hxs i hi'] at h1
      rw [hargs i hi']
      exact h1 _ _ _ (closed_view ((ev_ok R _).strip (hw _ (List.getElem_mem hi'))) (hcl _ (List.getElem_mem hi'))))
    rw [hvs] at this
    refine this.mono fun e w' ⟨v, he, hr, hb⟩ => ?_
    subst he
    exact hK v w' hb (.c _ _ hr)

theorem bounds_run {lo hi : Option Operand} {l hh n c : Nat} (hlo : ∀ z, lo = some z → ∃ k, a.eval z = .int k l) (hlo0 : lo = none → l = 0) (hhi : ∀ z, hi = some z → ∃ k, a.eval z = .int k hh) (hhi0 : hi = none → hh = n)
    (h1 : l ≤ hh) (h2 : hh ≤ c) (isSlice : Bool) : (Instr.sliceBounds isSlice n c (lo.map a.eval) (hi.map a.eval) none).run P w = .ok (l, hh, c) w := by
  cases lo with
  | none =>
    have := hlo0 rfl
    subst this
    cases hi with
    | none =>
      have := hhi0 rfl
      subst this
      simp [Instr.sliceBounds]
    | some z =>
      obtain ⟨k, e⟩ := hhi z rfl
      simp [Instr.sliceBounds, e, Instr.sliceBound, asIntOf, h2]
  | some y =>
    obtain ⟨k, e⟩ := hlo y rfl
    cases hi with
    | none =>
      have := hhi0 rfl
      subst this
      simp [Instr.sliceBounds, e, Instr.sliceBound, asIntOf, h1]
    | some z =>
      obtain ⟨k', e'⟩ := hhi z rfl
      simp [Instr.sliceBounds, e, e', Instr.sliceBound, asIntOf, h1, h2]

theorem aop1_slice [Glb] (R : RelG E nt s h gs a w) {d : Option Tmp} {ty : TypeId} {pos : String} {af : Array Edge} {gd : Option (Nat × Bool)} {x : AV} (t : TypeId) (y : Operand) (lo hi mx : Option Operand) (hx : aop1 P (.slice t y lo hi mx) (ev s) h true x) :
    ∃ v w', (execOp a.eval ⟨d, .slice t y lo hi mx, ty, pos, af, gd⟩).run P w = .ok (.value v) w' ∧ Below w.heap.size w w' ∧ RA w' (Zf E.Z gs) h gs v x := by
  cases mx with
  | some m => exact hx.elim
  | none =>
  obtain ⟨l, hh, hlo, hlo0, hhi, hw, hm⟩ := hx
  obtain ⟨hw1, hlh⟩ := hw rfl
  have hlo' : ∀ z, lo = some z → ∃ k, a.eval z = .int k l := fun z e => by
    obtain ⟨q1, k, q2⟩ := hlo z e
    exact ⟨k, (ev_ok R z).raw_of (q1 rfl) q2⟩
  have hhi' : ∀ z, hi = some z → ∃ k, a.eval z = .int k hh := fun z e => by
    obtain ⟨q1, k, q2⟩ := hhi z e
    exact ⟨k, (ev_ok R z).raw_of (q1 rfl) q2⟩
  have c1 := (ev_ok R y).strip hw1
  generalize hvy : a.eval y = vy at c1
  generalize (ev s y).strip = xy at c1 hm
  have hsl : ∀ (el : TypeId) (j : TypeInfo) (A : Option Addr) (n c : Nat), vy = .slice A n c → P.underlying t = some (.slice el) → P.info? el = some j → (hi = none → hh = n) → hh ≤ c →
      (execOp a.eval ⟨d, .slice t y lo hi none, ty, pos, af, gd⟩).run P w = .ok (.value (.slice (if c = l then A else A.map (·.add (l * j.size))) (hh - l) (c - l))) w := by
    intro el j A n c hv ht hj h0 hc
    subst hv
    have hb := bounds_run (P := P) (w := w) hlo' hlo0 hhi' h0 hlh hc true
    simp only [execOp, hvy, Option.map_none, Instr.sliceAt, Sem.run_bind, run_underlying ht, Result.andThen_ok, Instr.slice, hb, sizeOf, typeInfo, run_program, hj, Sem.run_pure]
  cases c1 with
  | c _ q hq =>
    cases q with
    | im sz n f =>
      obtain ⟨⟨i, j, e1, e2, e3, hg⟩, h0, rfl⟩ := hm
      obtain ⟨rfl, hn⟩ := hg rfl
      obtain ⟨i', dd, t1, t2, -, -, -, t6, t7, -, -⟩ := tinfo_some e1
      obtain ⟨j', dj, u1, u2, u3, -, -, -, -, -, -⟩ := tinfo_some e3
      cases dd with
      | slice el =>
        simp only at t6
        rw [t6] at u1
        obtain ⟨A, c, rfl, hpos⟩ := hq.im_inv
        by_cases hz : hh - l = 0
        · by_cases hn0 : 0 < n
          · obtain ⟨ad, g, rfl, hb, hlt, hnc, hc, ho, hf, hh'⟩ := hpos hn0
            refine ⟨_, w, hsl el j' _ n c rfl t2 u1 h0 (by omega), Below.refl _ _, .c _ _ ?_⟩
            rw [hz]
            exact .nul _ _ _ _
          · refine ⟨_, w, hsl el j' _ n c rfl t2 u1 h0 (by omega), Below.refl _ _, .c _ _ ?_⟩
            rw [hz]
            exact .nul _ _ _ _
        · obtain ⟨ad, g, rfl, hb, hlt, hnc, hc, ho, hf, hh'⟩ := hpos (by omega)
          refine ⟨_, w, hsl el j' _ n c rfl t2 u1 h0 (by omega), Below.refl _ _, .c _ _ ?_⟩
          rw [if_neg (by omega)]
          have hm1 : l * j.size + (hh - l) * j.size ≤ n * j.size := by rw [← Nat.add_mul]; exact Nat.mul_le_mul_right _ (by omega)
          refine .im _ _ _ _ _ (fun q => g (l * j.size + q)) (by rw [block_add]; exact hb) (by rw [block_add]; exact hlt) (by omega) (fun q hq => ?_) (fun q hq => ho _ (by omega)) (fun q hq => hf _ (by omega)) fun q r hq hr => ?_
          · rw [add_add, ← u3]
            exact hc _ (by omega)
          · have := hh' (l + q) r (by omega) hr
            rw [Nat.add_mul, Nat.add_assoc] at this
            exact this
      | _ => simp_all
    | raw u =>
      have := hq.raw_inv
      subst this
      cases vy with
      | string b =>
        obtain ⟨ht, hb, h0, rfl⟩ := hm
        refine ⟨.string (b.extract l hh), w, ?_, Below.refl _ _, .c _ _ (.raw _)⟩
        have hbr := bounds_run (P := P) (w := w) (n := b.size) (c := b.size) hlo' hlo0 hhi' h0 hlh (hb rfl) false
        simp only [execOp, hvy, Option.map_none, Instr.sliceAt, Sem.run_bind, run_underlying ht, Result.andThen_ok, Instr.slice, hbr, Option.isSome_none, Bool.false_eq_true, if_false, Sem.run_pure]
      | _ => exact hm.elim
    | _ => exact hm.elim
  | own A k c o L ty' sz n f ho hL hv =>
    obtain ⟨ty2, sz2, n2, f2, e4, ⟨i, j, e1, e2, e3, hg⟩, hl, h0, rfl⟩ := hm
    rw [ho] at e4
    injection e4 with e5 e6 e7 e8
    subst e6; subst e7
    obtain ⟨rfl, hn⟩ := hg rfl
    have hl1 := hl rfl
    obtain ⟨i', dd, t1, t2, -, -, -, t6, t7, -, -⟩ := tinfo_some e1
    obtain ⟨j', dj, u1, u2, u3, -, -, -, -, -, -⟩ := tinfo_some e3
    cases dd with
    | slice el =>
      simp only at t6
      rw [t6] at u1
      have hob := R.objs o
      rw [ho] at hob
      rcases hv hl1 with ⟨b, K, q1, rfl, rfl, rfl⟩ | ⟨q1, rfl, rfl⟩
      · have hkc : k ≤ c := by
          rcases hob with ⟨r1, r2⟩ | ⟨b', K', cur, r1, r2, r3, r4, _⟩
          · omega
          · rw [q1] at r1
            simp only [Option.some.injEq, Prod.mk.injEq] at r1
            omega
        refine ⟨_, w, hsl el j' _ k c rfl t2 u1 h0 (by omega), Below.refl _ _, .osub _ _ _ o L l (hh - l) ty' _ k f ho hL fun _ => ⟨by omega, rfl, by omega, fun hp => ⟨b, c, q1, ?_⟩⟩⟩
        rw [if_neg (by omega), Option.map_some, addr_lit, Nat.zero_add, u3]
      · have hn0 : n = 0 := by
          rcases hob with ⟨r1, r2⟩ | ⟨b', K', cur, r1, _⟩
          · exact r2
          · rw [q1] at r1; cases r1
        subst hn0
        refine ⟨_, w, hsl el j' _ 0 0 rfl t2 u1 h0 (by omega), Below.refl _ _, .osub _ _ _ o L l (hh - l) ty' _ 0 f ho hL fun _ => ⟨by omega, rfl, by omega, fun hp => by omega⟩⟩
    | _ => simp_all
  | _ => exact hm.elim
end

end Go.Am

/- The abstract machine, part 5: the operations that write or make an object of the frame's own (store, box, alloc, make, append, copy), and their soundness. Generic over the program; no condition. -/
namespace Go.Am
open Go.RowKit

def setLC (cs : List CV) (off : Nat) (xs : List CV) : List CV := cs.take off ++ xs ++ cs.drop (off + xs.length)

/-- A slice as a source: the size of an element, their number, the elements. -/
def srcOf (h : AH) : AV → Option (Nat × Nat × (Nat → List CV))
  | .c (.im sz m g) => some (sz, m, g)
  | .emp => some (0, 0, fun _ => [])
  | .own o L => match h o with
    | .row _ sz n f => if L = n then some (sz, n, f) else none
    | _ => none
  | .osub o L off k => match h o with
    | .row _ sz n f => if L = n then some (sz, k, fun i => f (off + i)) else none
    | _ => none
  | _ => none

/-- The operations that write: object o becomes x', the value is x. -/
def aop2 (P : Program) (op : Op) (e : Operand → AV) (h : AH) (d : Option Tmp) (o : Nat) (x' : AObj) (x : AV) : Prop :=
  match op with
  | .store t y z => d = none ∧ ∃ i, tinfo P t = some i ∧ (e y).wh = true ∧ (e z).wh = true ∧
      match (e y).strip with
      | .ptr o' off => o = o' ∧ ∃ ty cells l, h o' = .box ty cells ∧ (e z).strip.cells = some l ∧ l.length = i.size ∧ off + i.size ≤ cells.length ∧ x' = .box ty (setL cells off l)
      | .rp o' L k off => o = o' ∧ ∃ ty sz n f l, h o' = .row ty sz n f ∧ L = n ∧ k < n ∧ (e z).strip.closedCells = some l ∧ l.length = i.size ∧ off + i.size ≤ sz ∧ x' = .row ty sz n (upd f k (setLC (f k) off l))
      | _ => False
  | .call { callee := .builtin .append, args := args, argTypes := ats } => ∃ y z t i j sz m g, args = #[y, z] ∧ ats = #[t, t] ∧ tinfo P t = some i ∧ i.slice = true ∧ tinfo P i.elem = some j ∧ 0 < j.size ∧ j.zero.length = j.size ∧
      (e y).wh = true ∧ (e z).wh = true ∧ srcOf h (e z).strip = some (sz, m, g) ∧ (m = 0 ∨ sz = j.size) ∧
      match (e y).strip with
      | .own o' L => o = o' ∧ ∃ ty n f, h o' = .row ty j.size n f ∧ ty = i.elem ∧ L = n ∧ n + m ≤ maxLen ∧ (n + m) * j.bytes ≤ 140737488355328 ∧
          x' = .row ty j.size (n + m) (fun q => if q < n then f q else g (q - n)) ∧ x = .own o (n + m)
      | .emp => d = some o ∧ h o = .gone ∧ m ≤ maxLen ∧ m * j.bytes ≤ 140737488355328 ∧ x' = .row i.elem j.size m g ∧ x = .own o m
      | _ => False
  | .call { callee := .builtin .copy, args := args, argTypes := ats } => ∃ y z t t2 i j sz m g, args = #[y, z] ∧ ats = #[t, t2] ∧ tinfo P t = some i ∧ i.slice = true ∧ tinfo P i.elem = some j ∧
      (e y).wh = true ∧ (e z).wh = true ∧ srcOf h (e z).strip = some (sz, m, g) ∧ (m = 0 ∨ sz = j.size) ∧
      match (e y).strip with
      | .own o' L => o = o' ∧ ∃ ty n f, h o' = .row ty j.size n f ∧ L = n ∧ x' = .row ty j.size n (fun q => if q < Nat.min m n then g q else f q) ∧ x = .int (Nat.min m n : Nat)
      | .osub o' L off k => o = o' ∧ ∃ ty n f, h o' = .row ty j.size n f ∧ L = n ∧ x' = .row ty j.size n (fun q => if off ≤ q ∧ q < off + Nat.min m k then g (q - off) else f q) ∧ x = .int (Nat.min m k : Nat)
      | _ => False
  | _ => False

/-- The operations that make an object: it bears the number of the slot. -/
def aop3 (P : Program) (op : Op) (e : Operand → AV) (d : Nat) (x' : AObj) (x : AV) : Prop :=
  match op with
  | .box t y => ∃ l, (e y).wh = true ∧ (e y).strip.cells = some l ∧ x' = .box t l ∧ x = .ptr d 0
  | .alloc t => ∃ i, tinfo P t = some i ∧ i.zero ≠ [] ∧ x' = .box t (i.zero.map constAV1) ∧ x = .ptr d 0
  | .makeSlice t y z => ∃ i j k1 k2 n, tinfo P t = some i ∧ i.slice = true ∧ tinfo P i.elem = some j ∧ j.zero.length = j.size ∧ 0 < j.size ∧ (e y).wh = true ∧ (e z).wh = true ∧ (e y).strip = .c (.raw (.int k1 n)) ∧ (e z).strip = .c (.raw (.int k2 n)) ∧
      0 ≤ n ∧ n ≤ 9223372036854775807 ∧ j.bytes * n ≤ 281474976710656 ∧ x' = .row i.elem j.size n.toNat (fun _ => j.zero.map fun v => (constAV1 v).closed1.getD .any) ∧ x = .own d n.toNat
  | _ => False

section
variable {E : Env} {w : World} {nt : Nat} {s : Nat → AV} {h : AH} {gs : Gs} {a : Act} {P : Program}

/-- A new object. -/
theorem RelG.new [Glb] (R : RelG E nt s h gs a w) (o : Nat) (ho : h o = .gone) (x' : AObj) (K : Nat) (ty : TypeId) (cur : Array Value)
    (hx : Later w (w.alloc (.cells cur ty)) (Zf E.Z gs) (Zf E.Z (upd gs o (some (w.heap.size, K)))) → Refs h gs (upd h o x') (upd gs o (some (w.heap.size, K))) →
      RObj (w.alloc (.cells cur ty)) (Zf E.Z (upd gs o (some (w.heap.size, K)))) (upd h o x') (upd gs o (some (w.heap.size, K))) o x') :
    RelG E nt s (upd h o x') (upd gs o (some (w.heap.size, K))) a (w.alloc (.cells cur ty)) := by
  refine R.eff o x' (some (w.heap.size, K)) rfl rfl rfl (by simp) (fun k hk _ => Below.heap_alloc w _ k hk) (.inr ⟨_, _, rfl, Nat.le_refl _, by simp⟩) (fun ty cells e => ?_) (fun ty sz n f e => ?_) hx
  · rw [ho] at e; cases e
  · rw [ho] at e; cases e

theorem aop3_box [Glb] (R : RelG E nt s h gs a w) {ty : TypeId} {pos : String} {af : Array Edge} {gd : Option (Nat × Bool)} {d : Nat} (hd : d < nt) (ho : h d = .gone) {x' : AObj} {x : AV} (t : TypeId) (y : Operand)
    (hx : aop3 P (.box t y) (ev s) d x' x) :
    ∃ v w', (execOp a.eval ⟨some d, .box t y, ty, pos, af, gd⟩).run P w = .ok (.value v) w' ∧ Rel E nt (upd s d x) (upd h d x') (a.put (some d) v) w' := by
  obtain ⟨l, hw, hl, rfl, rfl⟩ := hx
  have hc := (ev_ok R y).strip hw
  obtain ⟨c1, c2, c3⟩ := hc.cells_of hl
  have R' := R.new d ho (.box t l) 0 t (a.eval y).cells fun hL hr => ⟨w.heap.size, 0, (a.eval y).cells, upd_same _ _ _, heap_alloc_new w _, c1, c2, fun j hj => (c3 j hj).later hL hr⟩
  refine ⟨.pointer (some ⟨w.heap.size, 0, none⟩), w.alloc (.cells (a.eval y).cells t), ?_, _, R'.put hd (.ptr d 0 w.heap.size 0 t l (upd_same _ _ _) (upd_same _ _ _))⟩
  simp [execOp, Instr.box, newVar, newRow]

theorem aop3_alloc [Glb] (R : RelG E nt s h gs a w) {ty : TypeId} {pos : String} {af : Array Edge} {gd : Option (Nat × Bool)} {d : Nat} (hd : d < nt) (ho : h d = .gone) {x' : AObj} {x : AV} (t : TypeId)
    (hx : aop3 P (.alloc t) (ev s) d x' x) :
    ∃ v w', (execOp a.eval ⟨some d, .alloc t, ty, pos, af, gd⟩).run P w = .ok (.value v) w' ∧ Rel E nt (upd s d x) (upd h d x') (a.put (some d) v) w' := by
  obtain ⟨i, e1, e2, rfl, rfl⟩ := hx
  obtain ⟨j, dd, t1, t2, t3, -, -, -, -, -, t9⟩ := tinfo_some e1
  cases hzz : j.zero with
  | none =>
    rw [hzz] at t9
    exact absurd t9 e2
  | some z =>
    rw [hzz] at t9
    simp only at t9
    obtain ⟨z1, z2⟩ := tinfo_zero e1 t1 hzz
    have R' := R.new d ho (.box t (i.zero.map constAV1)) 0 t z.cells fun hL hr => by
      have hzo := zeros_ok (w := w.alloc (.cells z.cells t)) (h := upd h d (.box t (i.zero.map constAV1))) (gs := upd gs d (some (w.heap.size, 0))) (Z := Zf E.Z (upd gs d (some (w.heap.size, 0)))) z.cells.toList z2
      rw [Array.toArray_toList, ← t9] at hzo
      exact ⟨w.heap.size, 0, z.cells, upd_same _ _ _, heap_alloc_new w _, hzo.1, hzo.2.1, hzo.2.2⟩
    refine ⟨.pointer (some ⟨w.heap.size, 0, none⟩), w.alloc (.cells z.cells t), ?_, _, R'.put hd (.ptr d 0 w.heap.size 0 t _ (upd_same _ _ _) (upd_same _ _ _))⟩
    simp [execOp, Instr.alloc, zeroValue, typeInfo, t1, hzz, newVar, newRow]

/-- A row of cells laid over with others. -/
theorem getD_splice {cur : Array Value} {off : Nat} {vs : List Value} (hl : off + vs.length ≤ cur.size) (t : Nat) :
    (cur.toList.take off ++ vs ++ cur.toList.drop (off + vs.length)).toArray.getD t undef = if off ≤ t ∧ t < off + vs.length then vs.getD (t - off) undef else cur.getD t undef := by
  simp only [Array.getD_eq_getD_getElem?, List.getD_eq_getElem?_getD, List.getElem?_toArray]
  have hc : ∀ j : Nat, cur[j]? = cur.toList[j]? := fun j => by simp
  by_cases h1 : t < off
  · rw [if_neg (by omega), List.append_assoc, List.getElem?_append_left (by simp; omega), List.getElem?_take, if_pos h1, hc]
  · by_cases h2 : t < off + vs.length
    · rw [if_pos (by omega), List.append_assoc, List.getElem?_append_right (by simp; omega), List.getElem?_append_left (by simp; omega)]
      simp only [List.length_take, Array.length_toList]
      rw [Nat.min_eq_left (by omega)]
    · rw [if_neg (by omega), List.getElem?_append_right (by simp; omega), List.getElem?_drop, hc]
      congr 2
      simp
      omega

theorem size_splice {cur : Array Value} {off : Nat} {vs : List Value} (hl : off + vs.length ≤ cur.size) : (cur.toList.take off ++ vs ++ cur.toList.drop (off + vs.length)).toArray.size = cur.size := by
  simp
  omega

theorem getD_toList {c : Array Value} (i : Nat) : c.toList.getD i undef = c.getD i undef := by simp [List.getD_eq_getElem?_getD, Array.getD_eq_getD_getElem?]

/-- An object's own block is written. -/
theorem RelG.write [Glb] (R : RelG E nt s h gs a w) (o b K : Nat) (hg : gs o = some (b, K)) (cur cur' : Array Value) (ty : TypeId) (hcur : w.heap[b]? = some (.cells cur ty (0, 0))) (x' : AObj)
    (hbox : ∀ ty cells, h o = .box ty cells → ∃ ty' cells', x' = .box ty' cells')
    (hrow : ∀ ty sz n f, h o = .row ty sz n f → ∃ n' f', x' = .row ty sz n' f' ∧ n ≤ n')
    (hx : Later w (w.setRow b cur') (Zf E.Z gs) (Zf E.Z gs) → Refs h gs (upd h o x') gs → RObj (w.setRow b cur') (Zf E.Z gs) (upd h o x') gs o x') :
    RelG E nt s (upd h o x') gs a (w.setRow b cur') := by
  have e : upd gs o (gs o) = gs := funext fun i => by unfold upd; split <;> simp_all
  have := R.eff (w' := w.setRow b cur') o x' (gs o) rfl rfl rfl (by simp) (fun k _ hk => setRow_other w b k _ fun e => hk K (by rw [e]; exact hg)) (.inl rfl) (fun ty cells e => ⟨hbox ty cells e, rfl⟩) (fun ty sz n f e => by
    obtain ⟨n', f', e1, e2⟩ := hrow ty sz n f e
    exact ⟨n', f', e1, e2, fun _ => rfl⟩) (by rw [e]; exact hx)
  rw [e] at this
  exact this

theorem length_setLC {cs xs : List CV} {off : Nat} (hl : off + xs.length ≤ cs.length) : (setLC cs off xs).length = cs.length := by
  unfold setLC
  simp
  omega
theorem getD_setLC {cs xs : List CV} {off t : Nat} (hl : off + xs.length ≤ cs.length) : (setLC cs off xs).getD t .any = if off ≤ t ∧ t < off + xs.length then xs.getD (t - off) .any else cs.getD t .any := by
  unfold setLC
  simp only [List.getD_eq_getElem?_getD]
  by_cases h1 : t < off
  · rw [if_neg (by omega), List.append_assoc, List.getElem?_append_left (by simp; omega), List.getElem?_take, if_pos h1]
  · by_cases h2 : t < off + xs.length
    · rw [if_pos (by omega), List.append_assoc, List.getElem?_append_right (by simp; omega), List.getElem?_append_left (by simp; omega)]
      simp only [List.length_take]
      rw [Nat.min_eq_left (by omega)]
    · rw [if_neg (by omega), List.getElem?_append_right (by simp; omega), List.getElem?_drop]
      congr 2
      simp
      omega

theorem aop2_store [Glb] (R : RelG E nt s h gs a w) {ty : TypeId} {pos : String} {af : Array Edge} {gd : Option (Nat × Bool)} {d : Option Tmp} {o : Nat} {x' : AObj} {x : AV} (t : TypeId) (y z : Operand)
    (hx : aop2 P (.store t y z) (ev s) h d o x' x) :
    d = none ∧ ∃ w', (execOp a.eval ⟨d, .store t y z, ty, pos, af, gd⟩).run P w = .ok .skip w' ∧ Rel E nt s (upd h o x') a w' := by
  obtain ⟨rfl, i, e1, hwy, hwz, hm⟩ := hx
  refine ⟨rfl, ?_⟩
  have c1 := (ev_ok R y).strip hwy
  have c2 := (ev_ok R z).strip hwz
  generalize hvy : a.eval y = vy at c1
  generalize hvz : a.eval z = vz at c2
  generalize (ev s y).strip = xy at c1 hm
  generalize (ev s z).strip = xz at c2 hm
  obtain ⟨j, dd, t1, t2, t3, -⟩ := tinfo_some e1
  have hs : (sizeOf t).run P w = .ok i.size w := by simp [sizeOf, typeInfo, t1, t3]
  have hrun : ∀ (b off : Nat) (cur : Array Value) (ty' : TypeId), vy = .pointer (some ⟨b, off, none⟩) → w.heap[b]? = some (.cells cur ty' (0, 0)) → vz.cells.size = i.size → off + i.size ≤ cur.size → (∀ v ∈ vz.cells.toList, v.oneCell' = true) →
      (execOp a.eval ⟨none, .store t y z, ty, pos, af, gd⟩).run P w = .ok .skip (w.setRow b (cur.toList.take off ++ vz.cells.toList ++ cur.toList.drop (off + vz.cells.toList.length)).toArray) := by
    intro b off cur ty' hv hcur hsz hfit hone
    subst hv
    have hst := run_storeCells_at P b off ty' vz.cells.toList 0 cur w hcur (by rw [Array.length_toList]; omega) hone
    simp only [Nat.add_zero] at hst
    simp only [execOp, hvy, hvz, Instr.storeAt, Instr.sureAddr, Sem.run_bind, Sem.run_pure, Result.andThen_ok, storeVar, hs]
    rw [if_neg (by omega)]
    simp only [Sem.run_bind, Sem.run_pure, Result.andThen_ok, hst]
  cases c1 with
  | ptr o' off b K ty' cells' ho hg =>
    obtain ⟨rfl, ty2, cells, l, e2, e3, e4, e5, rfl⟩ := hm
    have hob := R.objs o
    rw [e2] at hob
    obtain ⟨b', K', cur, g1, g2, g3, g4, g5⟩ := hob
    rw [hg] at g1
    simp only [Option.some.injEq, Prod.mk.injEq] at g1
    obtain ⟨rfl, rfl⟩ := g1
    obtain ⟨l1, l2, l3⟩ := c2.cells_of e3
    have hone : ∀ v ∈ vz.cells.toList, v.oneCell' = true := by
      intro v hv
      obtain ⟨k, hk, rfl⟩ := List.getElem_of_mem hv
      have hk' : k < vz.cells.size := by simpa using hk
      have := l2 k (by omega)
      rw [← getD_toList, getD_lt hk] at this
      exact this
    have hlen : vz.cells.toList.length = l.length := by rw [Array.length_toList]; exact l1
    refine ⟨_, hrun b off cur ty2 rfl g2 (by omega) (by omega) hone, gs, R.write o b K hg cur _ ty2 g2 _ (fun _ _ _ => ⟨_, _, rfl⟩) (fun ty sz n f e => by rw [e2] at e; cases e) fun hL hr => ?_⟩
    have hsl : (setL cells off l).length = cells.length := length_setL (by omega)
    refine ⟨b, K, _, hg, setRow_heap w b cur _ ty2 _ g2, by rw [size_splice (by omega), hsl, g3], fun k hk => ?_, fun k hk => ?_⟩ <;> rw [hsl] at hk <;> rw [getD_splice (by omega)]
    · split
      · rw [getD_toList]; exact l2 _ (by omega)
      · exact g4 k hk
    · rw [getD_setL (by omega)]
      by_cases h1 : off ≤ k ∧ k < off + l.length
      · rw [if_pos (by omega), if_pos h1, getD_toList]; exact (l3 _ (by omega)).later hL hr
      · rw [if_neg (by omega), if_neg h1]; exact (g5 k hk).later hL hr
  | rp ad o' L k off ty' sz n f ho hL hv =>
    obtain ⟨rfl, ty2, sz2, n2, f2, l, e2, rfl, hk, e3, e4, e5, rfl⟩ := hm
    rw [ho] at e2
    injection e2 with e6 e7 e8 e9
    subst e6; subst e7; subst e8; subst e9
    obtain ⟨b, K, g1, rfl⟩ := hv rfl
    have hob := R.objs o
    rw [ho] at hob
    rcases hob with ⟨q1, q2⟩ | ⟨b', K', cur, q1, q2, q3, q4, q5, q6, q7, q8⟩
    · omega
    rw [g1] at q1
    simp only [Option.some.injEq, Prod.mk.injEq] at q1
    obtain ⟨rfl, rfl⟩ := q1
    obtain ⟨l1, l2, l3⟩ := c2.closedCells_of e3
    have hone : ∀ v ∈ vz.cells.toList, v.oneCell' = true := by
      intro v hv
      obtain ⟨k, hk, rfl⟩ := List.getElem_of_mem hv
      have hk' : k < vz.cells.size := by simpa using hk
      have := l2 k (by omega)
      rw [← getD_toList, getD_lt hk] at this
      exact this
    have hlen : vz.cells.toList.length = l.length := by rw [Array.length_toList]; exact l1
    have hkn : k * sz + sz ≤ n * sz := by rw [← Nat.succ_mul]; exact Nat.mul_le_mul_right _ hk
    have hn : n * sz ≤ K * sz := Nat.mul_le_mul_right _ q4
    have hfk := q6 k hk
    refine ⟨_, hrun b (k * sz + off) cur ty' rfl q2 (by omega) (by omega) hone, gs, R.write o b K g1 cur _ ty' q2 _ (fun ty cells e => by rw [ho] at e; cases e) (fun ty sz2 n2 f2 e => by rw [ho] at e; injection e with e1 e2 e3 e4; subst e1; subst e2; subst e3; exact ⟨_, _, rfl, Nat.le_refl _⟩) fun hL hr => ?_⟩
    refine .inr ⟨b, K, _, g1, setRow_heap w b cur _ ty' _ q2, by rw [size_splice (by omega), q3], q4, q5, fun q hq => ?_, fun q hq => ?_, fun q r hq hr' => ?_⟩
    · unfold upd
      split
      · rename_i hqk
        rw [length_setLC (by omega)]
        exact hfk
      · exact q6 q hq
    · rw [getD_splice (by omega)]
      split
      · rw [getD_toList]; exact l2 _ (by omega)
      · exact q7 q hq
    · rw [getD_splice (by omega)]
      by_cases hqk : q = k
      · subst hqk
        rw [upd_same, getD_setLC (by omega)]
        by_cases h1 : off ≤ r ∧ r < off + l.length
        · rw [if_pos (by omega), if_pos h1, getD_toList, show q * sz + r - (q * sz + off) = r - off by omega]
          exact (l3 _ (by omega)).later hL
        · rw [if_neg (by omega), if_neg h1]
          exact (q8 q r hq hr').later hL
      · rw [upd_ne _ _ _ _ hqk]
        rw [if_neg]
        · exact (q8 q r hq hr').later hL
        · intro ⟨h1, h2⟩
          rcases Nat.lt_or_gt_of_ne hqk with h3 | h3
          · have : q * sz + sz ≤ k * sz := by rw [← Nat.succ_mul]; exact Nat.mul_le_mul_right _ h3
            omega
          · have : k * sz + sz ≤ q * sz := by rw [← Nat.succ_mul]; exact Nat.mul_le_mul_right _ h3
            omega
  | _ => exact hm.elim
end

end Go.Am

/- The abstract machine, part 6: make, append, copy, and their soundness. Generic over the program; no condition. -/
namespace Go.Am
open Go.RowKit

section
variable {E : Env} {w : World} {nt : Nat} {s : Nat → AV} {h : AH} {gs : Gs} {a : Act} {P : Program}

theorem getD_made {z : Array Value} {n i j : Nat} (hz : 0 < z.size) (hj : j < z.size) (hn : i * z.size + j < n) : (madeCells z n).getD (i * z.size + j) undef = z.getD j undef := by
  have h1 : i * z.size + j < (madeCells z n).size := by rw [size_madeCells]; exact hn
  simp only [Array.getD, h1, hj, dite_true]
  simp only [madeCells, Array.getInternal_eq_getElem, Array.getElem_map, Array.getElem_range]
  rw [Nat.mul_comm, Nat.mul_add_mod, Nat.mod_eq_of_lt hj]
  simp [hj]

theorem aop3_make [Glb] (R : RelG E nt s h gs a w) {ty : TypeId} {pos : String} {af : Array Edge} {gd : Option (Nat × Bool)} {d : Nat} (hd : d < nt) (ho : h d = .gone) {x' : AObj} {x : AV} (t : TypeId) (y z : Operand)
    (hx : aop3 P (.makeSlice t y z) (ev s) d x' x) :
    ∃ v w', (execOp a.eval ⟨some d, .makeSlice t y z, ty, pos, af, gd⟩).run P w = .ok (.value v) w' ∧ Rel E nt (upd s d x) (upd h d x') (a.put (some d) v) w' := by
  obtain ⟨i, j, k1, k2, n, e1, e2, e3, e4, e40, hw1, hw2, e5, e6, e7, e8, e9, rfl, rfl⟩ := hx
  have c1 := (ev_ok R y).raw_of hw1 e5
  have c2 := (ev_ok R z).raw_of hw2 e6
  obtain ⟨i', dd, t1, t2, -, -, -, t6, t7, -, -⟩ := tinfo_some e1
  obtain ⟨j', dj, u1, u2, u3, u4, -, -, -, -, u9⟩ := tinfo_some e3
  cases dd with
  | slice el =>
    simp only at t6
    rw [t6] at u1
    cases hzz : j'.zero with
    | none =>
      rw [hzz] at u9
      simp only at u9
      rw [u9] at e4
      simp only [List.length_nil] at e4
      omega
    | some zv =>
      rw [hzz] at u9
      simp only at u9
      obtain ⟨z1, z2⟩ := tinfo_zero (by rw [← t6]; exact e3) u1 hzz
      rw [← u3] at z1
      have hzs : zv.cells.size = j.size := z1
      have hr := run_make (P := P) w t el j' zv t2 u1 hzz k1 k2 n n e7 (Int.le_refl _) (by rw [← u4]; exact e9) e8
      rw [← u3] at hr
      obtain ⟨m, rfl⟩ := Int.eq_ofNat_of_zero_le e7
      simp only [Int.toNat_natCast] at hr ⊢
      have R' := R.new d ho (.row i.elem j.size m (fun _ => j.zero.map fun v => (constAV1 v).closed1.getD .any)) m el (madeCells zv.cells (m * j.size)) fun hL _ => by
        have hpos : 0 < zv.cells.size := by omega
        refine .inr ⟨w.heap.size, m, _, upd_same _ _ _, by rw [t6]; exact heap_alloc_new w _, size_madeCells _ _, Nat.le_refl _, by simp only [maxLen]; omega, fun q _ => by simpa using e4, fun q hq => ?_, fun q r hq hr => ?_⟩
        · have h3 := getD_made (z := zv.cells) (n := m * j.size) (i := q / j.size) (j := q % j.size) hpos (by rw [hzs]; exact Nat.mod_lt _ e40) (by rw [hzs, Nat.mul_comm, Nat.div_add_mod]; exact hq)
          rw [hzs, Nat.mul_comm (q / j.size), Nat.div_add_mod] at h3
          rw [h3]
          have hlt : q % j.size < zv.cells.toList.length := by rw [Array.length_toList, hzs]; exact Nat.mod_lt _ e40
          rw [← getD_toList, getD_lt hlt]
          exact z2 _ (List.getElem_mem hlt)
        · have hqr : q * j.size + r < m * j.size := by
            have : q * j.size + j.size ≤ m * j.size := by rw [← Nat.succ_mul]; exact Nat.mul_le_mul_right _ hq
            omega
          have h3 := getD_made (z := zv.cells) (n := m * j.size) (i := q) (j := r) hpos (by omega) (by rw [hzs]; exact hqr)
          rw [hzs] at h3
          rw [h3]
          have hlt : r < zv.cells.toList.length := by rw [Array.length_toList, hzs]; exact hr
          rw [← getD_toList, getD_lt hlt, u9, getD_lt (by simpa using hlt), List.getElem_map]
          have hk := constAV1_ok (w.alloc (.cells (madeCells zv.cells (m * j.size)) el)) (Zf E.Z (upd gs d (some (w.heap.size, m)))) h gs zv.cells.toList[r]
          generalize zv.cells.toList[r] = u at hk
          cases hc : (constAV1 u).closed1 with
          | none => exact .any _
          | some q => exact hk.closed1_of hc
      refine ⟨_, _, ?_, _, R'.put hd (.own (some ⟨w.heap.size, 0, none⟩) m m d m i.elem j.size m _ (upd_same _ _ _) (Nat.le_refl _) fun _ => .inl ⟨w.heap.size, m, upd_same _ _ _, rfl, rfl, rfl⟩)⟩
      simp only [execOp, c1, c2, Sem.run_bind, hr, Result.andThen_ok, Sem.run_pure]
  | _ => simp_all

/-- What a source holds. -/
theorem src_ok [Glb] (R : RelG E nt s h gs a w) {v : Value} {x : AV} {sz m : Nat} {g : Nat → List CV} (hx : RA w (Zf E.Z gs) h gs v x) (hs : srcOf h x = some (sz, m, g)) :
    ∃ (A : Option Addr) (c : Nat), v = .slice A m c ∧ (0 < m → ∃ (ad : Addr) (u : Nat → Value), A = some ad ∧ (∀ j, j < m * sz → w.cell? (ad.add j) = some (u j)) ∧ (∀ j, j < m * sz → (u j).oneCell' = true) ∧
      (∀ i, i < m → (g i).length = sz) ∧ ∀ i j, i < m → j < sz → RC w (Zf E.Z gs) (u (i * sz + j)) ((g i).getD j .any)) := by
  cases hx with
  | c _ y hy =>
    cases y <;> simp only [srcOf, Option.some.injEq, Prod.mk.injEq, reduceCtorEq] at hs
    obtain ⟨rfl, rfl, rfl⟩ := hs
    obtain ⟨A, c, rfl, hp⟩ := hy.im_inv
    refine ⟨A, c, rfl, fun h0 => ?_⟩
    obtain ⟨ad, u, rfl, _, _, _, hc, ho, hf, hh⟩ := hp h0
    exact ⟨ad, u, rfl, hc, ho, hf, hh⟩
  | emp A =>
    simp only [srcOf, Option.some.injEq, Prod.mk.injEq] at hs
    obtain ⟨rfl, rfl, rfl⟩ := hs
    exact ⟨A, 0, rfl, fun h0 => by omega⟩
  | own A k c o L ty sz' n f ho hL hv =>
    simp only [srcOf, ho] at hs
    split at hs
    · rename_i hl
      simp only [Option.some.injEq, Prod.mk.injEq] at hs
      obtain ⟨rfl, rfl, rfl⟩ := hs
      have hob := R.objs o
      rw [ho] at hob
      rcases hv hl with ⟨b, K, g1, rfl, rfl, rfl⟩ | ⟨g1, rfl, rfl⟩
      · refine ⟨_, c, rfl, fun h0 => ?_⟩
        rcases hob with ⟨q1, q2⟩ | ⟨b', K', cur, q1, q2, q3, q4, q5, q6, q7, q8⟩
        · omega
        rw [g1] at q1
        simp only [Option.some.injEq, Prod.mk.injEq] at q1
        obtain ⟨rfl, rfl⟩ := q1
        have hn : k * sz' ≤ c * sz' := Nat.mul_le_mul_right _ q4
        exact ⟨_, fun j => cur.getD j undef, rfl, fun j hj => by rw [addr_lit, Nat.zero_add]; exact cell_of_heap q2 (by omega), q7, q6, q8⟩
      · rcases hob with ⟨q1, rfl⟩ | ⟨b', K', cur, q1, _⟩
        · exact ⟨A, 0, rfl, fun h0 => by omega⟩
        · rw [g1] at q1; cases q1
    · cases hs
  | osub A k' c o L off k ty sz' n f ho hL hv =>
    simp only [srcOf, ho] at hs
    split at hs
    · rename_i hl
      simp only [Option.some.injEq, Prod.mk.injEq] at hs
      obtain ⟨rfl, rfl, rfl⟩ := hs
      have hob := R.objs o
      rw [ho] at hob
      obtain ⟨v1, rfl, v3, v4⟩ := hv hl
      refine ⟨A, c, rfl, fun h0 => ?_⟩
      obtain ⟨b, K, g1, rfl⟩ := v4 h0
      rcases hob with ⟨q1, q2⟩ | ⟨b', K', cur, q1, q2, q3, q4, q5, q6, q7, q8⟩
      · omega
      rw [g1] at q1
      simp only [Option.some.injEq, Prod.mk.injEq] at q1
      obtain ⟨rfl, rfl⟩ := q1
      have hn : n * sz' ≤ K * sz' := Nat.mul_le_mul_right _ q4
      have ho2 : off * sz' + k' * sz' ≤ n * sz' := by rw [← Nat.add_mul]; exact Nat.mul_le_mul_right _ v1
      refine ⟨_, fun j => cur.getD (off * sz' + j) undef, rfl, fun j hj => by rw [addr_lit]; exact cell_of_heap q2 (by omega), fun j hj => q7 _ (by omega), fun i hi => q6 _ (by omega), fun i j hi hj => ?_⟩
      have := q8 (off + i) j (by omega) hj
      rw [Nat.add_mul, Nat.add_assoc] at this
      exact this
    · cases hs
  | _ => simp [srcOf] at hs

theorem run_append_zero {t el ty : TypeId} {j : TypeInfo} (ht : P.underlying t = some (.slice el)) (hj : P.info? el = some j) (B A : Option Addr) (n K c : Nat) (hn : n ≤ K) :
    (Builtin.append_ #[t, t] ty #[.slice B n K, .slice A 0 c]).run P w = .ok (.slice B n K) w := by
  cases A <;> cases B <;> simp [Builtin.append_, run_underlying ht, sizeOf, typeInfo, hj, Builtin.lenOf, hn, Builtin.firstCells, loadCells, loadCellsFrom, storeCells]

/-- append onto a row that must grow: the new block. -/
theorem grown_block [Glb] (R : RelG E nt s h gs a w) (o n m K0 sz : Nat) (el : TypeId) (olds news : List Value) (zc : Array Value) (f g : Nat → List CV) (hzc : zc.size = sz) (hsz : 0 < sz)
    (hlo : olds.length = n * sz) (hln : news.length = m * sz) (hmax : n + m ≤ maxLen)
    (ho1 : ∀ j, j < n * sz → (olds.getD j undef).oneCell' = true) (ho2 : ∀ j, j < m * sz → (news.getD j undef).oneCell' = true)
    (hf1 : ∀ i, i < n → (f i).length = sz) (hf2 : ∀ i, i < m → (g i).length = sz)
    (hr1 : ∀ i j, i < n → j < sz → RC w (Zf E.Z gs) (olds.getD (i * sz + j) undef) ((f i).getD j .any)) (hr2 : ∀ i j, i < m → j < sz → RC w (Zf E.Z gs) (news.getD (i * sz + j) undef) ((g i).getD j .any))
    (hrow : ∀ ty sz' n' f', h o = .row ty sz' n' f' → ty = el ∧ sz' = sz ∧ n' = n ∧ 0 < m) (hbox : ∀ ty cells, h o ≠ .box ty cells) :
    let K := grownCap w (n + m) K0 el
    let w' := w.drew.alloc (.cells (olds.toArray ++ news.toArray ++ Builtin.zeroCells zc (K - (n + m))) el)
    let x' := AObj.row el sz (n + m) (fun q => if q < n then f q else g (q - n))
    RelG E nt s (upd h o x') (upd gs o (some (w.heap.size, K))) a w' := by
  intro K w' x'
  have hK : n + m ≤ K := grownCap_ge w (n + m) K0 el
  have hKm : K ≤ maxLen := grownCap_le_maxLen w (n + m) K0 el hmax
  refine R.eff o x' (some (w.heap.size, K)) rfl rfl rfl (by simp [w']) (fun k hk _ => Below.heap_alloc w.drew _ k hk) (.inr ⟨_, _, rfl, Nat.le_refl _, by simp [w']⟩) (fun ty cells e => absurd e (hbox ty cells)) (fun ty sz' n' f' e => ?_) fun hL _ => ?_
  · obtain ⟨rfl, rfl, rfl, hm⟩ := hrow ty sz' n' f' e
    exact ⟨n' + m, _, rfl, by omega, fun he => by omega⟩
  · have hsum : n * sz + m * sz = (n + m) * sz := (Nat.add_mul _ _ _).symm
    have hget : ∀ t, t < (n + m) * sz → (olds.toArray ++ news.toArray ++ Builtin.zeroCells zc (K - (n + m))).getD t undef = if t < n * sz then olds.getD t undef else news.getD (t - n * sz) undef := by
      intro t ht
      simp only [Array.getD_eq_getD_getElem?, List.getD_eq_getElem?_getD]
      rw [Array.getElem?_append_left (by simp; omega)]
      by_cases h1 : t < n * sz
      · rw [if_pos h1, Array.getElem?_append_left (by simp; omega)]
        simp
      · rw [if_neg h1, Array.getElem?_append_right (by simp; omega)]
        simp [hlo]
    refine .inr ⟨w.heap.size, K, _, upd_same _ _ _, heap_alloc_new w.drew _, ?_, hK, hKm, fun q hq => ?_, fun q hq => ?_, fun q r hq hr => ?_⟩
    · simp only [Array.size_append, List.size_toArray, size_zeroCells, hzc, hlo, hln]
      rw [← Nat.add_mul, ← Nat.add_mul]
      congr 1
      omega
    · show (if q < n then f q else g (q - n)).length = sz
      split
      · exact hf1 q ‹_›
      · exact hf2 _ (by omega)
    · rw [hget q hq]
      split
      · exact ho1 q ‹_›
      · exact ho2 _ (by omega)
    · have hqr : q * sz + r < (n + m) * sz := by
        have : q * sz + sz ≤ (n + m) * sz := by rw [← Nat.succ_mul]; exact Nat.mul_le_mul_right _ hq
        omega
      rw [hget _ hqr]
      by_cases h1 : q < n
      · have : q * sz + sz ≤ n * sz := by rw [← Nat.succ_mul]; exact Nat.mul_le_mul_right _ h1
        rw [if_pos (by omega)]
        show RC _ _ _ ((if q < n then f q else g (q - n)).getD r .any)
        rw [if_pos h1]
        exact (hr1 q r h1 hr).later hL
      · have h2 : n * sz ≤ q * sz := Nat.mul_le_mul_right _ (by omega)
        rw [if_neg (by omega)]
        show RC _ _ _ ((if q < n then f q else g (q - n)).getD r .any)
        rw [if_neg h1]
        have := hr2 (q - n) r (by omega) hr
        rw [Nat.sub_mul] at this
        rw [show q * sz + r - n * sz = q * sz - n * sz + r by omega]
        exact this.later hL


theorem range_map_getD {n j : Nat} {u : Nat → Value} (hj : j < n) : ((List.range n).map u).getD j undef = u j := by
  rw [getD_lt (by simpa using hj), List.getElem_map, List.getElem_range]
theorem range_map_cells {n : Nat} {u : Nat → Value} {ad : Addr} (hc : ∀ j, j < n → w.cell? (ad.add j) = some (u j)) : ∀ (j : Nat) (v : Value), ((List.range n).map u)[j]? = some v → w.cell? (ad.add j) = some v := by
  intro j v hv
  rw [List.getElem?_map, Option.map_eq_some_iff] at hv
  obtain ⟨k, h1, h2⟩ := hv
  have hk := List.getElem?_eq_some_iff.1 h1
  obtain ⟨h3, h4⟩ := hk
  rw [List.getElem_range] at h4
  subst h4
  subst h2
  exact hc j (by simpa using h3)
theorem range_map_one {n : Nat} {u : Nat → Value} (ho : ∀ j, j < n → (u j).oneCell' = true) : ∀ v ∈ (List.range n).map u, v.oneCell' = true := by
  intro v hv
  rw [List.mem_map] at hv
  obtain ⟨k, h1, rfl⟩ := hv
  exact ho k (by simpa using h1)

/-- The same row under another name of its elements. -/
theorem RelG.same_row [Glb] (R : RelG E nt s h gs a w) (o : Nat) (ty : TypeId) (sz n : Nat) (f f' : Nat → List CV) (ho : h o = .row ty sz n f) (hf : ∀ i, i < n → f' i = f i) :
    RelG E nt s (upd h o (.row ty sz n f')) gs a w := by
  have e : upd gs o (gs o) = gs := funext fun i => by unfold upd; split <;> simp_all
  have := R.eff (w' := w) o (.row ty sz n f') (gs o) rfl rfl rfl (Nat.le_refl _) (fun _ _ _ => rfl) (.inl rfl) (fun ty cells e => by rw [ho] at e; cases e) (fun ty' sz' n' f'' e => by
    rw [ho] at e; injection e with e1 e2 e3 e4; subst e1; subst e2; subst e3; exact ⟨_, _, rfl, Nat.le_refl _, fun _ => rfl⟩) (fun hL hr => by
      have hob := R.objs o
      rw [ho] at hob
      rw [e] at hL hr ⊢
      rcases hob with ⟨q1, q2⟩ | ⟨b', K', cur, q1, q2, q3, q4, q5, q6, q7, q8⟩
      · exact .inl ⟨q1, q2⟩
      · exact .inr ⟨b', K', cur, q1, q2, q3, q4, q5, fun i hi => by rw [hf i hi]; exact q6 i hi, q7, fun i j hi hj => by rw [hf i hi]; exact (q8 i j hi hj).later hL⟩)
  rw [e] at this
  exact this

theorem aop2_append [Glb] (R : RelG E nt s h gs a w) {ty : TypeId} {pos : String} {af : Array Edge} {gd : Option (Nat × Bool)} {d : Option Tmp} (hd : ∀ t, d = some t → t < nt) {o : Nat} {x' : AObj} {x : AV} (args : Array Operand) (ats : Array TypeId)
    (hx : aop2 P (.call ⟨.builtin .append, args, ats⟩) (ev s) h d o x' x) :
    ∃ v w', (execOp a.eval ⟨d, .call ⟨.builtin .append, args, ats⟩, ty, pos, af, gd⟩).run P w = .ok (.value v) w' ∧ Rel E nt (updO s d x) (upd h o x') (a.put d v) w' := by
  obtain ⟨y, z, t, i, j, sz, m, g, rfl, rfl, e1, e2, e3, e4, e5, hwy, hwz, hsrc, hszm, hm⟩ := hx
  have c1 := (ev_ok R y).strip hwy
  have c2 := (ev_ok R z).strip hwz
  obtain ⟨A, c, hvz, hpos⟩ := src_ok R c2 hsrc
  generalize hvy : a.eval y = vy at c1
  generalize (ev s y).strip = xy at c1 hm
  obtain ⟨i', dd, t1, t2, -, -, -, t6, t7, -, -⟩ := tinfo_some e1
  obtain ⟨j', dj, u1, u2, u3, u4, -, -, -, -, u9⟩ := tinfo_some e3
  cases dd with
  | slice el =>
    simp only at t6
    rw [t6] at u1
    cases hzz : j'.zero with
    | none =>
      rw [hzz] at u9
      simp only at u9
      rw [u9] at e5
      simp only [List.length_nil] at e5
      omega
    | some zv =>
      obtain ⟨z1, z2⟩ := tinfo_zero (by rw [← t6]; exact e3) u1 hzz
      have hexec : ∀ v w', (Builtin.append_ #[t, t] ty #[vy, .slice A m c]).run P w = .ok v w' → (execOp a.eval ⟨d, .call ⟨.builtin .append, #[y, z], #[t, t]⟩, ty, pos, af, gd⟩).run P w = .ok (.value v) w' := by
        intro v w' hr
        simp [execOp, resolve, invoke, builtin, hvy, hvz, hr]
      cases c1 with
      | own B k cc o' L ty' sz' n f ho hL hv =>
        obtain ⟨rfl, ty2, n2, f2, e6, e7, e8, e9, e10, rfl, rfl⟩ := hm
        rw [ho] at e6
        injection e6 with f1 f2' f3 f4
        subst f1; subst f2'; subst f3; subst f4
        have hob := R.objs o
        rw [ho] at hob
        have hown : ∀ (gs' : Gs) (B' : Option Addr) (k' K : Nat) (h' : AH) (F : Nat → List CV) (w' : World) (Z' : Nat → Prop), h' o = .row ty' j.size (n + m) F → (∃ b, gs' o = some (b, K) ∧ B' = some ⟨b, 0, none⟩ ∧ k' = n + m) ∨ (gs' o = none ∧ k' = 0 ∧ K = 0) →
            RA w' Z' h' gs' (.slice B' k' K) (.own o (n + m)) := by
          intro gs' B' k' K h' F w' Z' hh' hor
          refine .own B' k' K o (n + m) ty' j.size (n + m) F hh' (Nat.le_refl _) fun _ => ?_
          rcases hor with ⟨b, q1, q2, q3⟩ | ⟨q1, q2, q3⟩
          · exact .inl ⟨b, K, q1, q2, q3, rfl⟩
          · exact .inr ⟨q1, q2, q3⟩
        rcases Nat.eq_zero_or_pos m with h0 | h0
        · -- nothing is appended
          subst h0
          have hkk : k ≤ cc ∧ ((∃ b K, gs o = some (b, K) ∧ B = some ⟨b, 0, none⟩ ∧ k = n ∧ cc = K) ∨ (gs o = none ∧ k = 0 ∧ cc = 0 ∧ n = 0)) := by
            rcases hv e8 with ⟨b, K, q1, q2, q3, q4⟩ | ⟨q1, q2, q3⟩
            · refine ⟨?_, .inl ⟨b, K, q1, q2, q3, q4⟩⟩
              rcases hob with ⟨r1, r2⟩ | ⟨b', K', cur, r1, r2, r3, r4, _⟩
              · rw [q1] at r1; cases r1
              · rw [q1] at r1
                simp only [Option.some.injEq, Prod.mk.injEq] at r1
                omega
            · refine ⟨by omega, .inr ⟨q1, q2, q3, ?_⟩⟩
              rcases hob with ⟨r1, r2⟩ | ⟨b', K', cur, r1, _⟩
              · exact r2
              · rw [q1] at r1; cases r1
          refine ⟨_, w, hexec _ _ (run_append_zero t2 u1 B A k cc c hkk.1), gs, ?_⟩
          have R' := R.same_row o ty' j.size n f (fun q => if q < n then f q else g (q - n)) ho (fun q hq => if_pos hq)
          refine R'.putO hd (hown gs B k cc _ _ _ _ (upd_same _ _ _) ?_)
          rcases hkk.2 with ⟨b, K, q1, q2, q3, q4⟩ | ⟨q1, q2, q3, q4⟩
          · exact .inl ⟨b, by rw [q4]; exact q1, q2, by omega⟩
          · exact .inr ⟨q1, q2, q3⟩
        · obtain ⟨ad, u, rfl, s1, s2, s3, s4⟩ := hpos h0
          have hsz : sz = j.size := hszm.resolve_left (by omega)
          subst hsz
          have hn1 : ((List.range (m * j.size)).map u).length = m * j'.size := by simp [u3]
          rcases hv e8 with ⟨b, K, q1, rfl, rfl, rfl⟩ | ⟨q1, rfl, rfl⟩
          · rcases hob with ⟨r1, r2⟩ | ⟨b', K', cur, r1, r2, r3, r4, r5, r6, r7, r8⟩
            · rw [q1] at r1; cases r1
            rw [q1] at r1
            simp only [Option.some.injEq, Prod.mk.injEq] at r1
            obtain ⟨rfl, rfl⟩ := r1
            have hkc : k * j.size ≤ cc * j.size := Nat.mul_le_mul_right _ r4
            by_cases hroom : k + m ≤ cc
            · -- in place
              have hfit : (k + m) * j.size ≤ cc * j.size := Nat.mul_le_mul_right _ hroom
              rw [Nat.add_mul] at hfit
              have hr := run_append_room (P := P) w t ty el j' t2 u1 b k cc cur (by rw [← t6, ← e7]; exact r2) ad m c ((List.range (m * j.size)).map u) hn1 (range_map_cells s1) (range_map_one s2) hroom (by rw [hn1, ← u3, r3]; exact hfit)
              rw [← u3] at hr
              have hlen : ((List.range (m * j.size)).map u).length = m * j.size := by simp
              refine ⟨_, _, hexec _ _ hr, gs, ?_⟩
              have R' := R.write o b cc q1 cur (cur.toList.take (k * j.size) ++ (List.range (m * j.size)).map u ++ cur.toList.drop (k * j.size + ((List.range (m * j.size)).map u).length)).toArray ty' r2 (.row ty' j.size (k + m) (fun q => if q < k then f q else g (q - k)))
                (fun ty cells e => by rw [ho] at e; cases e) (fun ty2 sz2 n2 f2 e => by rw [ho] at e; injection e with e1 e2 e3 e4; subst e1; subst e2; subst e3; exact ⟨_, _, rfl, by omega⟩) fun hL _ => by
                  refine .inr ⟨b, cc, (cur.toList.take (k * j.size) ++ (List.range (m * j.size)).map u ++ cur.toList.drop (k * j.size + ((List.range (m * j.size)).map u).length)).toArray, q1, setRow_heap w b cur _ ty' _ r2, by rw [size_splice (by rw [hlen]; omega), r3], hroom, r5, fun q hq => ?_, fun q hq => ?_, fun q r hq hr' => ?_⟩
                  · show (if q < k then f q else g (q - k)).length = j.size
                    split
                    · exact r6 q ‹_›
                    · exact s3 _ (by omega)
                  · rw [Nat.add_mul] at hq
                    rw [getD_splice (by rw [hlen]; omega), hlen]
                    split
                    · rw [range_map_getD (by omega)]; exact s2 _ (by omega)
                    · exact r7 q (by omega)
                  · have hqr : q * j.size + j.size ≤ (k + m) * j.size := by rw [← Nat.succ_mul]; exact Nat.mul_le_mul_right _ hq
                    rw [Nat.add_mul] at hqr
                    rw [getD_splice (by rw [hlen]; omega)]
                    show RC _ _ _ ((if q < k then f q else g (q - k)).getD r .any)
                    by_cases h1 : q < k
                    · have : q * j.size + j.size ≤ k * j.size := by rw [← Nat.succ_mul]; exact Nat.mul_le_mul_right _ h1
                      rw [if_neg (by omega), if_pos h1]
                      exact (r8 q r h1 hr').later hL
                    · have : k * j.size ≤ q * j.size := Nat.mul_le_mul_right _ (by omega)
                      rw [if_pos (by rw [hlen]; omega), if_neg h1, range_map_getD (by omega)]
                      have := s4 (q - k) r (by omega) hr'
                      rw [Nat.sub_mul] at this
                      rw [show q * j.size + r - k * j.size = q * j.size - k * j.size + r by omega]
                      exact this.later hL
              exact R'.putO hd (.own _ _ _ o (k + m) ty' j.size (k + m) _ (upd_same _ _ _) (Nat.le_refl _) fun _ => .inl ⟨b, cc, q1, rfl, rfl, rfl⟩)
            · -- a new block
              have holds : ∀ (q : Nat) (v : Value), ((List.range (k * j.size)).map fun q => cur.getD q undef)[q]? = some v → w.cell? ((⟨b, 0, none⟩ : Addr).add q) = some v := range_map_cells fun q hq => by rw [addr_lit, Nat.zero_add]; exact cell_of_heap r2 (by omega)
              have hr := run_append_grow (P := P) w t ty el j' zv t2 u1 hzz ⟨b, 0, none⟩ k cc ((List.range (k * j.size)).map fun q => cur.getD q undef) (by simp [u3]) holds ad m c ((List.range (m * j.size)).map u) hn1 (range_map_cells s1) (by omega) (by simp only [maxLen] at e9; omega) (growslice_fits (by omega) (by rw [← u4]; exact e10))
              refine ⟨_, _, hexec _ _ hr, upd gs o (some (w.heap.size, grownCap w (k + m) cc el)), ?_⟩
              have hG := grown_block R o k m cc j.size el ((List.range (k * j.size)).map fun q => cur.getD q undef) ((List.range (m * j.size)).map u) zv.cells f g (by omega) e4 (by simp) (by simp) e9 (fun q hq => by rw [range_map_getD hq]; exact r7 q hq) (fun q hq => by rw [range_map_getD hq]; exact s2 q hq) r6 s3 (fun p q hp hq => by
                have : p * j.size + j.size ≤ k * j.size := by rw [← Nat.succ_mul]; exact Nat.mul_le_mul_right _ hp
                rw [range_map_getD (by omega)]; exact r8 p q hp hq) (fun p q hp hq => by
                have : p * j.size + j.size ≤ m * j.size := by rw [← Nat.succ_mul]; exact Nat.mul_le_mul_right _ hp
                rw [range_map_getD (by omega)]; exact s4 p q hp hq) (fun ty2 sz2 n2 f2 e => by rw [ho] at e; injection e with e1 e2 e3 e4; subst e1; subst e2; subst e3; exact ⟨by rw [e7, t6], rfl, rfl, h0⟩) (fun ty cells e => by rw [ho] at e; cases e)
              simp only at hG
              rw [e7, t6]
              exact hG.putO hd (by
                refine .own _ _ _ o (k + m) el j.size (k + m) _ (upd_same _ _ _) (Nat.le_refl _) fun _ => .inl ⟨w.heap.size, _, upd_same _ _ _, rfl, rfl, rfl⟩)
          · -- it has no block yet
            have hn0 : n = 0 := by
              rcases hob with ⟨r1, r2⟩ | ⟨b', K', cur, r1, _⟩
              · exact r2
              · rw [q1] at r1; cases r1
            subst hn0
            have hr : (Builtin.append_ #[t, t] ty #[.slice B 0 0, .slice (some ad) m c]).run P w = .ok (.slice (some ⟨w.heap.size, 0, none⟩) (0 + m) (grownCap w (0 + m) 0 el)) (w.drew.alloc (.cells (([] : List Value).toArray ++ ((List.range (m * j.size)).map u).toArray ++ Builtin.zeroCells zv.cells (grownCap w (0 + m) 0 el - (0 + m))) el)) := by
              cases B with
              | none =>
                have := run_append_nil (P := P) w t ty el j' zv t2 u1 hzz ad m c ((List.range (m * j.size)).map u) hn1 (range_map_cells s1) h0 (by simp only [maxLen] at e9; omega) (by rw [← u4]; simp only [Nat.zero_add] at e10; omega)
                simp only [Nat.zero_add]
                rw [this]
                simp
              | some bb => exact run_append_grow (P := P) w t ty el j' zv t2 u1 hzz bb 0 0 [] (by simp) (fun q v hq => by simp at hq) ad m c ((List.range (m * j.size)).map u) hn1 (range_map_cells s1) (by omega) (by simp only [maxLen] at e9; omega) (growslice_fits (by omega) (by rw [← u4]; exact e10))
            refine ⟨_, _, hexec _ _ hr, upd gs o (some (w.heap.size, grownCap w (0 + m) 0 el)), ?_⟩
            have hG := grown_block R o 0 m 0 j.size el [] ((List.range (m * j.size)).map u) zv.cells f g (by omega) e4 (by simp) (by simp) e9 (fun q hq => by omega) (fun q hq => by rw [range_map_getD hq]; exact s2 q hq) (fun q hq => by omega) s3 (fun p q hp hq => by omega) (fun p q hp hq => by
                have : p * j.size + j.size ≤ m * j.size := by rw [← Nat.succ_mul]; exact Nat.mul_le_mul_right _ hp
                rw [range_map_getD (by omega)]; exact s4 p q hp hq) (fun ty2 sz2 n2 f2 e => by rw [ho] at e; injection e with e1 e2 e3 e4; subst e1; subst e2; subst e3; exact ⟨by rw [e7, t6], rfl, rfl, h0⟩) (fun ty cells e => by rw [ho] at e; cases e)
            simp only at hG
            rw [e7, t6]
            exact hG.putO hd (by
              refine .own _ _ _ o (0 + m) el j.size (0 + m) _ (upd_same _ _ _) (Nat.le_refl _) fun _ => .inl ⟨w.heap.size, _, upd_same _ _ _, rfl, rfl, rfl⟩)
      | emp B =>
        obtain ⟨rfl, ho, e9, e10, rfl, rfl⟩ := hm
        rcases Nat.eq_zero_or_pos m with h0 | h0
        · subst h0
          refine ⟨_, w, hexec _ _ (run_append_zero t2 u1 B A 0 0 c (Nat.le_refl _)), upd gs o none, ?_⟩
          have R' := R.eff (w' := w) o (.row i.elem j.size 0 g) none rfl rfl rfl (Nat.le_refl _) (fun _ _ _ => rfl) (.inl (by have := R.objs o; rw [ho] at this; exact this.symm)) (fun ty cells e => by rw [ho] at e; cases e) (fun ty sz n f e => by rw [ho] at e; cases e) fun _ _ => .inl ⟨upd_same _ _ _, rfl⟩
          exact R'.putO hd (.own B 0 0 o 0 i.elem j.size 0 g (upd_same _ _ _) (Nat.le_refl _) fun _ => .inr ⟨upd_same _ _ _, rfl, rfl⟩)
        · obtain ⟨ad, u, rfl, s1, s2, s3, s4⟩ := hpos h0
          have hsz : sz = j.size := hszm.resolve_left (by omega)
          subst hsz
          have hn1 : ((List.range (m * j.size)).map u).length = m * j'.size := by simp [u3]
          have hr : (Builtin.append_ #[t, t] ty #[.slice B 0 0, .slice (some ad) m c]).run P w = .ok (.slice (some ⟨w.heap.size, 0, none⟩) (0 + m) (grownCap w (0 + m) 0 el)) (w.drew.alloc (.cells (([] : List Value).toArray ++ ((List.range (m * j.size)).map u).toArray ++ Builtin.zeroCells zv.cells (grownCap w (0 + m) 0 el - (0 + m))) el)) := by
            cases B with
            | none =>
              have := run_append_nil (P := P) w t ty el j' zv t2 u1 hzz ad m c ((List.range (m * j.size)).map u) hn1 (range_map_cells s1) h0 (by simp only [maxLen] at e9; omega) (by rw [← u4]; omega)
              simp only [Nat.zero_add]
              rw [this]
              simp
            | some bb => exact run_append_grow (P := P) w t ty el j' zv t2 u1 hzz bb 0 0 [] (by simp) (fun q v hq => by simp at hq) ad m c ((List.range (m * j.size)).map u) hn1 (range_map_cells s1) (by omega) (by simp only [maxLen] at e9; omega) (growslice_fits (by omega) (by rw [Nat.zero_add, ← u4]; exact e10))
          refine ⟨_, _, hexec _ _ hr, upd gs o (some (w.heap.size, grownCap w (0 + m) 0 el)), ?_⟩
          have hG := grown_block R o 0 m 0 j.size el [] ((List.range (m * j.size)).map u) zv.cells (fun _ => []) g (by omega) e4 (by simp) (by simp) (by omega) (fun q hq => by omega) (fun q hq => by rw [range_map_getD hq]; exact s2 q hq) (fun q hq => by omega) s3 (fun p q hp hq => by omega) (fun p q hp hq => by
                have : p * j.size + j.size ≤ m * j.size := by rw [← Nat.succ_mul]; exact Nat.mul_le_mul_right _ hp
                rw [range_map_getD (by omega)]; exact s4 p q hp hq) (fun ty2 sz2 n2 f2 e => by rw [ho] at e; cases e) (fun ty cells e => by rw [ho] at e; cases e)
          simp only [Nat.zero_add, Nat.not_lt_zero, if_false, Nat.sub_zero] at hG ⊢
          rw [t6]
          exact hG.putO hd (.own _ _ _ o m el j.size m g (upd_same _ _ _) (Nat.le_refl _) fun _ => .inl ⟨w.heap.size, _, upd_same _ _ _, rfl, rfl, rfl⟩)
      | _ => exact hm.elim
  | _ => simp_all

theorem run_copyN {dT sT ty el : TypeId} {j : TypeInfo} (g o dLen dCap : Nat) (A : Option Addr) (sLen sCap : Nat) (cur : Array Value) (t : TypeId) (cs : List Value)
    (hu : P.underlying dT = some (.slice el)) (hj : P.info? el = some j) (hg : w.heap[g]? = some (.cells cur t (0, 0))) (hn : cs.length = Nat.min sLen dLen * j.size)
    (hA : 0 < Nat.min sLen dLen → ∃ ad, A = some ad ∧ ∀ (q : Nat) (v : Value), cs[q]? = some v → w.cell? (ad.add q) = some v) (hfit : o + cs.length ≤ cur.size) (h1 : ∀ v ∈ cs, v.oneCell' = true) :
    (Builtin.copy_ #[dT, sT] ty #[.slice (some ⟨g, o, none⟩) dLen dCap, .slice A sLen sCap]).run P w = .ok (goInt (Nat.min sLen dLen : Nat)) (w.setRow g (cur.toList.take o ++ cs ++ cur.toList.drop (o + cs.length)).toArray) := by
  have hf : (Builtin.firstCells j.size (Nat.min sLen dLen) (.slice A sLen sCap)).run P w = .ok cs.toArray w := by
    rcases Nat.eq_zero_or_pos (Nat.min sLen dLen) with h0 | h0
    · rw [h0] at hn ⊢
      have : cs = [] := List.eq_nil_of_length_eq_zero (by simpa using hn)
      subst this
      cases A <;> simp [Builtin.firstCells, loadCells, loadCellsFrom]
    · obtain ⟨ad, rfl, hc⟩ := hA h0
      exact run_firstCells_some (P := P) w j.size _ ad sLen sCap cs hn hc
  have hst := run_storeCells_at P g o t cs 0 cur w hg (by simpa using hfit) h1
  simp only [Nat.add_zero] at hst
  simp only [Builtin.copy_, Sem.run_bind, run_underlying hu, Result.andThen_ok, Builtin.lenOf, Sem.run_pure, sizeOf, typeInfo, run_program, hj, List.getElem?_toArray, List.getElem?_cons_zero, List.getElem?_cons_succ, hf, hst]

theorem run_copy0 {dT sT ty el : TypeId} {j : TypeInfo} (hu : P.underlying dT = some (.slice el)) (hj : P.info? el = some j) (B A : Option Addr) (dLen dCap sLen sCap : Nat) (hn : Nat.min sLen dLen = 0) :
    (Builtin.copy_ #[dT, sT] ty #[.slice B dLen dCap, .slice A sLen sCap]).run P w = .ok (goInt 0) w := by
  cases A <;> cases B <;> simp [Builtin.copy_, run_underlying hu, sizeOf, typeInfo, hj, Builtin.lenOf, hn, Builtin.firstCells, loadCells, loadCellsFrom, storeCells]

theorem aop2_copy [Glb] (R : RelG E nt s h gs a w) {ty : TypeId} {pos : String} {af : Array Edge} {gd : Option (Nat × Bool)} {d : Option Tmp} (hd : ∀ t, d = some t → t < nt) {o : Nat} {x' : AObj} {x : AV} (args : Array Operand) (ats : Array TypeId)
    (hx : aop2 P (.call ⟨.builtin .copy, args, ats⟩) (ev s) h d o x' x) :
    ∃ v w', (execOp a.eval ⟨d, .call ⟨.builtin .copy, args, ats⟩, ty, pos, af, gd⟩).run P w = .ok (.value v) w' ∧ Rel E nt (updO s d x) (upd h o x') (a.put d v) w' := by
  obtain ⟨y, z, t, tz, i, j, sz, m, g, rfl, rfl, e1, e2, e3, hwy, hwz, hsrc, hszm, hm⟩ := hx
  have c1 := (ev_ok R y).strip hwy
  have c2 := (ev_ok R z).strip hwz
  obtain ⟨A, c, hvz, hpos⟩ := src_ok R c2 hsrc
  generalize hvy : a.eval y = vy at c1
  generalize (ev s y).strip = xy at c1 hm
  obtain ⟨i', dd, t1, t2, -, -, -, t6, t7, -, -⟩ := tinfo_some e1
  obtain ⟨j', dj, u1, u2, u3, u4, -, -, -, -, u9⟩ := tinfo_some e3
  cases dd with
  | slice el =>
    simp only at t6
    rw [t6] at u1
    have hexec : ∀ v w', (Builtin.copy_ #[t, tz] ty #[vy, .slice A m c]).run P w = .ok v w' → (execOp a.eval ⟨d, .call ⟨.builtin .copy, #[y, z], #[t, tz]⟩, ty, pos, af, gd⟩).run P w = .ok (.value v) w' := by
      intro v w' hr
      simp [execOp, resolve, invoke, builtin, hvy, hvz, hr]
    -- one road for both kinds of destination
    have road : ∀ (B : Option Addr) (k cc off : Nat) (ty' : TypeId) (n : Nat) (f : Nat → List CV), vy = .slice B k cc → h o = .row ty' j.size n f → off + k ≤ n → (0 < k → ∃ b K, gs o = some (b, K) ∧ B = some ⟨b, off * j.size, none⟩) →
        ∃ v w', (execOp a.eval ⟨d, .call ⟨.builtin .copy, #[y, z], #[t, tz]⟩, ty, pos, af, gd⟩).run P w = .ok (.value v) w' ∧
          Rel E nt (updO s d (.int (Nat.min m k : Nat))) (upd h o (.row ty' j.size n (fun q => if off ≤ q ∧ q < off + Nat.min m k then g (q - off) else f q))) (a.put d v) w' := by
      intro B k cc off ty' n f hv ho hok hB
      subst hv
      have hob := R.objs o
      rw [ho] at hob
      by_cases hp : 0 < Nat.min m k
      · have hk : 0 < k := Nat.lt_of_lt_of_le hp (Nat.min_le_right _ _)
        have hm0 : 0 < m := Nat.lt_of_lt_of_le hp (Nat.min_le_left _ _)
        obtain ⟨b, K, q1, rfl⟩ := hB hk
        obtain ⟨ad, u, rfl, s1, s2, s3, s4⟩ := hpos hm0
        have hsz : sz = j.size := hszm.resolve_left (by omega)
        subst hsz
        rcases hob with ⟨r1, r2⟩ | ⟨b', K', cur, r1, r2, r3, r4, r5, r6, r7, r8⟩
        · omega
        rw [q1] at r1
        simp only [Option.some.injEq, Prod.mk.injEq] at r1
        obtain ⟨rfl, rfl⟩ := r1
        have hnK : n * j.size ≤ K * j.size := Nat.mul_le_mul_right _ r4
        have hmk : Nat.min m k ≤ k := Nat.min_le_right _ _
        have hmm : Nat.min m k ≤ m := Nat.min_le_left _ _
        generalize hl : Nat.min m k = l at *
        have hlm : l * j.size ≤ m * j.size := Nat.mul_le_mul_right _ hmm
        have hfit : off * j.size + l * j.size ≤ n * j.size := by rw [← Nat.add_mul]; exact Nat.mul_le_mul_right _ (by omega)
        have hlen : ((List.range (l * j.size)).map u).length = l * j.size := by simp
        have hcp := run_copyN (P := P) (w := w) (dT := t) (sT := tz) (ty := ty) b (off * j.size) k cc (some ad) m c cur ty' ((List.range (l * j.size)).map u) t2 u1 r2 (by rw [hlen, hl, u3]) (fun _ => ⟨ad, rfl, range_map_cells fun q hq => s1 q (by omega)⟩) (by rw [hlen, r3]; omega) (range_map_one fun q hq => s2 q (by omega))
        rw [hl] at hcp
        refine ⟨_, _, hexec _ _ hcp, gs, RelG.putO ?_ hd (.c _ _ (.raw _))⟩
        refine R.write o b K q1 cur _ ty' r2 _ (fun ty cells e => by rw [ho] at e; cases e) (fun ty2 sz2 n2 f2 e => by rw [ho] at e; injection e with e1 e2 e3 e4; subst e1; subst e2; subst e3; exact ⟨_, _, rfl, Nat.le_refl _⟩) fun hL _ => ?_
        refine .inr ⟨b, K, _, q1, setRow_heap w b cur _ ty' _ r2, by rw [size_splice (by rw [hlen]; omega), r3], r4, r5, fun q hq => ?_, fun q hq => ?_, fun q r hq hr' => ?_⟩
        · show (if off ≤ q ∧ q < off + l then g (q - off) else f q).length = j.size
          split
          · exact s3 _ (by omega)
          · exact r6 q hq
        · rw [getD_splice (by rw [hlen]; omega), hlen]
          split
          · rw [range_map_getD (by omega)]; exact s2 _ (by omega)
          · exact r7 q hq
        · have hqr : q * j.size + j.size ≤ n * j.size := by rw [← Nat.succ_mul]; exact Nat.mul_le_mul_right _ hq
          rw [getD_splice (by rw [hlen]; omega)]
          show RC _ _ _ ((if off ≤ q ∧ q < off + l then g (q - off) else f q).getD r .any)
          by_cases h1 : off ≤ q ∧ q < off + l
          · have h2 : off * j.size ≤ q * j.size := Nat.mul_le_mul_right _ h1.1
            have h3 : q * j.size + j.size ≤ (off + l) * j.size := by rw [← Nat.succ_mul]; exact Nat.mul_le_mul_right _ h1.2
            rw [Nat.add_mul] at h3
            rw [if_pos (by rw [hlen]; omega), if_pos h1, range_map_getD (by omega)]
            have := s4 (q - off) r (by omega) hr'
            rw [Nat.sub_mul] at this
            rw [show q * j.size + r - off * j.size = q * j.size - off * j.size + r by omega]
            exact this.later hL
          · have h2 : q < off ∨ off + l ≤ q := by omega
            rw [if_neg, if_neg h1]
            · exact (r8 q r hq hr').later hL
            · rw [hlen]
              rcases h2 with h2 | h2
              · have : q * j.size + j.size ≤ off * j.size := by rw [← Nat.succ_mul]; exact Nat.mul_le_mul_right _ h2
                omega
              · have : (off + l) * j.size ≤ q * j.size := Nat.mul_le_mul_right _ h2
                rw [Nat.add_mul] at this
                omega
      · have h0 : Nat.min m k = 0 := by omega
        refine ⟨_, w, hexec _ _ (run_copy0 t2 u1 B A k cc m c h0), gs, ?_⟩
        rw [h0]
        exact (R.same_row o ty' j.size n f _ ho fun q hq => if_neg (by omega)).putO hd (.c _ _ (.raw _))
    cases c1 with
    | own B k cc o' L ty' sz' n f ho hL hv =>
      obtain ⟨rfl, ty2, n2, f2, e6, e8, rfl, rfl⟩ := hm
      rw [ho] at e6
      injection e6 with f1 f2' f3 f4
      subst f1; subst f2'; subst f3; subst f4
      have hob := R.objs o
      rw [ho] at hob
      have hkn : k = n := by
        rcases hv e8 with ⟨b, K, q1, q2, q3, q4⟩ | ⟨q1, q2, q3⟩
        · exact q3
        · rcases hob with ⟨r1, r2⟩ | ⟨b', K', cur, r1, _⟩
          · omega
          · rw [q1] at r1; cases r1
      subst hkn
      obtain ⟨v, w', h1, h2⟩ := road B k cc 0 ty' k f rfl ho (by omega) (fun hk => by
        rcases hv e8 with ⟨b, K, q1, q2, q3, q4⟩ | ⟨q1, q2, q3⟩
        · exact ⟨b, K, q1, by rw [q2]; simp⟩
        · omega)
      refine ⟨v, w', h1, ?_⟩
      simp only [Nat.zero_le, true_and, Nat.zero_add, Nat.sub_zero] at h2
      exact h2
    | osub B k' cc o' L off k ty' sz' n f ho hL hv =>
      obtain ⟨rfl, ty2, n2, f2, e6, e8, rfl, rfl⟩ := hm
      rw [ho] at e6
      injection e6 with f1 f2' f3 f4
      subst f1; subst f2'; subst f3; subst f4
      obtain ⟨v1, rfl, v3, v4⟩ := hv e8
      exact road B k' cc off ty' n f rfl ho v1 v4
    | _ => exact hm.elim
  | _ => simp_all
end

end Go.Am

/- The abstract machine, part 7: one operation, whatever its kind; a region in the order of its text. Generic over the program; no condition. -/
namespace Go.Am
open Go.RowKit

/-- 0: looks at no object · 1: looks at objects · 2: writes · 3: makes one. -/
def cls : Op → Nat
  | .load _ _ | .indexAddr _ _ _ | .slice _ _ _ _ _ => 1
  | .call { callee := .builtin .len, .. } => 1
  | .call { callee := .value _, .. } => 1
  | .store _ _ _ => 2
  | .call { callee := .builtin .append, .. } => 2
  | .call { callee := .builtin .copy, .. } => 2
  | .box _ _ | .alloc _ | .makeSlice _ _ _ => 3
  | _ => 0

def appE (h : AH) : Option (Nat × AObj) → AH
  | some (o, x) => upd h o x
  | none => h

/-- The operation is carried out. -/
def aEx [Glb] (P : Program) (o : Oper) (s : Nat → AV) (h : AH) (x : AV) (eff : Option (Nat × AObj)) : Prop :=
  match cls o.op with
  | 0 => aop0 P o.op (ev s) true x ∧ eff = none
  | 1 => aop1 P o.op (ev s) h true x ∧ eff = none
  | 2 => ∃ ob x', aop2 P o.op (ev s) h o.dst ob x' x ∧ eff = some (ob, x')
  | _ => ∃ d x', o.dst = some d ∧ h d = .gone ∧ aop3 P o.op (ev s) d x' x ∧ eff = some (d, x')

section
variable {E : Env} {w : World} {nt : Nat} {s : Nat → AV} {h : AH} {gs : Gs} {a : Act} {P : Program}

theorem wp_value {o : Oper} {v : Value} {w' : World} {K : Act → World → Prop} {Q : Exit → Act → World → Prop} (hr : (execOp a.eval o).run P w = .ok (.value v) w') (hK : K (a.put o.dst v) w') : o.wp P a w K Q := by
  unfold Oper.wp
  rw [hr]
  exact hK

theorem wp_pure [Glb] (R : RelG E nt s h gs a w) {o : Oper} {x : AV} {Q : Exit → Act → World → Prop} (hd : ∀ t, o.dst = some t → t < nt)
    (hr : ∃ v w', (execOp a.eval o).run P w = .ok (.value v) w' ∧ Below w.heap.size w w' ∧ RA w' (Zf E.Z gs) h gs v x) : o.wp P a w (fun a' w' => Rel E nt (updO s o.dst x) h a' w') Q := by
  obtain ⟨v, w', h1, h2, h3⟩ := hr
  exact wp_value h1 ⟨gs, (R.grow h2).putO hd h3⟩

theorem exec_ok [Glb] (R : RelG E nt s h gs a w) {o : Oper} {x : AV} {eff : Option (Nat × AObj)} {Q : Exit → Act → World → Prop} (hd : ∀ t, o.dst = some t → t < nt) (hx : aEx P o s h x eff) :
    o.wp P a w (fun a' w' => Rel E nt (updO s o.dst x) (appE h eff) a' w') Q := by
  obtain ⟨d, op, ty, pos, af, gd⟩ := o
  cases op with
  | move y => obtain ⟨h1, rfl⟩ := hx; exact wp_pure R hd (aop0_move R _ y (.inl rfl) h1)
  | assign y => obtain ⟨h1, rfl⟩ := hx; exact wp_pure R hd (aop0_move R _ y (.inr rfl) h1)
  | pick c y z => obtain ⟨h1, rfl⟩ := hx; exact wp_pure R hd (aop0_pick R c y z h1)
  | binOp op t y z t2 => obtain ⟨h1, rfl⟩ := hx; exact wp_pure R hd (aop0_binOp R op t t2 y z h1)
  | unOp op t y => obtain ⟨h1, rfl⟩ := hx; exact wp_pure R hd (aop0_unOp R op t y h1)
  | fieldAddr t y f => obtain ⟨h1, rfl⟩ := hx; exact wp_pure R hd (aop0_fieldAddr R t y f h1)
  | extract y i => obtain ⟨h1, rfl⟩ := hx; exact wp_pure R hd (aop0_extract R y i h1)
  | build t parts => obtain ⟨h1, rfl⟩ := hx; exact wp_pure R hd (aop0_build R t parts h1)
  | buildSlice t len parts => obtain ⟨h1, rfl⟩ := hx; exact wp_pure R hd (aop0_buildSlice R t len parts h1)
  | convert t t2 y => obtain ⟨h1, rfl⟩ := hx; exact wp_pure R hd (aop0_convert R t t2 y h1)
  | nilCheck y => obtain ⟨h1, rfl⟩ := hx; exact wp_pure R hd (aop0_nilCheck R y h1)
  | index t y z => obtain ⟨h1, rfl⟩ := hx; exact wp_pure R hd (aop0_index R t y z h1)
  | makeInterface t y => obtain ⟨h1, rfl⟩ := hx; exact wp_pure R hd (aop0_makeInterface R t y h1)
  | makeFunc fn first caps => obtain ⟨h1, rfl⟩ := hx; exact wp_pure R hd (aop0_makeFunc R fn first caps h1)
  | load t y => obtain ⟨h1, rfl⟩ := hx; exact wp_pure R hd (aop1_load R t y h1)
  | indexAddr t y z => obtain ⟨h1, rfl⟩ := hx; exact wp_pure R hd (aop1_indexAddr R t y z h1)
  | slice t y lo hi mx => obtain ⟨h1, rfl⟩ := hx; exact wp_pure R hd (aop1_slice R t y lo hi mx h1)
  | store t y z =>
    obtain ⟨ob, x', h1, rfl⟩ := hx
    obtain ⟨rfl, w', h2, h3⟩ := aop2_store R t y z h1
    unfold Oper.wp
    rw [h2]
    exact h3
  | box t y =>
    obtain ⟨d', x', h1, h2, h3, rfl⟩ := hx
    simp only at h1
    subst h1
    obtain ⟨v, w', h4, h5⟩ := aop3_box R (hd d' rfl) h2 t y h3
    exact wp_value h4 h5
  | alloc t =>
    obtain ⟨d', x', h1, h2, h3, rfl⟩ := hx
    simp only at h1
    subst h1
    obtain ⟨v, w', h4, h5⟩ := aop3_alloc R (hd d' rfl) h2 t h3
    exact wp_value h4 h5
  | makeSlice t y z =>
    obtain ⟨d', x', h1, h2, h3, rfl⟩ := hx
    simp only at h1
    subst h1
    obtain ⟨v, w', h4, h5⟩ := aop3_make R (hd d' rfl) h2 t y z h3
    exact wp_value h4 h5
  | call c =>
    obtain ⟨callee, args, ats⟩ := c
    cases callee with
    | builtin b =>
      cases b with
      | len => obtain ⟨h1, rfl⟩ := hx; exact wp_pure R hd (aop1_len R args ats h1)
      | max => obtain ⟨h1, rfl⟩ := hx; exact wp_pure R hd (aop0_max R args ats h1)
      | append =>
        obtain ⟨ob, x', h1, rfl⟩ := hx
        obtain ⟨v, w', h4, h5⟩ := aop2_append R hd args ats h1
        exact wp_value h4 h5
      | copy =>
        obtain ⟨ob, x', h1, rfl⟩ := hx
        obtain ⟨v, w', h4, h5⟩ := aop2_copy R hd args ats h1
        exact wp_value h4 h5
      | _ => exact hx.1.elim
    | value f =>
      cases f with
      | func f =>
        obtain ⟨h1, rfl⟩ := hx
        exact aop1_call R f args ats h1 fun v w' hb hr => ⟨gs, (R.grow hb).putO hd hr⟩
      | tmp t =>
        obtain ⟨h1, rfl⟩ := hx
        exact aop1_callV R t args ats h1 fun v w' hb hr => ⟨gs, (R.grow hb).putO hd hr⟩
      | _ => exact hx.1.elim
    | invoke r m => exact hx.1.elim
  | _ => exact hx.1.elim
end

/-- One operation of a region: carried out, or passed over by its guard. -/
def aStep [Glb] (P : Program) (ops : Array Oper) (o : Oper) (s : Nat → AV) (h : AH) (x : AV) (eff : Option (Nat × AObj)) : Prop :=
  match o.guard with
  | none => aEx P o s h x eff
  | some (j, want) => eff = none ∧ ∃ t g y, (ops[j]?).bind (·.dst) = some t ∧ (s t).strip = .bool g ∧
      (((s t).wh && g == want) = true → match cls o.op with
       | 0 => aop0 P o.op (ev s) true y
       | 1 => aop1 P o.op (ev s) h true y
       | _ => False) ∧ x = .when ((s t).wh && g == want) y

/-- A region in the order of its text. -/
def aRun [Glb] (P : Program) (ops : Array Oper) (K : (Nat → AV) → AH → Prop) : List Oper → (Nat → AV) → AH → Prop
  | [], s, h => K s h
  | o :: r, s, h => ∃ x eff, aStep P ops o s h x eff ∧ aRun P ops K r (updO s o.dst x) (appE h eff)

section
variable {E : Env} {w : World} {nt : Nat} {s : Nat → AV} {h : AH} {gs : Gs} {a : Act} {P : Program} {ops : Array Oper}

theorem RA.guard {Z : Nat → Prop} {v : Value} {y : AV} {g : Bool} (hx : RA w Z h gs v y) (he : y.strip = .bool g) : v = if y.wh then .bool g else undef := by
  induction hx with
  | when v b x hx hu ih =>
    cases b with
    | false => simp [AV.wh, hu rfl]
    | true => simpa [AV.wh] using ih rfl he
  | c v x hx =>
    have e : x = .raw (.bool g) := by simpa [AV.strip] using he
    subst e
    exact (RA.c (gs := gs) (h := h) v _ hx).raw_inv
  | _ => simp [AV.strip] at he

theorem yielded_of [Glb] (R : RelG E nt s h gs a w) {j t : Nat} {g : Bool} (h1 : (ops[j]?).bind (·.dst) = some t) (h2 : (s t).strip = .bool g) (ht : t < nt) : yielded ops a.tmps j = if (s t).wh then some g else none := by
  have hv := (R.slots t).guard h2
  unfold yielded
  rw [h1]
  have hlt : t < a.tmps.size := by rw [R.size]; exact ht
  simp only [Option.bind_some, Array.getElem?_eq_getElem hlt]
  simp only [Array.getD, hlt, dite_true, Array.getInternal_eq_getElem] at hv
  rw [hv]
  cases (s t).wh <;> rfl

/-- One operation: it is wanted and carried out, or not wanted and passed over. -/
theorem step_ok [Glb] (R : RelG E nt s h gs a w) {o : Oper} {x : AV} {eff : Option (Nat × AObj)} {Q : Exit → Act → World → Prop} (hd : ∀ t, o.dst = some t → t < nt)
    (hg : ∀ j b t, o.guard = some (j, b) → (ops[j]?).bind (·.dst) = some t → t < nt) (hx : aStep P ops o s h x eff) :
    (Region.wanted o (yielded ops a.tmps) = true ∧ o.wp P a w (fun a' w' => Rel E nt (updO s o.dst x) (appE h eff) a' w') Q) ∨
    (Region.wanted o (yielded ops a.tmps) = false ∧ Rel E nt (updO s o.dst x) (appE h eff) (a.put o.dst undef) w) := by
  unfold aStep at hx
  split at hx
  · rename_i hgd
    exact .inl ⟨by simp [Region.wanted, hgd], exec_ok R hd hx⟩
  · rename_i j want hgd
    obtain ⟨rfl, t, g, y, h1, h2, h3, rfl⟩ := hx
    have hy := yielded_of R h1 h2 (hg j want t hgd h1)
    by_cases hw : ((s t).wh && g == want) = true
    · have hw' := hw
      rw [Bool.and_eq_true, beq_iff_eq] at hw'
      rw [if_pos hw'.1] at hy
      refine .inl ⟨by simp [Region.wanted, hgd, hy, hw'.2], ?_⟩
      have hex : aEx P o s h y none := by
        unfold aEx
        have h3 := h3 hw
        split at h3
        · rename_i hc
          simp only [hc]
          exact ⟨h3, trivial⟩
        · rename_i hc
          simp only [hc]
          exact ⟨h3, trivial⟩
        · exact h3.elim
      refine Oper.wp_mono (fun a' w' hR => ?_) (exec_ok R hd hex)
      obtain ⟨gs', R'⟩ := hR
      refine ⟨gs', { R' with slots := fun t' => ?_ }⟩
      have := R'.slots t'
      unfold updO at this ⊢
      cases hdst : o.dst with
      | none => rw [hdst] at this; exact this
      | some d =>
        rw [hdst] at this
        simp only [upd] at this ⊢
        split
        · rename_i he
          rw [if_pos he] at this
          exact .when _ _ _ (fun _ => this) fun e => by rw [hw] at e; cases e
        · rename_i he
          rw [if_neg he] at this
          exact this
    · refine .inr ⟨?_, gs, R.putO hd (.when _ _ _ (fun e => absurd e hw) fun _ => rfl)⟩
      cases hwh : (s t).wh with
      | false => rw [hwh] at hy; simp [Region.wanted, hgd, hy]
      | true =>
        rw [hwh] at hy hw
        simp only [Bool.true_and, beq_iff_eq] at hw
        simp [Region.wanted, hgd, hy, hw]

/-- All slots that the region names are there. -/
def slotsOk (nt : Nat) (ops : List Oper) : Bool := ops.all fun o => (match o.dst with | some d => decide (d < nt) | none => true)

theorem slotsOk_dst {l : List Oper} (hs : slotsOk nt l = true) {o : Oper} (ho : o ∈ l) : ∀ t, o.dst = some t → t < nt := by
  intro t ht
  simp only [slotsOk, List.all_eq_true] at hs
  have := hs o ho
  rw [ht] at this
  simpa using this

theorem slotsOk_guard {ops : Array Oper} (hs : slotsOk nt ops.toList = true) {j t : Nat} (ht : (ops[j]?).bind (·.dst) = some t) : t < nt := by
  rw [Option.bind_eq_some_iff] at ht
  obtain ⟨o, h1, h2⟩ := ht
  exact slotsOk_dst hs (Array.mem_toList_iff.2 (Array.mem_of_getElem? h1)) t h2

theorem run_ok [Glb] (hs : slotsOk nt ops.toList = true) {Q : Exit → Act → World → Prop} {K : (Nat → AV) → AH → Prop} : ∀ (l : List Oper) (s : Nat → AV) (h : AH) (a : Act) (w : World), (∀ o ∈ l, o ∈ ops.toList) → Rel E nt s h a w →
    aRun P ops K l s h → (∀ s' h' a' w', K s' h' → Rel E nt s' h' a' w' → Q .normal a' w') → wpList P ops Q l a w
  | [], s, h, a, w, _, R, hr, hQ => hQ s h a w hr R
  | o :: l, s, h, a, w, hm, ⟨gs, R⟩, hr, hQ => by
    obtain ⟨x, eff, h1, h2⟩ := hr
    have hd := slotsOk_dst hs (hm o (by simp))
    unfold wpList
    rcases step_ok (Q := Q) R hd (fun j b t _ e => slotsOk_guard hs e) h1 with ⟨hw, hp⟩ | ⟨hw, hp⟩
    · rw [if_pos hw]
      exact .inl (Oper.wp_mono (fun a' w' R' => run_ok hs l _ _ a' w' (fun o ho => hm o (by simp [ho])) R' h2 hQ) hp)
    · rw [if_neg (by simp [hw])]
      exact run_ok hs l _ _ _ w (fun o ho => hm o (by simp [ho])) hp h2 hQ

end

end Go.Am

/- The abstract machine, part 8: a region whose order is drawn: what its text's order gives, every order gives. Generic over the program; no condition. -/
namespace Go.Am
open Go.RowKit

/-! Which objects a value leads to. -/
def AV.ref1 : AV → List Nat
  | .ptr o _ | .rp o _ _ _ | .own o _ | .osub o _ _ _ => [o]
  | .fn _ os => os
  | _ => []
def AV.refs : AV → List Nat
  | .agg xs => xs.flatMap AV.ref1
  | x => x.ref1

theorem RA.ref1_live {w : World} {Z : Nat → Prop} {h : AH} {gs : Gs} {v : Value} {x : AV} (hx : RA w Z h gs v x) : ∀ o ∈ x.ref1, h o ≠ .gone := by
  intro o ho e
  cases hx with
  | fn f cs os hl hh =>
    have ho : o ∈ os := ho
    obtain ⟨i, hi, rfl⟩ := List.getElem_of_mem ho
    obtain ⟨b, K, ty, cells, e1, e2, e3⟩ := hh i hi
    rw [getD_lt hi, e] at e2
    cases e2
  | _ => simp only [AV.ref1, List.mem_singleton, List.not_mem_nil] at ho <;> subst ho <;> simp_all

theorem RA.refs_live {w : World} {Z : Nat → Prop} {h : AH} {gs : Gs} {v : Value} {x : AV} (hx : RA w Z h gs v x) : ∀ o ∈ x.refs, h o ≠ .gone := by
  cases hx with
  | agg cs xs hl ho hh =>
    intro o ho'
    simp only [AV.refs, List.mem_flatMap] at ho'
    obtain ⟨y, hy, hoy⟩ := ho'
    obtain ⟨i, hi, rfl⟩ := List.getElem_of_mem hy
    have := hh i hi
    rw [getD_lt hi] at this
    exact this.ref1_live o hoy
  | c v x hx => exact (RA.c (gs := gs) (h := h) v x hx).ref1_live
  | pim ad xs g hb hlt hc ho hh => exact (RA.pim (gs := gs) (h := h) ad xs g hb hlt hc ho hh).ref1_live
  | ptr o off b K ty cells ho hg => exact (RA.ptr (w := w) (Z := Z) o off b K ty cells ho hg).ref1_live
  | rp ad o L i off ty sz n f ho hL hv => exact (RA.rp (w := w) (Z := Z) ad o L i off ty sz n f ho hL hv).ref1_live
  | own A k c o L ty sz n f ho hL hv => exact (RA.own (w := w) (Z := Z) A k c o L ty sz n f ho hL hv).ref1_live
  | osub A k' c o L off k ty sz n f ho hL hv => exact (RA.osub (w := w) (Z := Z) A k' c o L off k ty sz n f ho hL hv).ref1_live
  | emp A => exact (RA.emp (w := w) (Z := Z) (h := h) (gs := gs) A).ref1_live
  | fn f cs os hl hh => exact (RA.fn (w := w) (Z := Z) f cs os hl hh).ref1_live
  | when v b x hx hu => exact (RA.when (w := w) (Z := Z) (h := h) (gs := gs) v b x hx hu).ref1_live

/-- The same operands, the same objects behind them. -/
structure Agree (op : Op) (e e' : Operand → AV) (h h' : AH) : Prop where
  ops : ∀ y ∈ op.operands, e' y = e y
  objs : ∀ y ∈ op.operands, (e y).wh = true → ∀ o ∈ (e y).strip.refs, h o ≠ .gone → h' o = h o

theorem aop0_congr {P : Program} {op : Op} {e e' : Operand → AV} {G : Bool} {x : AV} (hc : cls op = 0) (he : ∀ y ∈ op.operands, e' y = e y) (hx : aop0 P op e G x) : aop0 P op e' G x := by
  cases op <;> simp only [Op.operands, List.mem_toArray, List.mem_cons, List.not_mem_nil, or_false, forall_eq_or_imp, forall_eq] at he
  case move y => simp only [aop0, he] at hx ⊢; exact hx
  case assign y => simp only [aop0, he] at hx ⊢; exact hx
  case pick c y z => obtain ⟨h1, h2, h3⟩ := he; simp only [aop0, h1, h2, h3] at hx ⊢; exact hx
  case binOp op t y z t2 => obtain ⟨h1, h2⟩ := he; simp only [aop0, h1, h2] at hx ⊢; exact hx
  case unOp op t y => cases op <;> simp only [aop0, he] at hx ⊢ <;> exact hx
  case fieldAddr t y f => simp only [aop0, he] at hx ⊢; exact hx
  case extract y i => simp only [aop0, he] at hx ⊢; exact hx
  case convert t t2 y => simp only [aop0, he] at hx ⊢; exact hx
  case nilCheck y => simp only [aop0, he] at hx ⊢; exact hx
  case index t y z => obtain ⟨h1, h2⟩ := he; simp only [aop0, h1, h2] at hx ⊢; exact hx
  case makeInterface t y => simp only [aop0, he] at hx ⊢; exact hx
  case makeFunc fn first caps =>
    obtain ⟨f, os, rfl, rfl, hw, hm, rfl⟩ := hx
    have hp : ∀ y ∈ caps.toList, e' y = e y := fun y hy => he y (by simpa using hy)
    exact ⟨f, os, rfl, rfl, fun g y hy => by rw [hp y hy]; exact hw g y hy, by rw [List.map_congr_left fun y hy => by rw [hp y hy]]; exact hm, rfl⟩
  case build t parts =>
    have hp : ∀ p ∈ parts.toList, e' p.2 = e p.2 := fun p hp => he _ (List.mem_map.2 ⟨p, hp, rfl⟩)
    simp only [aop0] at hx ⊢
    rw [List.map_congr_left (g := fun p => (p.1, (e p.2).strip)) (fun p hm => by rw [hp p hm])]
    obtain ⟨i, cs, h1, h2, h3, h4, h5, h6, h7, h8⟩ := hx
    exact ⟨i, cs, h1, h2, h3, h4, h5, h6, fun hg p hm => by rw [hp p hm]; exact h7 hg p hm, h8⟩
  case buildSlice t n parts =>
    have hp : ∀ p ∈ parts.toList, e' p.2 = e p.2 := fun p hp => he _ (List.mem_map.2 ⟨p, hp, rfl⟩)
    have hpc : ∀ (l : List (Nat × Operand)) (k sz : Nat), (∀ p ∈ l, e' p.2 = e p.2) → partsC e' l k sz = partsC e l k sz := by
      intro l
      induction l with
      | nil => intros; rfl
      | cons p l ih =>
        intro k sz hl
        obtain ⟨i, y⟩ := p
        simp only [partsC]
        rw [ih (k + 1) sz (fun q hq => hl q (by simp [hq])), hl (i, y) (by simp)]
    simp only [aop0] at hx ⊢
    obtain ⟨i, j, l, h1, h2, h3, h4, h5, h6, h7, h8, h9⟩ := hx
    exact ⟨i, j, l, h1, h2, h3, h4, h5, by rw [hpc _ _ _ hp]; exact h6, h7, fun hg p hm => by rw [hp p hm]; exact h8 hg p hm, h9⟩
  case call c =>
    obtain ⟨callee, args, ats⟩ := c
    cases callee with
    | builtin b =>
      cases b <;> first | exact hx.elim | skip
      obtain ⟨y, z, k, n, m, rfl, h1, h2, h3, h4⟩ := hx
      have hy : e' y = e y := he y (by simp [Call.operands])
      have hz : e' z = e z := he z (by simp [Call.operands])
      exact ⟨y, z, k, n, m, rfl, by rw [hy]; exact h1, by rw [hz]; exact h2, by rw [hy, hz]; exact h3, h4⟩
    | _ => exact hx.elim
  all_goals exact hx.elim

theorem view1_congr {h h' : AH} {x : AV} (hl : x.live1 h = true) (hr : ∀ o ∈ x.ref1, h o ≠ .gone → h' o = h o) : x.view1 h' = x.view1 h ∧ x.live1 h' = true := by
  cases x with
  | own o L =>
    have : h o ≠ .gone := fun e => by simp [AV.live1, e] at hl
    have e := hr o (by simp [AV.ref1]) this
    simp only [AV.view1, AV.live1, e] at hl ⊢
    exact ⟨trivial, hl⟩
  | osub o L off k =>
    have : h o ≠ .gone := fun e => by simp [AV.live1, e] at hl
    have e := hr o (by simp [AV.ref1]) this
    simp only [AV.view1, AV.live1, e] at hl ⊢
    exact ⟨trivial, hl⟩
  | _ => exact ⟨rfl, rfl⟩

theorem view_congr {h h' : AH} {x : AV} (hl : x.live h = true) (hr : ∀ o ∈ x.refs, h o ≠ .gone → h' o = h o) : x.view h' = x.view h ∧ x.live h' = true := by
  cases x with
  | agg xs =>
    simp only [AV.live, List.all_eq_true] at hl
    have hk : ∀ y ∈ xs, y.view1 h' = y.view1 h ∧ y.live1 h' = true := fun y hy => view1_congr (hl y hy) fun o ho => hr o (List.mem_flatMap.2 ⟨y, hy, ho⟩)
    refine ⟨?_, ?_⟩
    · simp only [AV.view]
      rw [List.map_congr_left fun y hy => (hk y hy).1]
    · simp only [AV.live, List.all_eq_true]
      exact fun y hy => (hk y hy).2
  | own o L => exact view1_congr (x := .own o L) hl hr
  | osub o L off k => exact view1_congr (x := .osub o L off k) hl hr
  | _ => exact ⟨rfl, rfl⟩

theorem aop1_congr [Glb] {P : Program} {op : Op} {e e' : Operand → AV} {h h' : AH} {x : AV} (A : Agree op e e' h h') (hx : aop1 P op e h true x) : aop1 P op e' h' true x := by
  cases op with
  | load t y =>
    have hy := A.ops y (by simp [Op.operands])
    obtain ⟨i, h1, h2, h3, h4⟩ := hx
    have hr := A.objs y (by simp [Op.operands]) (h3 rfl)
    refine ⟨i, h1, h2, by rw [hy]; exact h3, ?_⟩
    rw [hy]
    generalize (e y).strip = q at h4 hr
    cases q with
    | ptr o off =>
      obtain ⟨ty, cells, e1, e2⟩ := h4
      exact ⟨ty, cells, (hr o (by simp [AV.refs, AV.ref1]) (by rw [e1]; simp)).trans e1, e2⟩
    | rp o L k off =>
      obtain ⟨ty, sz, n, f, e1, e2⟩ := h4
      exact ⟨ty, sz, n, f, (hr o (by simp [AV.refs, AV.ref1]) (by rw [e1]; simp)).trans e1, e2⟩
    | _ => exact h4
  | indexAddr t y z =>
    have hy := A.ops y (by simp [Op.operands])
    have hz := A.ops z (by simp [Op.operands])
    obtain ⟨i, j, k, n, h1, h2, h3, h4, h5, h6⟩ := hx
    have hr := A.objs y (by simp [Op.operands]) (h5 rfl).1
    refine ⟨i, j, k, n, h1, h2, h3, by rw [hz]; exact h4, by rw [hy, hz]; exact h5, ?_⟩
    rw [hy]
    generalize (e y).strip = q at h6 hr
    cases q with
    | own o L =>
      obtain ⟨ty, sz, m, f, e1, e2⟩ := h6
      exact ⟨ty, sz, m, f, (hr o (by simp [AV.refs, AV.ref1]) (by rw [e1]; simp)).trans e1, e2⟩
    | osub o L off k =>
      obtain ⟨ty, sz, m, f, e1, e2⟩ := h6
      exact ⟨ty, sz, m, f, (hr o (by simp [AV.refs, AV.ref1]) (by rw [e1]; simp)).trans e1, e2⟩
    | c z => cases z <;> exact h6
    | _ => exact h6
  | slice t y lo hi mx =>
    cases mx with
    | some m => exact hx.elim
    | none =>
    have hy := A.ops y (by simp [Op.operands])
    have hlo' : ∀ z, lo = some z → e' z = e z := fun z hz => A.ops z (by simp [Op.operands, hz])
    have hhi' : ∀ z, hi = some z → e' z = e z := fun z hz => A.ops z (by simp [Op.operands, hz])
    obtain ⟨l, hh, h1, h2, h3, h4, h5⟩ := hx
    have hr := A.objs y (by simp [Op.operands]) (h4 rfl).1
    refine ⟨l, hh, fun z hz => by rw [hlo' z hz]; exact h1 z hz, h2, fun z hz => by rw [hhi' z hz]; exact h3 z hz, by rw [hy]; exact h4, ?_⟩
    rw [hy]
    generalize (e y).strip = q at h5 hr
    cases q with
    | own o L =>
      obtain ⟨ty, sz, m, f, e1, e2⟩ := h5
      exact ⟨ty, sz, m, f, (hr o (by simp [AV.refs, AV.ref1]) (by rw [e1]; simp)).trans e1, e2⟩
    | c z =>
      cases z with
      | raw u => cases u <;> exact h5
      | _ => exact h5
    | _ => exact h5
  | call c =>
    obtain ⟨callee, args, ats⟩ := c
    cases callee with
    | builtin b =>
      cases b <;> first | exact hx.elim | skip
      obtain ⟨y, t, rfl, rfl, h1, h2⟩ := hx
      have hy := A.ops y (by simp [Op.operands, Call.operands])
      have hr := A.objs y (by simp [Op.operands, Call.operands]) (h1 rfl)
      refine ⟨y, t, rfl, rfl, by rw [hy]; exact h1, ?_⟩
      rw [hy]
      generalize (e y).strip = q at h2 hr
      cases q with
      | own o L =>
        obtain ⟨e0, ty, sz, m, f, e1, e2⟩ := h2
        exact ⟨e0, ty, sz, m, f, (hr o (by simp [AV.refs, AV.ref1]) (by rw [e1]; simp)).trans e1, e2⟩
      | osub o L off k =>
        obtain ⟨e0, ty, sz, m, f, e1, e2⟩ := h2
        exact ⟨e0, ty, sz, m, f, (hr o (by simp [AV.refs, AV.ref1]) (by rw [e1]; simp)).trans e1, e2⟩
      | c z =>
        cases z with
        | raw u => cases u <;> exact h2
        | _ => exact h2
      | _ => exact h2
    | value f =>
      cases f with
      | func f =>
        obtain ⟨cs, r, h0, h1, h2, h3, h4, h5⟩ := hx
        have hm : ∀ y ∈ args.toList, y ∈ (Op.call ⟨.value (.func f), args, ats⟩).operands := fun y hy => by simp [Op.operands, Call.operands]; exact .inr (by simpa using hy)
        have hy : ∀ y ∈ args.toList, e' y = e y := fun y hy => A.ops y (hm y hy)
        have hv : ∀ y ∈ args.toList, (e y).strip.view h' = (e y).strip.view h ∧ (e y).strip.live h' = true := fun y hy' => view_congr (h0 y hy') (A.objs y (hm y hy') (h2 rfl y hy'))
        refine ⟨cs, r, fun y hy' => by rw [hy y hy']; exact (hv y hy').2, ?_, fun hg y hy' => by rw [hy y hy']; exact h2 hg y hy', h3, ?_, h5⟩
        · rw [List.map_congr_left (g := fun y => (e y).strip.view h) fun y hy' => by rw [hy y hy']; exact (hv y hy').1]
          exact h1
        · rcases h4 with h4 | h4
          · exact .inl h4
          · exact .inr fun y hy' => by rw [hy y hy']; exact h4 y hy'
      | tmp tt =>
        obtain ⟨f, hwt, het, cs, r, h0, h1, h2, h3, h4, h5⟩ := hx
        have hm : ∀ y ∈ args.toList, y ∈ (Op.call ⟨.value (.tmp tt), args, ats⟩).operands := fun y hy => by simp [Op.operands, Call.operands]; exact .inr (by simpa using hy)
        have hy : ∀ y ∈ args.toList, e' y = e y := fun y hy => A.ops y (hm y hy)
        have hv : ∀ y ∈ args.toList, (e y).strip.view h' = (e y).strip.view h ∧ (e y).strip.live h' = true := fun y hy' => view_congr (h0 y hy') (A.objs y (hm y hy') (h2 rfl y hy'))
        have htt : e' (.tmp tt) = e (.tmp tt) := A.ops _ (by simp [Op.operands, Call.operands])
        refine ⟨f, by rw [htt]; exact hwt, by rw [htt]; exact het, cs, r, fun y hy' => by rw [hy y hy']; exact (hv y hy').2, ?_, fun hg y hy' => by rw [hy y hy']; exact h2 hg y hy', h3, ?_, h5⟩
        · rw [List.map_congr_left (g := fun y => (e y).strip.view h) fun y hy' => by rw [hy y hy']; exact (hv y hy').1]
          exact h1
        · rcases h4 with h4 | h4
          · exact .inl h4
          · exact .inr fun y hy' => by rw [hy y hy']; exact h4 y hy'
      | _ => exact hx.elim
    | invoke r m => exact hx.elim
  | _ => exact hx.elim

theorem srcOf_congr {h h' : AH} {x : AV} {r : Nat × Nat × (Nat → List CV)} (hs : srcOf h x = some r) (hr : ∀ o ∈ x.refs, h o ≠ .gone → h' o = h o) : srcOf h' x = some r := by
  cases x with
  | own o L =>
    have : h o ≠ .gone := fun e => by simp [srcOf, e] at hs
    simp only [srcOf, hr o (by simp [AV.refs, AV.ref1]) this] at hs ⊢
    exact hs
  | osub o L off k =>
    have : h o ≠ .gone := fun e => by simp [srcOf, e] at hs
    simp only [srcOf, hr o (by simp [AV.refs, AV.ref1]) this] at hs ⊢
    exact hs
  | c z => cases z <;> exact hs
  | _ => exact hs

theorem aop2_congr {P : Program} {op : Op} {e e' : Operand → AV} {h h' : AH} {d : Option Tmp} {o : Nat} {x' : AObj} {x : AV} (A : Agree op e e' h h') (hd : ∀ o, d = some o → h o = .gone → h' o = .gone) (hx : aop2 P op e h d o x' x) : aop2 P op e' h' d o x' x := by
  cases op with
  | store t y z =>
    have hy := A.ops y (by simp [Op.operands])
    have hz := A.ops z (by simp [Op.operands])
    obtain ⟨h1, i, h2, h3, h4, h5⟩ := hx
    have hr := A.objs y (by simp [Op.operands]) h3
    refine ⟨h1, i, h2, by rw [hy]; exact h3, by rw [hz]; exact h4, ?_⟩
    rw [hy, hz]
    generalize (e y).strip = q at h5 hr
    cases q with
    | ptr o' off =>
      obtain ⟨e0, ty, cells, l, e1, e2⟩ := h5
      exact ⟨e0, ty, cells, l, (hr o' (by simp [AV.refs, AV.ref1]) (by rw [e1]; simp)).trans e1, e2⟩
    | rp o' L k off =>
      obtain ⟨e0, ty, sz, n, f, l, e1, e2⟩ := h5
      exact ⟨e0, ty, sz, n, f, l, (hr o' (by simp [AV.refs, AV.ref1]) (by rw [e1]; simp)).trans e1, e2⟩
    | _ => exact h5
  | call c =>
    obtain ⟨callee, args, ats⟩ := c
    cases callee with
    | builtin b =>
      cases b <;> first | exact hx.elim | skip
      case append =>
        obtain ⟨y, z, t, i, j, sz, m, g, rfl, rfl, h1, h2, h3, h4, h5, h6, h7, h8, h9, h10⟩ := hx
        have hy := A.ops y (by simp [Op.operands, Call.operands])
        have hz := A.ops z (by simp [Op.operands, Call.operands])
        have hr := A.objs y (by simp [Op.operands, Call.operands]) h6
        refine ⟨y, z, t, i, j, sz, m, g, rfl, rfl, h1, h2, h3, h4, h5, by rw [hy]; exact h6, by rw [hz]; exact h7, by rw [hz]; exact srcOf_congr h8 (A.objs z (by simp [Op.operands, Call.operands]) h7), h9, ?_⟩
        rw [hy]
        generalize (e y).strip = q at h10 hr
        cases q with
        | own o' L =>
          obtain ⟨e0, ty, n, f, e1, e2⟩ := h10
          exact ⟨e0, ty, n, f, (hr o' (by simp [AV.refs, AV.ref1]) (by rw [e1]; simp)).trans e1, e2⟩
        | emp =>
          obtain ⟨e0, e1, e2⟩ := h10
          exact ⟨e0, hd o e0 e1, e2⟩
        | _ => exact h10
      case copy =>
        obtain ⟨y, z, t, t2, i, j, sz, m, g, rfl, rfl, h1, h2, h3, h6, h7, h8, h9, h10⟩ := hx
        have hy := A.ops y (by simp [Op.operands, Call.operands])
        have hz := A.ops z (by simp [Op.operands, Call.operands])
        have hr := A.objs y (by simp [Op.operands, Call.operands]) h6
        refine ⟨y, z, t, t2, i, j, sz, m, g, rfl, rfl, h1, h2, h3, by rw [hy]; exact h6, by rw [hz]; exact h7, by rw [hz]; exact srcOf_congr h8 (A.objs z (by simp [Op.operands, Call.operands]) h7), h9, ?_⟩
        rw [hy]
        generalize (e y).strip = q at h10 hr
        cases q with
        | own o' L =>
          obtain ⟨e0, ty, n, f, e1, e2⟩ := h10
          exact ⟨e0, ty, n, f, (hr o' (by simp [AV.refs, AV.ref1]) (by rw [e1]; simp)).trans e1, e2⟩
        | osub o' L off k =>
          obtain ⟨e0, ty, n, f, e1, e2⟩ := h10
          exact ⟨e0, ty, n, f, (hr o' (by simp [AV.refs, AV.ref1]) (by rw [e1]; simp)).trans e1, e2⟩
        | _ => exact h10
    | _ => exact hx.elim
  | _ => exact hx.elim

theorem aop3_congr {P : Program} {op : Op} {e e' : Operand → AV} {d : Nat} {x' : AObj} {x : AV} (he : ∀ y ∈ op.operands, e' y = e y) (hx : aop3 P op e d x' x) : aop3 P op e' d x' x := by
  cases op with
  | box t y => simp only [aop3, he y (by simp [Op.operands])] at hx ⊢; exact hx
  | alloc t => exact hx
  | makeSlice t y z => simp only [aop3, he y (by simp [Op.operands]), he z (by simp [Op.operands])] at hx ⊢; exact hx
  | _ => exact hx.elim

/-- No operation makes an object go. -/
theorem aop2_made {P : Program} {op : Op} {e : Operand → AV} {h : AH} {d : Option Tmp} {o : Nat} {x' : AObj} {x : AV} (hx : aop2 P op e h d o x' x) : x' ≠ .gone := by
  cases op with
  | store t y z =>
    obtain ⟨_, i, _, _, _, h5⟩ := hx
    generalize (e y).strip = q at h5
    cases q with
    | ptr o' off => obtain ⟨_, ty, cells, l, _, _, _, _, rfl⟩ := h5; simp
    | rp o' L k off => obtain ⟨_, ty, sz, n, f, l, _, _, _, _, _, _, rfl⟩ := h5; simp
    | _ => exact h5.elim
  | call c =>
    obtain ⟨callee, args, ats⟩ := c
    cases callee with
    | builtin b =>
      cases b <;> first | exact hx.elim | skip
      case append =>
        obtain ⟨y, z, t, i, j, sz, m, g, _, _, _, _, _, _, _, _, _, _, _, h10⟩ := hx
        generalize (e y).strip = q at h10
        cases q with
        | own o' L => obtain ⟨_, ty, n, f, _, _, _, _, _, rfl, _⟩ := h10; simp
        | emp => obtain ⟨_, _, _, _, rfl, _⟩ := h10; simp
        | _ => exact h10.elim
      case copy =>
        obtain ⟨y, z, t, t2, i, j, sz, m, g, _, _, _, _, _, _, _, _, _, h10⟩ := hx
        generalize (e y).strip = q at h10
        cases q with
        | own o' L => obtain ⟨_, ty, n, f, _, _, rfl, _⟩ := h10; simp
        | osub o' L off k => obtain ⟨_, ty, n, f, _, _, rfl, _⟩ := h10; simp
        | _ => exact h10.elim
    | _ => exact hx.elim
  | _ => exact hx.elim
theorem aop3_made {P : Program} {op : Op} {e : Operand → AV} {d : Nat} {x' : AObj} {x : AV} (hx : aop3 P op e d x' x) : x' ≠ .gone := by
  cases op with
  | box t y => obtain ⟨l, _, _, rfl, _⟩ := hx; simp
  | alloc t => obtain ⟨i, _, _, rfl, _⟩ := hx; simp
  | makeSlice t y z => obtain ⟨i, j, k1, k2, n, _, _, _, _, _, _, _, _, _, _, _, _, rfl, _⟩ := hx; simp
  | _ => exact hx.elim

end Go.Am

/- The abstract machine, part 9: a region whose order is drawn, whole. Generic over the program; no condition. -/
namespace Go.Am
open Go.RowKit

def dstAt (ops : Array Oper) (k : Nat) : Option Tmp := (ops[k]?).bind (·.dst)

/-- The slots after the operations below k of the set L. -/
def SL (ops : Array Oper) (xs : Nat → AV) (s0 : Nat → AV) (L : Nat → Bool) : Nat → Nat → AV
  | 0 => s0
  | k + 1 => if L k then updO (SL ops xs s0 L k) (dstAt ops k) (xs k) else SL ops xs s0 L k
def HL (es : Nat → Option (Nat × AObj)) (h0 : AH) (L : Nat → Bool) : Nat → AH
  | 0 => h0
  | k + 1 => if L k then appE (HL es h0 L k) (es k) else HL es h0 L k

section
variable {ops : Array Oper} {xs : Nat → AV} {es : Nat → Option (Nat × AObj)} {s0 : Nat → AV} {h0 : AH}

theorem updO_ne {s : Nat → AV} {d : Option Tmp} {t : Nat} {x : AV} (hd : ¬ d = some t) : updO s d x t = s t := by
  cases d with
  | none => rfl
  | some d => exact upd_ne _ _ _ _ fun e => hd (by rw [e])

theorem SL_agree {L : Nat → Bool} {i t : Nat} : ∀ k, (∀ j, j < k → dstAt ops j = some t → L j = decide (j < i)) → SL ops xs s0 L k t = SL ops xs s0 (fun _ => true) (min k i) t
  | 0, _ => by simp [SL]
  | k + 1, hk => by
    have ih := SL_agree (L := L) k fun j hj => hk j (by omega)
    by_cases hki : k < i
    · have e1 : min (k + 1) i = k + 1 := by omega
      have e2 : min k i = k := by omega
      rw [e1]
      rw [e2] at ih
      simp only [SL, if_true]
      by_cases hd : dstAt ops k = some t
      · have := hk k (by omega) hd
        rw [this]
        simp only [hki, decide_true, if_true, updO, hd, upd]
      · have hn : ∀ s x, updO s (dstAt ops k) x t = s t := fun s x => updO_ne hd
        rw [hn]
        split
        · rw [hn]; exact ih
        · exact ih
    · have e1 : min (k + 1) i = min k i := by omega
      rw [e1]
      simp only [SL]
      by_cases hd : dstAt ops k = some t
      · have := hk k (by omega) hd
        rw [this]
        simp only [hki, decide_false, Bool.false_eq_true, if_false]
        exact ih
      · have hn : ∀ s x, updO s (dstAt ops k) x t = s t := fun s x => updO_ne hd
        split
        · rw [hn]; exact ih
        · exact ih

def effOn (es : Nat → Option (Nat × AObj)) (j o : Nat) : Prop := ∃ x', es j = some (o, x')

theorem appE_other {h : AH} {e : Option (Nat × AObj)} {o : Nat} (he : ¬ ∃ x', e = some (o, x')) : appE h e o = h o := by
  unfold appE
  split
  · rename_i o' x'
    exact upd_ne _ _ _ _ fun e => he ⟨x', by rw [e]⟩
  · rfl

theorem HL_agree {L : Nat → Bool} {i o : Nat} : ∀ k, (∀ j, j < k → effOn es j o → L j = decide (j < i)) → HL es h0 L k o = HL es h0 (fun _ => true) (min k i) o
  | 0, _ => by simp [HL]
  | k + 1, hk => by
    have ih := HL_agree (L := L) k fun j hj => hk j (by omega)
    by_cases hki : k < i
    · have e1 : min (k + 1) i = k + 1 := by omega
      have e2 : min k i = k := by omega
      rw [e1]
      rw [e2] at ih
      simp only [HL, if_true]
      by_cases hd : effOn es k o
      · have := hk k (by omega) hd
        rw [this]
        obtain ⟨x', hd⟩ := hd
        simp only [hki, decide_true, if_true, appE, hd, upd]
      · rw [appE_other hd]
        split
        · rw [appE_other hd]; exact ih
        · exact ih
    · have e1 : min (k + 1) i = min k i := by omega
      rw [e1]
      simp only [HL]
      by_cases hd : effOn es k o
      · have := hk k (by omega) hd
        rw [this]
        simp only [hki, decide_false, Bool.false_eq_true, if_false]
        exact ih
      · split
        · rw [appE_other hd]; exact ih
        · exact ih

theorem HL_none {L : Nat → Bool} {o : Nat} : ∀ k, (∀ j, j < k → L j = true → ¬ effOn es j o) → HL es h0 L k o = h0 o
  | 0, _ => rfl
  | k + 1, hk => by
    simp only [HL]
    split
    · rename_i hl
      rw [appE_other (hk k (by omega) hl)]
      exact HL_none k fun j hj => hk j (by omega)
    · exact HL_none k fun j hj => hk j (by omega)

theorem HL_some {L : Nat → Bool} {o : Nat} : ∀ k, (∀ j x', j < k → es j = some (o, x') → x' ≠ .gone) → (h0 o ≠ .gone ∨ ∃ j, j < k ∧ L j = true ∧ effOn es j o) → HL es h0 L k o ≠ .gone
  | 0, _, hk => by
    rcases hk with hk | ⟨j, hj, _⟩
    · exact hk
    · omega
  | k + 1, hm, hk => by
    have ih := HL_some (L := L) k fun j x' hj => hm j x' (by omega)
    simp only [HL]
    by_cases hl : L k = true
    · rw [if_pos hl]
      by_cases hd : effOn es k o
      · obtain ⟨x', hd⟩ := hd
        rw [hd]
        simp only [appE, upd_same]
        exact hm k x' (by omega) hd
      · rw [appE_other hd]
        refine ih ?_
        rcases hk with hk | ⟨j, hj, hlj, he⟩
        · exact .inl hk
        · refine .inr ⟨j, ?_, hlj, he⟩
          rcases Nat.lt_or_ge j k with h1 | h1
          · exact h1
          · have : j = k := by omega
            subst this
            exact absurd he hd
    · rw [if_neg hl]
      refine ih ?_
      rcases hk with hk | ⟨j, hj, hlj, he⟩
      · exact .inl hk
      · refine .inr ⟨j, ?_, hlj, he⟩
        rcases Nat.lt_or_ge j k with h1 | h1
        · exact h1
        · have : j = k := by omega
          subst this
          exact absurd hlj hl

/-- One more operation joins the set. -/
theorem SL_join {L : Nat → Bool} {i : Nat} : ∀ k, (∀ j, i < j → j < k → ∀ t, dstAt ops i = some t → dstAt ops j = some t → L j = false) → L i = false →
    SL ops xs s0 (fun j => decide (j = i) || L j) k = if i < k then updO (SL ops xs s0 L k) (dstAt ops i) (xs i) else SL ops xs s0 L k
  | 0, _, _ => by simp [SL]
  | k + 1, hk, hi => by
    have ih := SL_join (L := L) (i := i) k (fun j h1 h2 => hk j h1 (by omega)) hi
    simp only [SL]
    by_cases hki : k = i
    · subst hki
      rw [if_neg (Nat.lt_irrefl _)] at ih
      simp only [decide_true, Bool.true_or, if_true, hi, Bool.false_eq_true, if_false, Nat.lt_succ_self, ih]
    · simp only [hki, decide_false, Bool.false_or]
      rw [ih]
      by_cases hik : i < k
      · have hik1 : i < k + 1 := by omega
        simp only [hik, hik1, if_true]
        by_cases hl : L k = true
        · simp only [hl, if_true]
          cases hdi : dstAt ops i with
          | none => rfl
          | some t =>
            cases hdk : dstAt ops k with
            | none => rfl
            | some u =>
              have hne : u ≠ t := fun e => by
                have := hk k hik (by omega) t hdi (by rw [hdk, e])
                rw [this] at hl
                cases hl
              simp only [updO]
              funext q
              simp only [upd]
              by_cases h1 : q = u <;> by_cases h2 : q = t <;> simp_all
        · simp only [hl, if_false, Bool.false_eq_true]
      · have hik1 : ¬ i < k + 1 := by omega
        simp only [hik, hik1, if_false]

theorem HL_join {L : Nat → Bool} {i : Nat} : ∀ k, (∀ j, i < j → j < k → ∀ o, effOn es i o → effOn es j o → L j = false) → L i = false →
    HL es h0 (fun j => decide (j = i) || L j) k = if i < k then appE (HL es h0 L k) (es i) else HL es h0 L k
  | 0, _, _ => by simp [HL]
  | k + 1, hk, hi => by
    have ih := HL_join (L := L) (i := i) k (fun j h1 h2 => hk j h1 (by omega)) hi
    simp only [HL]
    by_cases hki : k = i
    · subst hki
      rw [if_neg (Nat.lt_irrefl _)] at ih
      simp only [decide_true, Bool.true_or, if_true, hi, Bool.false_eq_true, if_false, Nat.lt_succ_self, ih]
    · simp only [hki, decide_false, Bool.false_or]
      rw [ih]
      by_cases hik : i < k
      · have hik1 : i < k + 1 := by omega
        simp only [hik, hik1, if_true]
        by_cases hl : L k = true
        · simp only [hl, if_true]
          cases hdi : es i with
          | none => rfl
          | some t =>
            cases hdk : es k with
            | none => rfl
            | some u =>
              obtain ⟨o1, x1⟩ := t
              obtain ⟨o2, x2⟩ := u
              have hne : o2 ≠ o1 := fun e => by
                have := hk k hik (by omega) o1 ⟨x1, hdi⟩ ⟨x2, by rw [hdk, e]⟩
                rw [this] at hl
                cases hl
              simp only [appE]
              funext q
              simp only [upd]
              by_cases h1 : q = o2 <;> by_cases h2 : q = o1 <;> simp_all
        · simp only [hl, if_false, Bool.false_eq_true]
      · have hik1 : ¬ i < k + 1 := by omega
        simp only [hik, hik1, if_false]
end

/-- The text's own run, written out. -/
theorem trace [Glb] {P : Program} {ops : Array Oper} {K : (Nat → AV) → AH → Prop} : ∀ (l : List Oper) (k0 : Nat) (s : Nat → AV) (h : AH), (∀ k, l[k]? = ops[k0 + k]?) → aRun P ops K l s h →
    ∃ (xs : Nat → AV) (es : Nat → Option (Nat × AObj)) (S : Nat → Nat → AV) (H : Nat → AH), S k0 = s ∧ H k0 = h ∧
      (∀ k o, l[k]? = some o → aStep P ops o (S (k0 + k)) (H (k0 + k)) (xs (k0 + k)) (es (k0 + k)) ∧ S (k0 + k + 1) = updO (S (k0 + k)) o.dst (xs (k0 + k)) ∧ H (k0 + k + 1) = appE (H (k0 + k)) (es (k0 + k))) ∧ K (S (k0 + l.length)) (H (k0 + l.length))
  | [], k0, s, h, _, hr => ⟨fun _ => default, fun _ => none, fun _ => s, fun _ => h, rfl, rfl, fun k o e => by simp at e, hr⟩
  | o :: l, k0, s, h, hl, hr => by
    obtain ⟨x, eff, h1, h2⟩ := hr
    obtain ⟨xs, es, S, H, e1, e2, e3, e4⟩ := trace l (k0 + 1) (updO s o.dst x) (appE h eff) (fun k => by have := hl (k + 1); rw [show k0 + 1 + k = k0 + (k + 1) by omega, ← this]; rfl) h2
    refine ⟨fun k => if k = k0 then x else xs k, fun k => if k = k0 then eff else es k, fun k => if k ≤ k0 then s else S k, fun k => if k ≤ k0 then h else H k, by simp, by simp, fun k o' ho' => ?_, ?_⟩
    · cases k with
      | zero =>
        simp only [List.getElem?_cons_zero, Option.some.injEq] at ho'
        subst ho'
        have h3 : ¬ (k0 + 1 ≤ k0) := by omega
        simp only [Nat.add_zero, Nat.le_refl, if_true, h3, if_false, e1, e2]
        exact ⟨h1, trivial, trivial⟩
      | succ k =>
        have := e3 k o' (by simpa using ho')
        rw [show k0 + 1 + k = k0 + (k + 1) by omega] at this
        have h3 : ¬ (k0 + (k + 1) ≤ k0) := by omega
        have h4 : ¬ (k0 + (k + 1) + 1 ≤ k0) := by omega
        have h5 : ¬ (k0 + (k + 1) = k0) := by omega
        simp only [h3, h4, h5, if_false]
        exact this
    · have h3 : ¬ (k0 + (o :: l).length ≤ k0) := by simp
      simp only [h3, if_false]
      rw [show k0 + (o :: l).length = k0 + 1 + l.length by simp; omega]
      exact e4

/-! The static look at a region. -/
def maskOf (acc : List Nat) (es : List Edge) : Nat :=
  es.foldl (fun m e => if Region.binds .any e && decide (e.on < acc.length) then (m ||| acc.getD e.on 0) ||| (1 <<< e.on) else m) 0
def masks : List Oper → List Nat → List Nat
  | [], acc => acc
  | o :: r, acc => masks r (acc ++ [maskOf acc o.after.toList])

theorem maskOf_bit {acc : List Nat} {i : Nat} : ∀ (es : List Edge) (m : Nat), (es.foldl (fun m e => if Region.binds .any e && decide (e.on < acc.length) then (m ||| acc.getD e.on 0) ||| (1 <<< e.on) else m) m).testBit i = true →
    m.testBit i = true ∨ ∃ e ∈ es, Region.binds .any e = true ∧ e.on < acc.length ∧ (i = e.on ∨ (acc.getD e.on 0).testBit i = true)
  | [], m, h => .inl h
  | e :: es, m, h => by
    simp only [List.foldl_cons] at h
    rcases maskOf_bit es _ h with h1 | ⟨e', h1, h2⟩
    · split at h1
      · rename_i hb
        simp only [Bool.and_eq_true, decide_eq_true_eq] at hb
        simp only [Nat.testBit_or, Bool.or_eq_true] at h1
        rcases h1 with (h1 | h1) | h1
        · exact .inl h1
        · exact .inr ⟨e, by simp, hb.1, hb.2, .inr h1⟩
        · refine .inr ⟨e, by simp, hb.1, hb.2, .inl ?_⟩
          rw [Nat.shiftLeft_eq, Nat.one_mul, Nat.testBit_two_pow] at h1
          have := of_decide_eq_true h1
          omega
      · exact .inl h1
    · exact .inr ⟨e', by simp [h1], h2⟩

theorem masks_get : ∀ (l : List Oper) (acc : List Nat), (masks l acc).length = acc.length + l.length ∧ (∀ k, k < acc.length → (masks l acc).getD k 0 = acc.getD k 0) ∧
    ∀ k o, l[k]? = some o → (masks l acc).getD (acc.length + k) 0 = maskOf ((masks l acc).take (acc.length + k)) o.after.toList
  | [], acc => ⟨by simp [masks], fun _ _ => rfl, fun k o e => by simp at e⟩
  | o :: l, acc => by
    obtain ⟨h1, h2, h3⟩ := masks_get l (acc ++ [maskOf acc o.after.toList])
    simp only [masks]
    refine ⟨by rw [h1]; simp; omega, fun k hk => ?_, fun k o' ho' => ?_⟩
    · rw [h2 k (by simp; omega)]
      simp [List.getD_eq_getElem?_getD, List.getElem?_append_left hk]
    · cases k with
      | zero =>
        simp only [List.getElem?_cons_zero, Option.some.injEq] at ho'
        subst ho'
        rw [Nat.add_zero, h2 acc.length (by simp)]
        have ht : (masks l (acc ++ [maskOf acc o.after.toList])).take acc.length = acc := by
          apply List.ext_getElem?
          intro q
          rw [List.getElem?_take]
          split
          · rename_i hq
            have := h2 q (by simp; omega)
            rw [List.getD_eq_getElem?_getD, List.getD_eq_getElem?_getD, List.getElem?_append_left hq] at this
            have hq2 : q < (masks l (acc ++ [maskOf acc o.after.toList])).length := by rw [h1]; simp; omega
            rw [List.getElem?_eq_getElem hq2, List.getElem?_eq_getElem hq] at this ⊢
            simp only [Option.getD_some] at this
            rw [this]
          · rename_i hq
            rw [List.getElem?_eq_none (by omega)]
        rw [ht]
        simp [List.getD_eq_getElem?_getD]
      | succ k =>
        have := h3 k o' (by simpa using ho')
        simp only [List.length_append, List.length_cons, List.length_nil] at this
        rw [show acc.length + 0 + 1 + k = acc.length + (k + 1) by omega] at this
        exact this

/-- Two operations whose order must be fixed: by a slot; by an object. -/
def confS (ops : Array Oper) (x y : Oper) : Bool :=
  (match x.dst with | some d => (y.looksAt ops).contains d || y.dst == some d | none => false) ||
  (match y.dst with | some d => (x.looksAt ops).contains d | none => false)
def confC (x y : Oper) : Bool := (cls x.op == 2 && decide (1 ≤ cls y.op)) || (cls y.op == 2 && decide (1 ≤ cls x.op))
/-- The pairs of 'free' (a write, a look) are known to touch no object in common. -/
def conf (free : List (Nat × Nat)) (ops : Array Oper) (i j : Nat) (x y : Oper) : Bool := confS ops x y || (confC x y && !(free.contains (i, j) || free.contains (j, i)))

/-- What is asked of the pairs by the text alone. -/
def freeStat (free : List (Nat × Nat)) (ops : Array Oper) : Bool := free.all fun p => match ops[p.1]?, ops[p.2]? with
  | some x, some y => cls y.op == 1 && (match x.op with
    | .store _ (.tmp t) _ => ((List.range ops.size).all fun q => !decide (p.1 ≤ q) || !((ops[q]?).bind (·.dst) == some t)) &&
        (y.op.operands.toList.all fun z => match z with | .tmp u => ((List.range ops.size).all fun q => !decide (p.2 ≤ q) || !((ops[q]?).bind (·.dst) == some u)) | _ => true)
    | _ => false)
  | _, _ => false

/-- The region's edges fix the order of every two operations that must be in order. -/
def drawOkF (free : List (Nat × Nat)) (ops : Array Oper) : Bool :=
  let l := ops.toList
  let M := masks l []
  (l.zipIdx.all fun p => (p.1.after.toList.all fun e => !Region.binds .any e || decide (e.on < p.2)) && l.zipIdx.all fun q => !decide (q.2 < p.2) || !conf free ops q.2 p.2 q.1 p.1 || (M.getD p.2 0).testBit q.2) &&
  freeStat free ops
def drawOk (ops : Array Oper) : Bool := drawOkF [] ops

theorem drawOk_spec {free : List (Nat × Nat)} {ops : Array Oper} (hd : drawOkF free ops = true) : (∀ i o e, ops[i]? = some o → e ∈ o.after.toList → Region.binds .any e = true → e.on < i) ∧
    (∀ i j x y, j < i → ops[i]? = some x → ops[j]? = some y → conf free ops j i y x = true → ((masks ops.toList []).getD i 0).testBit j = true) := by
  simp only [drawOkF, Bool.and_eq_true, List.all_eq_true, Bool.or_eq_true, decide_eq_true_eq, Bool.not_eq_true'] at hd
  obtain ⟨h1, _⟩ := hd
  have mem : ∀ i o, ops[i]? = some o → (o, i) ∈ ops.toList.zipIdx := fun i o h => by
    rw [List.mem_zipIdx_iff_getElem?]
    simpa using h
  refine ⟨fun i o e hi he hb => ?_, fun i j x y hji hi hj hc => ?_⟩
  · rcases (h1 _ (mem i o hi)).1 e he with h | h
    · rw [hb] at h; cases h
    · exact h
  · rcases (h1 _ (mem i x hi)).2 _ (mem j y hj) with (h | h) | h
    · simp at h; omega
    · rw [hc] at h; cases h
    · exact h

theorem drawOk_free {free : List (Nat × Nat)} {ops : Array Oper} (hd : drawOkF free ops = true) : freeStat free ops = true := by
  simp only [drawOkF, Bool.and_eq_true] at hd
  exact hd.2

/-- The pairs of 'free', by their text. -/
theorem freeStat_spec {free : List (Nat × Nat)} {ops : Array Oper} (hd : freeStat free ops = true) {k j : Nat} (hp : (k, j) ∈ free) : ∃ x y t T z, ops[k]? = some x ∧ ops[j]? = some y ∧ cls y.op = 1 ∧ x.op = .store T (.tmp t) z ∧
    (∀ q, q < ops.size → k ≤ q → (ops[q]?).bind (·.dst) ≠ some t) ∧ ∀ u, Operand.tmp u ∈ y.op.operands → ∀ q, q < ops.size → j ≤ q → (ops[q]?).bind (·.dst) ≠ some u := by
  unfold freeStat at hd
  rw [List.all_eq_true] at hd
  have h := hd (k, j) hp
  dsimp only at h
  split at h
  · rename_i x y hx hy
    rw [Bool.and_eq_true, beq_iff_eq] at h
    obtain ⟨h1, h2⟩ := h
    split at h2
    · rename_i T t z hop
      rw [Bool.and_eq_true, List.all_eq_true, List.all_eq_true] at h2
      refine ⟨x, y, t, T, z, hx, hy, h1, hop, fun q hq hkq e => ?_, fun u hu q hq hjq e => ?_⟩
      · have := h2.1 q (List.mem_range.2 hq)
        rw [e] at this
        simp [hkq] at this
      · have := h2.2 (.tmp u) (Array.mem_toList_iff.2 hu)
        dsimp only at this
        rw [List.all_eq_true] at this
        have := this q (List.mem_range.2 hq)
        rw [e] at this
        simp [hjq] at this
    · cases h2
  · cases h

/-- Closed under the edges: closed under the masks. -/
theorem closed_masks {ops : Array Oper} {L : Nat → Bool} (hcl : ∀ i o e, ops[i]? = some o → L i = true → e ∈ o.after.toList → Region.binds .any e = true → L e.on = true) :
    ∀ i, L i = true → ∀ j, ((masks ops.toList []).getD i 0).testBit j = true → L j = true ∧ j < i := by
  intro i
  induction i using Nat.strongRecOn with
  | _ i ih =>
    intro hi j hj
    obtain ⟨h1, -, h3⟩ := masks_get ops.toList []
    simp only [List.length_nil, Nat.zero_add] at h1 h3
    cases ho : ops[i]? with
    | none =>
      have : i ≥ (masks ops.toList []).length := by
        rw [h1, Array.length_toList]
        exact Array.getElem?_eq_none_iff.1 ho
      rw [List.getD_eq_getElem?_getD, List.getElem?_eq_none this] at hj
      simp at hj
    | some o =>
      have ho' : ops.toList[i]? = some o := by simpa using ho
      rw [h3 i o ho'] at hj
      rcases maskOf_bit o.after.toList 0 hj with hb | ⟨e, e1, e2, e3, e4⟩
      · simp at hb
      · have hlt : e.on < i := by
          rw [List.length_take] at e3
          omega
        have hLe := hcl i o e ho hi e1 e2
        rcases e4 with rfl | e4
        · exact ⟨hLe, hlt⟩
        · have e5 : ((masks ops.toList []).take i).getD e.on 0 = (masks ops.toList []).getD e.on 0 := by
            simp only [List.getD_eq_getElem?_getD]
            rw [List.getElem?_take, if_pos hlt]
          rw [e5] at e4
          have := ih e.on hlt hLe j e4
          exact ⟨this.1, by omega⟩

end Go.Am

/- The abstract machine, part 10: a region whose order is drawn gives what its text's order gives. Generic over the program; no condition. -/
namespace Go.Am
open Go.RowKit

theorem confS_symm {ops : Array Oper} {x y : Oper} (h : confS ops x y = true) : confS ops y x = true := by
  unfold confS at h ⊢
  simp only [Bool.or_eq_true] at h ⊢
  rcases h with h | h
  · cases hx : x.dst with
    | none => rw [hx] at h; cases h
    | some d =>
      rw [hx] at h
      simp only [Bool.or_eq_true, beq_iff_eq] at h
      rcases h with h | h
      · exact .inr h
      · rw [h]
        simp
  · cases hy : y.dst with
    | none => rw [hy] at h; cases h
    | some d =>
      rw [hy] at h
      refine .inl ?_
      simp only [Bool.or_eq_true]
      exact .inl h
theorem confC_symm {x y : Oper} (h : confC x y = true) : confC y x = true := by
  unfold confC at h ⊢
  rw [Bool.or_comm]
  exact h
theorem conf_symm {free : List (Nat × Nat)} {ops : Array Oper} {i j : Nat} {x y : Oper} (h : conf free ops i j x y = true) : conf free ops j i y x = true := by
  unfold conf at h ⊢
  rw [Bool.or_eq_true, Bool.and_eq_true] at h ⊢
  rcases h with h | ⟨h1, h2⟩
  · exact .inl (confS_symm h)
  · refine .inr ⟨confC_symm h1, ?_⟩
    rw [Bool.or_comm]
    exact h2

theorem step_eff [Glb] {P : Program} {ops : Array Oper} {o : Oper} {s : Nat → AV} {h : AH} {x : AV} {ob : Nat} {x' : AObj} (hx : aStep P ops o s h x (some (ob, x'))) :
    x' ≠ .gone ∧ o.guard = none ∧ (cls o.op = 2 ∨ (3 ≤ cls o.op ∧ o.dst = some ob ∧ h ob = .gone)) := by
  unfold aStep at hx
  split at hx
  · rename_i hg
    unfold aEx at hx
    split at hx
    · exact absurd hx.2 (by simp)
    · exact absurd hx.2 (by simp)
    · rename_i hc
      obtain ⟨ob', x'', h1, h2⟩ := hx
      simp only [Option.some.injEq, Prod.mk.injEq] at h2
      obtain ⟨rfl, rfl⟩ := h2
      exact ⟨aop2_made h1, hg, .inl hc⟩
    · rename_i n0 n1 n2
      obtain ⟨d, x'', h1, h2, h3, h4⟩ := hx
      simp only [Option.some.injEq, Prod.mk.injEq] at h4
      obtain ⟨rfl, rfl⟩ := h4
      refine ⟨aop3_made h3, hg, .inr ⟨?_, h1, h2⟩⟩
      have a0 : cls o.op ≠ 0 := n0
      have a1 : cls o.op ≠ 1 := n1
      have a2 : cls o.op ≠ 2 := n2
      omega
  · exact absurd hx.1 (by simp)

section
variable {E : Env} {nt : Nat} {P : Program} {ops : Array Oper} {xs : Nat → AV} {es : Nat → Option (Nat × AObj)} {s0 : Nat → AV} {h0 : AH} {free : List (Nat × Nat)}

/-- The set of what has been carried out. -/
def lset (listed : Array Bool) : Nat → Bool := fun j => listed.getD j false

structure Ord (free : List (Nat × Nat)) (ops : Array Oper) (L : Nat → Bool) (i : Nat) : Prop where
  out : L i = false
  ord : ∀ j x y, ops[j]? = some x → ops[i]? = some y → j ≠ i → conf free ops j i x y = true → (j < i → L j = true) ∧ (i < j → L j = false)
  closed : ∀ i o e, ops[i]? = some o → L i = true → e ∈ o.after.toList → Region.binds .any e = true → L e.on = true
  all : ∀ j k x y, ops[j]? = some x → ops[k]? = some y → j < k → conf free ops j k x y = true → L k = true → L j = true

theorem Ord.make (hd : drawOkF free ops = true) {L : Nat → Bool} {i : Nat} {o : Oper} (ho : ops[i]? = some o) (hi : L i = false)
    (hcl : ∀ i o e, ops[i]? = some o → L i = true → e ∈ o.after.toList → Region.binds .any e = true → L e.on = true) (hre : ∀ e ∈ o.after.toList, Region.binds .any e = true → L e.on = true) : Ord free ops L i := by
  obtain ⟨d1, d2⟩ := drawOk_spec hd
  refine ⟨hi, fun j x y hj hy hji hc => ⟨fun hlt => ?_, fun hlt => ?_⟩, hcl, fun j k x y hj hk hjk hc hl => ?_⟩
  · have hb := d2 i j y x hlt hy hj hc
    have hcl' : ∀ i' o' e, ops[i']? = some o' → (decide (i' = i) || L i') = true → e ∈ o'.after.toList → Region.binds .any e = true → (decide (e.on = i) || L e.on) = true := by
      intro i' o' e h1 h2 h3 h4
      simp only [Bool.or_eq_true, decide_eq_true_eq] at h2 ⊢
      rcases h2 with rfl | h2
      · rw [ho] at h1
        injection h1 with h1
        subst h1
        exact .inr (hre e h3 h4)
      · exact .inr (hcl i' o' e h1 h2 h3 h4)
    have := (closed_masks (L := fun j => decide (j = i) || L j) hcl' i (by simp) j hb).1
    simp only [Bool.or_eq_true, decide_eq_true_eq] at this
    rcases this with h | h
    · omega
    · exact h
  · cases hl : L j with
    | false => rfl
    | true =>
      have hb := d2 j i x y hlt hj hy (conf_symm hc)
      have := (closed_masks hcl j hl i hb).1
      rw [hi] at this
      cases this
  · have hb := d2 k j y x hjk hk hj hc
    exact (closed_masks hcl k hl j hb).1

theorem conf_dst {i j : Nat} {x y : Oper} {d : Tmp} (hx : x.dst = some d) (hy : y.dst = some d) : conf free ops i j x y = true := by
  unfold conf confS
  simp [hx, hy]
theorem conf_look {i j : Nat} {x y : Oper} {d : Tmp} (hx : x.dst = some d) (hy : d ∈ y.looksAt ops) : conf free ops i j x y = true := by
  unfold conf confS
  simp [hx, hy]
theorem conf_cls {i j : Nat} {x y : Oper} (hx : cls x.op = 2) (hy : 1 ≤ cls y.op) (h1 : (i, j) ∉ free) (h2 : (j, i) ∉ free) : conf free ops i j x y = true := by
  unfold conf confC
  simp [hx, hy, h1, h2]

/-- Of a pair of 'free' the second only looks. -/
theorem free_cls (hf : freeStat free ops = true) {i j : Nat} {y : Oper} (hj : ops[j]? = some y) (hy : 2 ≤ cls y.op) : (i, j) ∉ free := fun h => by
  obtain ⟨x', y', t, T, z, h1, h2, h3, _⟩ := freeStat_spec hf h
  rw [hj] at h2
  injection h2 with h2
  subst h2
  omega

/-- What the text's own run says of operation k. -/
def Texts [Glb] (P : Program) (ops : Array Oper) (xs : Nat → AV) (es : Nat → Option (Nat × AObj)) (s0 : Nat → AV) (h0 : AH) : Prop :=
  ∀ k o, ops[k]? = some o → aStep P ops o (SL ops xs s0 (fun _ => true) k) (HL es h0 (fun _ => true) k) (xs k) (es k)

theorem lt_of_some {i : Nat} {o : Oper} (h : ops[i]? = some o) : i < ops.size := by
  rcases Nat.lt_or_ge i ops.size with h1 | h1
  · exact h1
  · rw [Array.getElem?_eq_none h1] at h; cases h

/-- Two operations that touch one object. -/
theorem eff_conf [Glb] (hf : freeStat free ops = true) (T : Texts P ops xs es s0 h0) {i j ob : Nat} {x y : Oper} (hi : ops[i]? = some x) (hj : ops[j]? = some y) (e1 : effOn es i ob) (e2 : effOn es j ob) : conf free ops i j x y = true := by
  obtain ⟨x1, e1⟩ := e1
  obtain ⟨x2, e2⟩ := e2
  have t1 := T i x hi
  have t2 := T j y hj
  rw [e1] at t1
  rw [e2] at t2
  obtain ⟨_, _, h1⟩ := step_eff t1
  obtain ⟨_, _, h2⟩ := step_eff t2
  have c1 : 2 ≤ cls x.op := by rcases h1 with h1 | ⟨h1, _⟩ <;> omega
  have c2 : 2 ≤ cls y.op := by rcases h2 with h2 | ⟨h2, _⟩ <;> omega
  rcases h1 with h1 | ⟨h1, d1, _⟩
  · exact conf_cls h1 (by omega) (free_cls hf hj c2) (free_cls hf hi c1)
  · rcases h2 with h2 | ⟨h2, d2, _⟩
    · exact conf_symm (conf_cls h2 (by omega) (free_cls hf hi c1) (free_cls hf hj c2))
    · exact conf_dst d1 d2

theorem made_of [Glb] (T : Texts P ops xs es s0 h0) {k ob : Nat} (hk : k ≤ ops.size) : ∀ j x', j < k → es j = some (ob, x') → x' ≠ .gone := by
  intro j x' hj he
  have ho : ops[j]? = some ops[j] := Array.getElem?_eq_getElem (by omega)
  have t := T j _ ho
  rw [he] at t
  exact (step_eff t).1

/-- At the text's time nothing was there: nothing is there now. -/
theorem gone_of [Glb] (hf : freeStat free ops = true) (T : Texts P ops xs es s0 h0) {L : Nat → Bool} {i ob : Nat} {o : Oper} (O : Ord free ops L i) (hi : ops[i]? = some o) (hg : HL es h0 (fun _ => true) i ob = .gone)
    (hc : 2 ≤ cls o.op) (hdst : o.dst = some ob) : HL es h0 L ops.size ob = .gone := by
  have hlt := lt_of_some hi
  have hno : ∀ j, j < i → ¬ effOn es j ob := fun j hj he => HL_some (L := fun _ => true) i (made_of T (by omega)) (.inr ⟨j, hj, rfl, he⟩) hg
  have h00 : h0 ob = .gone := by
    rw [← HL_none (es := es) (h0 := h0) (L := fun _ => true) i (fun j hj _ => hno j hj)]
    exact hg
  rw [HL_none ops.size (fun j hj hl he => ?_), h00]
  have hjo : ops[j]? = some ops[j] := Array.getElem?_eq_getElem hj
  by_cases hji : j = i
  · subst hji
    rw [O.out] at hl
    cases hl
  · have hcf : conf free ops j i ops[j] o = true := by
      obtain ⟨x', he'⟩ := he
      have t := T j _ hjo
      rw [he'] at t
      obtain ⟨_, _, h1⟩ := step_eff t
      rcases h1 with h1 | ⟨h1, d1, _⟩
      · exact conf_cls h1 (by omega) (free_cls hf hi hc) (free_cls hf hjo (by omega))
      · exact conf_dst d1 hdst
    have := O.ord j _ _ hjo hi hji hcf
    rcases Nat.lt_or_gt_of_ne hji with h1 | h1
    · exact hno j h1 he
    · rw [this.2 h1] at hl
      cases hl

/-- The pairs of 'free' touch no object in common. -/
def FreeOk (free : List (Nat × Nat)) (ops : Array Oper) (xs : Nat → AV) (es : Nat → Option (Nat × AObj)) (s0 : Nat → AV) : Prop :=
  ∀ k j ob y, (k, j) ∈ free → effOn es k ob → ops[j]? = some y → ∀ z ∈ y.op.operands, ob ∉ (ev (SL ops xs s0 (fun _ => true) j) z).strip.refs

/-- An object that the operation looks at is what it was at the text's time. -/
theorem objs_agree [Glb] (hf : freeStat free ops = true) (F : FreeOk free ops xs es s0) (T : Texts P ops xs es s0 h0) {L : Nat → Bool} {i ob : Nat} {o : Oper} (O : Ord free ops L i) (hi : ops[i]? = some o) (hc : 1 ≤ cls o.op) {z : Operand} (hz : z ∈ o.op.operands) (hob : ob ∈ (ev (SL ops xs s0 (fun _ => true) i) z).strip.refs) (h1 : HL es h0 L ops.size ob ≠ .gone) (h2 : HL es h0 (fun _ => true) i ob ≠ .gone) :
    HL es h0 L ops.size ob = HL es h0 (fun _ => true) i ob := by
  have hlt := lt_of_some hi
  have := HL_agree (es := es) (h0 := h0) (L := L) (i := i) (o := ob) ops.size fun j hj he => ?_
  · rw [Nat.min_eq_right (by omega)] at this
    exact this
  · have hjo : ops[j]? = some ops[j] := Array.getElem?_eq_getElem hj
    obtain ⟨x', he'⟩ := he
    have t := T j _ hjo
    rw [he'] at t
    obtain ⟨_, _, h3⟩ := step_eff t
    by_cases hji : j = i
    · subst hji
      rw [O.out]
      simp
    · rcases h3 with h3 | ⟨h3, d3, g3⟩
      · have := O.ord j _ _ hjo hi hji (conf_cls h3 hc (fun hm => F j i ob o hm ⟨x', he'⟩ hi z hz hob) (free_cls hf hjo (by omega)))
        rcases Nat.lt_or_gt_of_ne hji with h4 | h4
        · rw [this.1 h4]; simp [h4]
        · rw [this.2 h4]
          have : ¬ j < i := by omega
          simp [this]
      · have hno : ∀ q, q < j → ¬ effOn es q ob := fun q hq he => HL_some (L := fun _ => true) j (made_of T (by omega)) (.inr ⟨q, hq, rfl, he⟩) g3
        have h00 : h0 ob = .gone := by
          rw [← HL_none (es := es) (h0 := h0) (L := fun _ => true) j (fun q hq _ => hno q hq)]
          exact g3
        rcases Nat.lt_or_gt_of_ne hji with h4 | h4
        · cases hl : L j with
          | true => simp [h4]
          | false =>
            exfalso
            apply h1
            rw [HL_none ops.size (fun q hq hlq heq => ?_), h00]
            have hqo : ops[q]? = some ops[q] := Array.getElem?_eq_getElem hq
            rcases Nat.lt_trichotomy q j with h5 | h5 | h5
            · exact hno q h5 heq
            · subst h5
              rw [hl] at hlq
              cases hlq
            · have := O.all j q _ _ hjo hqo h5 (eff_conf hf T hjo hqo ⟨x', he'⟩ heq) hlq
              rw [hl] at this
              cases this
        · exfalso
          apply h2
          rw [HL_none i (fun q hq _ => hno q (by omega)), h00]


theorem looks_operand {o : Oper} {t : Tmp} (h : Operand.tmp t ∈ o.op.operands) : t ∈ o.looksAt ops := by
  unfold Oper.looksAt
  exact List.mem_append_left _ (List.mem_filterMap.2 ⟨.tmp t, by simpa using h, rfl⟩)
theorem looks_guard {o : Oper} {j : Nat} {b : Bool} {t : Tmp} (hg : o.guard = some (j, b)) (ht : (ops[j]?).bind (·.dst) = some t) : t ∈ o.looksAt ops := by
  unfold Oper.looksAt
  rw [hg]
  simp [ht]

/-- A slot that the operation looks at is what it was at the text's time. -/
theorem slots_agree {L : Nat → Bool} {i t : Nat} {o : Oper} (O : Ord free ops L i) (hi : ops[i]? = some o) (ht : t ∈ o.looksAt ops) : SL ops xs s0 L ops.size t = SL ops xs s0 (fun _ => true) i t := by
  have hlt := lt_of_some hi
  have := SL_agree (ops := ops) (xs := xs) (s0 := s0) (L := L) (i := i) (t := t) ops.size fun j hj hd => ?_
  · rw [Nat.min_eq_right (by omega)] at this
    exact this
  · have hjo : ops[j]? = some ops[j] := Array.getElem?_eq_getElem hj
    have hdj : ops[j].dst = some t := by simpa [dstAt, hjo] using hd
    by_cases hji : j = i
    · subst hji
      rw [O.out]
      simp
    · have := O.ord j _ _ hjo hi hji (conf_look hdj ht)
      rcases Nat.lt_or_gt_of_ne hji with h4 | h4
      · rw [this.1 h4]; simp [h4]
      · rw [this.2 h4]
        have : ¬ j < i := by omega
        simp [this]

/-- Carried out in the text's order, it can be carried out now. -/
theorem ex_agree [Glb] (hf : freeStat free ops = true) (F : FreeOk free ops xs es s0) (T : Texts P ops xs es s0 h0) {L : Nat → Bool} {i : Nat} {o : Oper} {x : AV} {eff : Option (Nat × AObj)} {gs : Gs} {a : Act} {w : World} (O : Ord free ops L i) (hi : ops[i]? = some o)
    (R : RelG E nt (SL ops xs s0 L ops.size) (HL es h0 L ops.size) gs a w) (hx : aEx P o (SL ops xs s0 (fun _ => true) i) (HL es h0 (fun _ => true) i) x eff) :
    aEx P o (SL ops xs s0 L ops.size) (HL es h0 L ops.size) x eff := by
  have hops : ∀ y ∈ o.op.operands, ev (SL ops xs s0 L ops.size) y = ev (SL ops xs s0 (fun _ => true) i) y := by
    intro y hy
    cases y with
    | tmp t => exact slots_agree O hi (looks_operand hy)
    | _ => rfl
  have hag : 1 ≤ cls o.op → Agree o.op (ev (SL ops xs s0 (fun _ => true) i)) (ev (SL ops xs s0 L ops.size)) (HL es h0 (fun _ => true) i) (HL es h0 L ops.size) := fun hc =>
    ⟨hops, fun y hy hw ob hob hg => by
      have hr := (ev_ok R y)
      rw [hops y hy] at hr
      exact objs_agree hf F T O hi hc hy hob ((hr.strip hw).refs_live ob hob) hg⟩
  unfold aEx at hx ⊢
  split at hx
  · rename_i hc
    exact ⟨aop0_congr hc hops hx.1, hx.2⟩
  · rename_i hc
    exact ⟨aop1_congr (hag (by omega)) hx.1, hx.2⟩
  · rename_i hc
    obtain ⟨ob, x', h1, h2⟩ := hx
    exact ⟨ob, x', aop2_congr (hag (by omega)) (fun o' ho' hg => gone_of hf T O hi hg (by omega) ho') h1, h2⟩
  · rename_i n0 n1 n2
    have hc : 2 ≤ cls o.op := by
      have a0 : cls o.op ≠ 0 := n0
      have a1 : cls o.op ≠ 1 := n1
      omega
    obtain ⟨d, x', h1, h2, h3, h4⟩ := hx
    exact ⟨d, x', h1, gone_of hf T O hi h2 hc h1, aop3_congr hops h3, h4⟩

theorem ready_spec {listed : Array Bool} {i : Nat} (h : i ∈ Region.ready .any ops listed) : ∃ o, ops[i]? = some o ∧ i < ops.size ∧ listed.getD i true = false ∧ ∀ e ∈ o.after.toList, Region.binds .any e = true → listed.getD e.on false = true := by
  unfold Region.ready at h
  rw [List.mem_filter] at h
  obtain ⟨h1, h2⟩ := h
  have hi : i < ops.size := by simpa using h1
  simp only [Bool.and_eq_true, Bool.not_eq_true', Array.getElem?_eq_getElem hi, Option.map_some, Option.getD_some, Array.all_eq_true_iff_forall_mem, Bool.or_eq_true] at h2
  refine ⟨ops[i], Array.getElem?_eq_getElem hi, hi, h2.1, fun e he hb => ?_⟩
  rcases h2.2 e (Array.mem_toList_iff.1 he) with h | h
  · rw [hb] at h; cases h
  · exact h

theorem all_listed (hd : drawOkF free ops = true) {listed : Array Bool} (hsz : listed.size = ops.size) (h : Region.ready .any ops listed = []) : ∀ j, j < ops.size → lset listed j = true := by
  intro j
  induction j using Nat.strongRecOn with
  | _ j ih =>
    intro hj
    cases hl : lset listed j with
    | true => rfl
    | false =>
      exfalso
      have hm : j ∈ Region.ready .any ops listed := by
        unfold Region.ready
        rw [List.mem_filter]
        refine ⟨by simpa using hj, ?_⟩
        have hl' : listed.getD j true = false := by
          unfold lset at hl
          have : j < listed.size := by omega
          simp only [Array.getD, this, dite_true] at hl ⊢
          exact hl
        simp only [Bool.and_eq_true, Bool.not_eq_true', hl', Array.getElem?_eq_getElem hj, Option.map_some, Option.getD_some, Array.all_eq_true_iff_forall_mem, Bool.or_eq_true, true_and]
        intro e he
        cases hb : Region.binds .any e with
        | false => exact .inl rfl
        | true =>
          have hlt := (drawOk_spec hd).1 j _ e (Array.getElem?_eq_getElem hj) (Array.mem_toList_iff.2 he) hb
          exact .inr (ih e.on hlt (by omega))
      rw [h] at hm
      cases hm

theorem draw_main [Glb] (hs : slotsOk nt ops.toList = true) (hd : drawOkF free ops = true) (F : FreeOk free ops xs es s0) (T : Texts P ops xs es s0 h0) {K : (Nat → AV) → AH → Prop} (hK : K (SL ops xs s0 (fun _ => true) ops.size) (HL es h0 (fun _ => true) ops.size))
    {Q : Exit → Act → World → Prop} (hQ : ∀ s' h' a' w', K s' h' → Rel E nt s' h' a' w' → Q .normal a' w') : ∀ (fuel : Nat) (listed : Array Bool) (a : Act) (w : World), listed.size = ops.size → listed.toList.count false ≤ fuel →
    (∀ i o e, ops[i]? = some o → lset listed i = true → e ∈ o.after.toList → Region.binds .any e = true → lset listed e.on = true) →
    Rel E nt (SL ops xs s0 (lset listed) ops.size) (HL es h0 (lset listed) ops.size) a w → wpAny P .any ops Q fuel listed a w := by
  have done : ∀ (listed : Array Bool) (a : Act) (w : World), listed.size = ops.size → Rel E nt (SL ops xs s0 (lset listed) ops.size) (HL es h0 (lset listed) ops.size) a w → Region.ready .any ops listed = [] → Q .normal a w := by
    intro listed a w hsz R hr
    have hall := all_listed hd hsz hr
    refine hQ _ _ a w hK ?_
    have e1 : SL ops xs s0 (lset listed) ops.size = SL ops xs s0 (fun _ => true) ops.size := funext fun t => by
      have := SL_agree (ops := ops) (xs := xs) (s0 := s0) (L := lset listed) (i := ops.size) (t := t) ops.size fun j hj _ => by rw [hall j hj]; simp [hj]
      rwa [Nat.min_self] at this
    have e2 : HL es h0 (lset listed) ops.size = HL es h0 (fun _ => true) ops.size := funext fun o => by
      have := HL_agree (es := es) (h0 := h0) (L := lset listed) (i := ops.size) (o := o) ops.size fun j hj _ => by rw [hall j hj]; simp [hj]
      rwa [Nat.min_self] at this
    rw [e1, e2] at R
    exact R
  intro fuel
  induction fuel with
  | zero =>
    intro listed a w hsz hcount hcl R
    have hr : Region.ready .any ops listed = [] := by
      cases hr : Region.ready .any ops listed with
      | nil => rfl
      | cons i l =>
        exfalso
        obtain ⟨o, h1, h2, h3, h4⟩ := ready_spec (listed := listed) (i := i) (by rw [hr]; simp)
        have hi : i < listed.size := by omega
        have : listed.toList.count false ≠ 0 := by
          have hm : false ∈ listed.toList := by
            simp only [Array.getD, hi, dite_true, Array.getInternal_eq_getElem] at h3
            rw [← h3]
            exact Array.mem_toList_iff.2 (Array.getElem_mem hi)
          exact Nat.ne_of_gt (List.count_pos_iff.2 hm)
        omega
    exact ⟨hr, done listed a w hsz R hr⟩
  | succ fuel ih =>
    intro listed a w hsz hcount hcl R
    refine ⟨fun hr => done listed a w hsz R hr, fun i hi => ?_⟩
    obtain ⟨o, ho, hlt, h3, h4⟩ := ready_spec hi
    have hil : i < listed.size := by omega
    have hLi : lset listed i = false := by
      unfold lset
      simp only [Array.getD, hil, dite_true, Array.getInternal_eq_getElem] at h3 ⊢
      exact h3
    have O := Ord.make hd (L := lset listed) ho hLi hcl h4
    have hset : lset (listed.setIfInBounds i true) = fun j => decide (j = i) || lset listed j := funext fun j => by
      unfold lset
      simp only [Array.getD_eq_getD_getElem?]
      by_cases hji : j = i
      · subst hji
        simp [hil]
      · rw [Array.getElem?_setIfInBounds_ne (Ne.symm hji)]
        simp [hji]
    have hS : ∀ x, xs i = x → SL ops xs s0 (fun j => decide (j = i) || lset listed j) ops.size = updO (SL ops xs s0 (lset listed) ops.size) o.dst x := by
      intro x hx
      rw [SL_join ops.size (fun j h1 h2 t h5 h6 => ?_) hLi, if_pos hlt, hx]
      · simp [dstAt, ho]
      · have hjo : ops[j]? = some ops[j] := Array.getElem?_eq_getElem h2
        have hdj : ops[j].dst = some t := by simpa [dstAt, hjo] using h6
        have hdi : o.dst = some t := by simpa [dstAt, ho] using h5
        exact (O.ord j _ _ hjo ho (by omega) (conf_dst hdj hdi)).2 h1
    have hH : ∀ e, es i = e → HL es h0 (fun j => decide (j = i) || lset listed j) ops.size = appE (HL es h0 (lset listed) ops.size) e := by
      intro e he
      rw [HL_join ops.size (fun j h1 h2 ob h5 h6 => ?_) hLi, if_pos hlt, he]
      have hjo : ops[j]? = some ops[j] := Array.getElem?_eq_getElem h2
      exact (O.ord j _ _ hjo ho (by omega) (eff_conf (drawOk_free hd) T hjo ho h6 h5)).2 h1
    have next : ∀ a' w', Rel E nt (updO (SL ops xs s0 (lset listed) ops.size) o.dst (xs i)) (appE (HL es h0 (lset listed) ops.size) (es i)) a' w' → wpAny P .any ops Q fuel (listed.setIfInBounds i true) a' w' := by
      intro a' w' R'
      refine ih _ a' w' (by simpa using hsz) ?_ ?_ ?_
      · have hc : (listed.setIfInBounds i true).toList.count false + 1 = listed.toList.count false := by
          rw [Array.toList_setIfInBounds, List.count_set (by simpa using hil)]
          have hl' : listed.toList[i]'(by simpa using hil) = false := by
            have : listed.toList[i]'(by simpa using hil) = listed[i] := by simp
            rw [this]
            simp only [Array.getD, hil, dite_true, Array.getInternal_eq_getElem] at h3
            exact h3
          have hpos : 0 < listed.toList.count false := List.count_pos_iff.2 (by rw [← hl']; exact List.getElem_mem _)
          simp only [hl', beq_self_eq_true, if_true]
          have : (true == false) = false := rfl
          simp only [this, Bool.false_eq_true, if_false]
          omega
        omega
      · rw [hset]
        intro i' o' e h1 h2 h5 h6
        simp only [Bool.or_eq_true, decide_eq_true_eq] at h2 ⊢
        rcases h2 with rfl | h2
        · rw [ho] at h1
          injection h1 with h1
          subst h1
          exact .inr (h4 e h5 h6)
        · exact .inr (hcl i' o' e h1 h2 h5 h6)
      · rw [hset, hS _ rfl, hH _ rfl]
        exact R'
    obtain ⟨gs, R⟩ := R
    have hdst := slotsOk_dst hs (Array.mem_toList_iff.2 (Array.mem_of_getElem? ho))
    have t := T i o ho
    unfold wpOp
    simp only [ho]
    unfold aStep at t
    split at t
    · rename_i hg
      rw [if_pos (by simp [Region.wanted, hg])]
      exact .inl (Oper.wp_mono next (exec_ok R hdst (ex_agree (drawOk_free hd) F T O ho R t)))
    · rename_i jg want hg
      obtain ⟨he, tt, g, y, h5, h6, h8, h7⟩ := t
      have hsl := slots_agree (xs := xs) (s0 := s0) O ho (looks_guard hg h5)
      have hy := yielded_of R h5 (by rw [hsl]; exact h6) (slotsOk_guard hs h5)
      rw [hsl] at hy
      by_cases hw : ((SL ops xs s0 (fun _ => true) i tt).wh && g == want) = true
      · have hw' := hw
        rw [Bool.and_eq_true, beq_iff_eq] at hw'
        rw [if_pos hw'.1] at hy
        rw [if_pos (by simp [Region.wanted, hg, hy, hw'.2])]
        have hex : aEx P o (SL ops xs s0 (fun _ => true) i) (HL es h0 (fun _ => true) i) y none := by
          unfold aEx
          have h8 := h8 hw
          split at h8
          · rename_i hc
            simp only [hc]
            exact ⟨h8, trivial⟩
          · rename_i hc
            simp only [hc]
            exact ⟨h8, trivial⟩
          · exact h8.elim
        refine .inl (Oper.wp_mono (fun a' w' hR => next a' w' ?_) (exec_ok R hdst (ex_agree (drawOk_free hd) F T O ho R hex)))
        obtain ⟨gs', R'⟩ := hR
        rw [he]
        refine ⟨gs', { R' with slots := fun t' => ?_ }⟩
        have := R'.slots t'
        rw [h7]
        unfold updO at this ⊢
        cases hdst : o.dst with
        | none => rw [hdst] at this; exact this
        | some d =>
          rw [hdst] at this
          simp only [upd] at this ⊢
          split
          · rename_i he
            rw [if_pos he] at this
            exact .when _ _ _ (fun _ => this) fun e => by rw [hw] at e; cases e
          · rename_i he
            rw [if_neg he] at this
            exact this
      · rw [if_neg (by
          cases hwh : (SL ops xs s0 (fun _ => true) i tt).wh with
          | false => rw [hwh] at hy; simp [Region.wanted, hg, hy]
          | true =>
            rw [hwh] at hy hw
            simp only [Bool.true_and, beq_iff_eq] at hw
            simp [Region.wanted, hg, hy, hw])]
        refine next _ _ ?_
        rw [he, h7]
        exact ⟨gs, R.putO hdst (.when _ _ _ (fun e => absurd e hw) fun _ => rfl)⟩

/-- What is asked of the pairs at the region's end. -/
def freeFin (free : List (Nat × Nat)) (ops : Array Oper) (s : Nat → AV) : Bool := free.all fun p => match ops[p.1]?, ops[p.2]? with
  | some x, some y => (match x.op with
    | .store _ (.tmp t) _ => y.op.operands.toList.all fun z => (s t).strip.refs.all fun o => !((ev s z).strip.refs.contains o)
    | _ => true)
  | _, _ => true

theorem store_refs {t : TypeId} {y z : Operand} {e : Operand → AV} {h : AH} {d : Option Tmp} {ob : Nat} {x' : AObj} {x : AV} (hx : aop2 P (.store t y z) e h d ob x' x) : ob ∈ (e y).strip.refs := by
  obtain ⟨_, i, _, _, _, hx⟩ := hx
  split at hx
  · rename_i o' off he
    rw [he, hx.1]
    simp [AV.refs, AV.ref1]
  · rename_i o' L k off he
    rw [he, hx.1]
    simp [AV.refs, AV.ref1]
  · exact hx.elim

theorem SL_keep {t k : Nat} : ∀ m, k ≤ m → (∀ q, q < m → k ≤ q → dstAt ops q ≠ some t) → SL ops xs s0 (fun _ => true) m t = SL ops xs s0 (fun _ => true) k t
  | 0, h, _ => by rw [show k = 0 by omega]
  | m + 1, h, hq => by
    rcases Nat.lt_or_ge m k with h1 | h1
    · rw [show k = m + 1 by omega]
    · rw [← SL_keep m h1 fun q h2 h3 => hq q (by omega) h3]
      simp only [SL, if_true]
      exact updO_ne (hq m (by omega) h1)

theorem free_of [Glb] (hf : freeStat free ops = true) (T : Texts P ops xs es s0 h0) (hfin : freeFin free ops (SL ops xs s0 (fun _ => true) ops.size) = true) : FreeOk free ops xs es s0 := by
  intro k j ob y hp he hy z hz hmem
  obtain ⟨x, y', t, Ty, z', h1, h2, h3, h4, h5, h6⟩ := freeStat_spec hf hp
  rw [hy] at h2
  injection h2 with h2
  subst h2
  have hk := lt_of_some h1
  have hj := lt_of_some hy
  obtain ⟨x', he⟩ := he
  have tx := T k x h1
  rw [he] at tx
  have hg := (step_eff tx).2.1
  unfold aStep at tx
  rw [hg] at tx
  unfold aEx at tx
  have hc : cls x.op = 2 := by rw [h4]; rfl
  simp only [hc] at tx
  obtain ⟨ob', x'', q1, q2⟩ := tx
  injection q2 with q2
  injection q2 with q2 q3
  subst q2
  rw [h4] at q1
  have hr := store_refs q1
  unfold freeFin at hfin
  rw [List.all_eq_true] at hfin
  have := hfin (k, j) hp
  simp only [h1, hy, h4] at this
  rw [List.all_eq_true] at this
  have := this z (Array.mem_toList_iff.2 hz)
  rw [List.all_eq_true] at this
  have e1 : SL ops xs s0 (fun _ => true) ops.size t = SL ops xs s0 (fun _ => true) k t := SL_keep ops.size (by omega) fun q hq hkq => h5 q hq hkq
  have e2 : ev (SL ops xs s0 (fun _ => true) ops.size) z = ev (SL ops xs s0 (fun _ => true) j) z := by
    cases z with
    | tmp u => exact SL_keep ops.size (by omega) fun q hq hjq => h6 u hz q hq hjq
    | _ => rfl
  have := this ob (by rw [e1]; exact hr)
  rw [e2] at this
  simp [hmem] at this

/-- A REGION WHOSE ORDER IS DRAWN. -/
theorem region_drawF [Glb] (hf : P.follows .mixedOrders = true) {id : Nat} (hs : slotsOk nt ops.toList = true) (hd : drawOkF free ops = true) {K : (Nat → AV) → AH → Prop} {Q : Exit → Act → World → Prop} {s : Nat → AV} {h : AH} {a : Act} {w : World}
    (R : Rel E nt s h a w) (hr : aRun P ops (fun s h => freeFin free ops s = true ∧ K s h) ops.toList s h) (hQ : ∀ s' h' a' w', K s' h' → Rel E nt s' h' a' w' → Q .normal a' w') : (Code.region id ops true).wp P Q a w := by
  obtain ⟨xs, es, S, H, e1, e2, e3, e4⟩ := trace ops.toList 0 s h (fun k => by simp) hr
  simp only [Nat.zero_add] at e3 e4
  have eS : ∀ k, k ≤ ops.size → S k = SL ops xs s (fun _ => true) k ∧ H k = HL es h (fun _ => true) k := by
    intro k
    induction k with
    | zero => intro _; exact ⟨e1, e2⟩
    | succ k ih =>
      intro hk
      obtain ⟨i1, i2⟩ := ih (by omega)
      have ho : ops.toList[k]? = some ops[k] := by simp
      obtain ⟨_, t2, t3⟩ := e3 k _ ho
      have hd : dstAt ops k = ops[k].dst := by simp [dstAt, Array.getElem?_eq_getElem (show k < ops.size by omega)]
      exact ⟨by rw [t2, i1]; simp [SL, hd], by rw [t3, i2]; simp [HL]⟩
  have T : Texts P ops xs es s h := by
    intro k o ho
    have hk := lt_of_some ho
    have := (e3 k o (by simpa using ho)).1
    rw [(eS k (by omega)).1, (eS k (by omega)).2] at this
    exact this
  have hK : freeFin free ops (SL ops xs s (fun _ => true) ops.size) = true ∧ K (SL ops xs s (fun _ => true) ops.size) (HL es h (fun _ => true) ops.size) := by
    have := e4
    rw [Array.length_toList, (eS ops.size (Nat.le_refl _)).1, (eS ops.size (Nat.le_refl _)).2] at this
    exact this
  refine wp_region_any hf (draw_main hs hd (free_of (drawOk_free hd) T hK.1) T hK.2 hQ ops.size (Array.replicate ops.size false) a _ (by simp) (by simp) ?_ ?_)
  · intro i o e ho hl
    unfold lset at hl
    simp only [Array.getD_eq_getD_getElem?] at hl
    by_cases hi : i < ops.size
    · simp [hi] at hl
    · simp [hi] at hl
  · have hno : ∀ j, lset (Array.replicate ops.size false) j = false := fun j => by
      unfold lset
      simp only [Array.getD_eq_getD_getElem?]
      by_cases hj : j < ops.size <;> simp [hj]
    have f1 : ∀ k, SL ops xs s (lset (Array.replicate ops.size false)) k = s := by
      intro k
      induction k with
      | zero => rfl
      | succ k ih => simp only [SL, hno, Bool.false_eq_true, if_false, ih]
    have f2 : ∀ k, HL es h (lset (Array.replicate ops.size false)) k = h := by
      intro k
      induction k with
      | zero => rfl
      | succ k ih => simp only [HL, hno, Bool.false_eq_true, if_false, ih]
    rw [f1, f2]
    obtain ⟨gs, R⟩ := R
    exact ⟨gs, R.grow ⟨rfl, rfl, rfl, Nat.le_refl _, fun _ _ => rfl⟩⟩

/-- A region in the order of its text. -/
theorem region_plain [Glb] {id : Nat} (hs : slotsOk nt ops.toList = true) {K : (Nat → AV) → AH → Prop} {Q : Exit → Act → World → Prop} {s : Nat → AV} {h : AH} {a : Act} {w : World}
    (R : Rel E nt s h a w) (hr : aRun P ops K ops.toList s h) (hQ : ∀ s' h' a' w', K s' h' → Rel E nt s' h' a' w' → Q .normal a' w') : (Code.region id ops false).wp P Q a w :=
  wp_region_list (run_ok hs ops.toList s h a w (fun _ h => h) R hr hQ)
end

end Go.Am

/- The abstract machine, part 11: control, loops, contracts of functions. Generic over the program; no condition. -/
namespace Go.Am
open Go.RowKit

abbrev Slots := Nat → AV
abbrev APost := Exit → Slots → AH → Prop

def AWp [Glb] (P : Program) (nt : Nat) (fo : List Nat) (c : Code) (Q : APost) (s : Slots) (h : AH) : Prop :=
  ∀ (E : Env) (a : Act) (w : World), E.In fo → Rel E nt s h a w → c.wp P (fun e a' w' => ∃ s' h', Q e s' h' ∧ Rel E nt s' h' a' w') a w

def thenQ (next : Slots → AH → Prop) (Q : APost) : APost
  | .normal, s, h => next s h
  | e, s, h => Q e s h
def blockQ (id : Nat) (Q : APost) : APost
  | .exit id', s, h => if id' = id then Q .normal s h else Q (.exit id') s h
  | e, s, h => Q e s h

/-- Whatever frame and world hold the one state hold the other. -/
def Weak [Glb] (fo : List Nat) (s : Slots) (h : AH) (s' : Slots) (h' : AH) : Prop := ∀ (E : Env) (nt : Nat) (a : Act) (w : World), E.In fo → Rel E nt s h a w → Rel E nt s' h' a w

theorem Weak.refl [Glb] {fo : List Nat} (s : Slots) (h : AH) : Weak fo s h s h := fun _ _ _ _ _ R => R
theorem Weak.trans [Glb] {fo : List Nat} {s1 s2 s3 : Slots} {h1 h2 h3 : AH} (a : Weak fo s1 h1 s2 h2) (b : Weak fo s2 h2 s3 h3) : Weak fo s1 h1 s3 h3 := fun E nt x w I R => b E nt x w I (a E nt x w I R)

section
variable {P : Program} {nt : Nat} {fo : List Nat} {Q : APost} {s : Slots} {h : AH}

theorem AWp.weak [Glb] {c : Code} {s' : Slots} {h' : AH} (hw : Weak fo s h s' h') (hc : AWp P nt fo c Q s' h') : AWp P nt fo c Q s h := fun E a w I R => hc E a w I (hw E nt a w I R)

theorem AWp.mono [Glb] {c : Code} {Q' : APost} (hc : AWp P nt fo c Q s h) (hq : ∀ e s h, Q e s h → Q' e s h) : AWp P nt fo c Q' s h := fun E a w I R =>
  wp_mono (hc E a w I R) fun _ _ _ ⟨s', h', q, R'⟩ => ⟨s', h', hq _ _ _ q, R'⟩

theorem awp_seq [Glb] {x y : Code} (hx : AWp P nt fo x (thenQ (AWp P nt fo y Q) Q) s h) : AWp P nt fo (.seq x y) Q s h := fun E a w I R => by
  refine wp_seq (wp_mono (hx E a w I R) fun e a' w' ⟨s', h', q, R'⟩ => ?_)
  cases e with
  | normal => exact q E a' w' I R'
  | _ => exact ⟨s', h', q, R'⟩

theorem awp_skip [Glb] (hq : Q .normal s h) : AWp P nt fo .skip Q s h := fun _ _ _ _ R => wp_skip ⟨s, h, hq, R⟩
theorem awp_exit [Glb] {id : Nat} (hq : Q (.exit id) s h) : AWp P nt fo (.exit id) Q s h := fun _ _ _ _ R => wp_exit ⟨s, h, hq, R⟩
theorem awp_ret [Glb] (hq : Q .ret s h) : AWp P nt fo .ret Q s h := fun _ _ _ _ R => wp_ret ⟨s, h, hq, R⟩

theorem awp_block [Glb] {id : Nat} {c : Code} (hc : AWp P nt fo c (blockQ id Q) s h) : AWp P nt fo (.block id c) Q s h := fun E a w I R => by
  refine wp_block (wp_mono (hc E a w I R) fun e a' w' ⟨s', h', q, R'⟩ => ?_)
  cases e with
  | exit id' =>
    simp only [Exit.inBlock, blockQ] at q ⊢
    split
    · rename_i he
      rw [if_pos he] at q
      exact ⟨s', h', q, R'⟩
    · rename_i he
      rw [if_neg he] at q
      exact ⟨s', h', q, R'⟩
  | _ => exact ⟨s', h', q, R'⟩

theorem awp_cond [Glb] {c : Operand} {x y : Code} {b : Bool} (hc : ev s c = .bool b) (ht : b = true → AWp P nt fo x Q s h) (hf : b = false → AWp P nt fo y Q s h) : AWp P nt fo (.cond c x y) Q s h := fun E a w I ⟨gs, R⟩ => by
  have hv := ev_ok R c
  rw [hc] at hv
  exact wp_cond_split hv.raw_inv (fun e => ht e E a w I ⟨gs, R⟩) fun e => hf e E a w I ⟨gs, R⟩

theorem awp_region [Glb] {id : Nat} {ops : Array Oper} (hs : slotsOk nt ops.toList = true) (hr : aRun P ops (Q .normal) ops.toList s h) : AWp P nt fo (.region id ops false) Q s h := fun _ _ _ _ R =>
  region_plain hs R hr fun s' h' _ _ q R' => ⟨s', h', q, R'⟩

theorem aRun_mono [Glb] {P : Program} {ops : Array Oper} {K K' : Slots → AH → Prop} (hk : ∀ s h, K s h → K' s h) : ∀ (l : List Oper) (s : Slots) (h : AH), aRun P ops K l s h → aRun P ops K' l s h
  | [], s, h, hr => hk s h hr
  | o :: l, s, h, ⟨x, eff, h1, h2⟩ => ⟨x, eff, h1, aRun_mono hk l _ _ h2⟩
theorem awp_region_draw [Glb] (hf : P.follows .mixedOrders = true) {id : Nat} {ops : Array Oper} (hs : slotsOk nt ops.toList = true) (hd : drawOk ops = true) (hr : aRun P ops (Q .normal) ops.toList s h) : AWp P nt fo (.region id ops true) Q s h := fun _ _ _ _ R =>
  region_drawF (free := []) hf hs hd R (aRun_mono (fun _ _ q => ⟨rfl, q⟩) _ _ _ hr) fun s' h' _ _ q R' => ⟨s', h', q, R'⟩
theorem awp_region_drawF [Glb] (hf : P.follows .mixedOrders = true) (free : List (Nat × Nat)) {id : Nat} {ops : Array Oper} (hs : slotsOk nt ops.toList = true) (hd : drawOkF free ops = true) (hr : aRun P ops (fun s h => freeFin free ops s = true ∧ Q .normal s h) ops.toList s h) : AWp P nt fo (.region id ops true) Q s h := fun _ _ _ _ R =>
  region_drawF (free := free) hf hs hd R hr fun s' h' _ _ q R' => ⟨s', h', q, R'⟩
end

/-! Letting go of slots and objects. -/
def AV.ref1w : AV → List Nat
  | .ptr o _ | .rp o _ _ _ | .own o _ | .osub o _ _ _ => [o]
  | .fn _ os => os
  | .when _ x => x.ref1w
  | _ => []
def AV.refsw : AV → List Nat
  | .agg xs => xs.flatMap AV.ref1w
  | .when _ x => x.refsw
  | x => x.ref1w

def keepS (ks : List Nat) (s : Slots) : Slots := fun t => if t ∈ ks then s t else .c .any
def keepH (os : List Nat) (h : AH) : AH := fun o => if o ∈ os then h o else .gone

theorem RA.kept1 {w : World} {Z Z' : Nat → Prop} {h h' : AH} {gs gs' : Gs} {v : Value} {x : AV} (hx : RA w Z h gs v x) (hz : ∀ b, Z' b → Z b) (ho : ∀ o ∈ x.ref1w, h' o = h o ∧ gs' o = gs o) (hn : v.oneCell' = true) : RA w Z' h' gs' v x := by
  have hl : Later w w Z Z' := ⟨Nat.le_refl _, fun _ _ _ => rfl, fun b hb _ => hz b hb⟩
  induction hx with
  | c v x hx => exact .c v x (hx.later hl)
  | agg cs xs hl' ho' hh => simp [Value.oneCell'] at hn
  | pim a xs g hb hlt hc ho' hh => exact .pim a xs g (fun hz' => hb (hz _ hz')) hlt hc ho' fun j hj => (hh j hj).later hl
  | ptr o off b K ty cells ho' hg =>
    obtain ⟨e1, e2⟩ := ho o (by simp [AV.ref1w])
    exact .ptr o off b K ty cells (e1.trans ho') (e2.trans hg)
  | rp ad o L i off ty sz n f ho' hL hv =>
    obtain ⟨e1, e2⟩ := ho o (by simp [AV.ref1w])
    exact .rp ad o L i off ty sz n f (e1.trans ho') hL (by rw [e2]; exact hv)
  | own A k c o L ty sz n f ho' hL hv =>
    obtain ⟨e1, e2⟩ := ho o (by simp [AV.ref1w])
    exact .own A k c o L ty sz n f (e1.trans ho') hL (by rw [e2]; exact hv)
  | osub A k' c o L off k ty sz n f ho' hL hv =>
    obtain ⟨e1, e2⟩ := ho o (by simp [AV.ref1w])
    exact .osub A k' c o L off k ty sz n f (e1.trans ho') hL (by rw [e2]; exact hv)
  | emp A => exact .emp A
  | fn f cs os hl' hh =>
    refine .fn f cs os hl' fun i hi => ?_
    obtain ⟨b, K, ty, cells, e1, e2, e3⟩ := hh i hi
    have hm : os.getD i 0 ∈ (AV.fn f os).ref1w := by rw [getD_lt hi]; exact List.getElem_mem hi
    obtain ⟨e4, e5⟩ := ho _ hm
    exact ⟨b, K, ty, cells, e1, e4.trans e2, e5.trans e3⟩
  | when v b x _ hu ih => exact .when v b x (fun e => ih e ho hn) hu

theorem RA.kept {w : World} {Z Z' : Nat → Prop} {h h' : AH} {gs gs' : Gs} {v : Value} {x : AV} (hx : RA w Z h gs v x) (hz : ∀ b, Z' b → Z b) (ho : ∀ o ∈ x.refsw, h' o = h o ∧ gs' o = gs o) : RA w Z' h' gs' v x := by
  induction hx with
  | agg cs xs hl' ho' hh _ =>
    refine .agg cs xs hl' ho' fun i hi => (hh i hi).kept1 hz (fun o hm => ho o ?_) (ho' i hi)
    rw [getD_lt hi] at hm
    exact List.mem_flatMap.2 ⟨_, List.getElem_mem hi, hm⟩
  | when v b x _ hu ih => exact .when v b x (fun e => ih e ho) hu
  | c v x hx =>
    have hl : Later w w Z Z' := ⟨Nat.le_refl _, fun _ _ _ => rfl, fun b hb _ => hz b hb⟩
    exact .c v x (hx.later hl)
  | pim a xs g hb hlt hc ho' hh => exact (RA.pim (gs := gs) (h := h) a xs g hb hlt hc ho' hh).kept1 hz ho rfl
  | ptr o off b K ty cells ho' hg => exact (RA.ptr (w := w) (Z := Z) o off b K ty cells ho' hg).kept1 hz ho rfl
  | rp ad o L i off ty sz n f ho' hL hv => exact (RA.rp (w := w) (Z := Z) ad o L i off ty sz n f ho' hL hv).kept1 hz ho rfl
  | own A k c o L ty sz n f ho' hL hv => exact (RA.own (w := w) (Z := Z) A k c o L ty sz n f ho' hL hv).kept1 hz ho rfl
  | osub A k' c o L off k ty sz n f ho' hL hv => exact (RA.osub (w := w) (Z := Z) A k' c o L off k ty sz n f ho' hL hv).kept1 hz ho rfl
  | emp A => exact .emp A
  | fn f cs os hl' hh => exact (RA.fn (w := w) (Z := Z) f cs os hl' hh).kept1 hz ho rfl

/-- What is kept leads to nothing that is let go. -/
structure Keep (ks os : List Nat) (s : Slots) (h : AH) : Prop where
  slots : ∀ t ∈ ks, ∀ o ∈ (s t).refsw, o ∈ os
  boxes : ∀ o ∈ os, ∀ ty cells, h o = .box ty cells → ∀ x ∈ cells, ∀ o' ∈ x.refsw, o' ∈ os

theorem weak_keep [Glb] {fo ks os : List Nat} {s : Slots} {h : AH} (K : Keep ks os s h) (hfo : ∀ o ∈ fo, o ∈ os) : Weak fo s h (keepS ks s) (keepH os h) := by
  intro E nt a w I ⟨gs, R⟩
  let gs' : Gs := fun o => if o ∈ os then gs o else none
  have hz : ∀ b, Zf E.Z gs' b → Zf E.Z gs b := by
    intro b hb
    rcases hb with hb | ⟨o, K', hb⟩
    · exact .inl hb
    · simp only [gs'] at hb
      split at hb
      · exact .inr ⟨o, K', hb⟩
      · cases hb
  have hl : Later w w (Zf E.Z gs) (Zf E.Z gs') := ⟨Nat.le_refl _, fun _ _ _ => rfl, fun b hb _ => hz b hb⟩
  have hk : ∀ o, o ∈ os → keepH os h o = h o ∧ gs' o = gs o := fun o ho => ⟨by simp [keepH, ho], by simp [gs', ho]⟩
  have sub : ∀ o b K', gs' o = some (b, K') → gs o = some (b, K') := fun o b K' e => by
    simp only [gs'] at e
    split at e
    · exact e
    · cases e
  have hrk : Refs E.h0 E.gs0 (keepH os h) gs' := by
    refine ⟨fun o ty cells e => ?_, fun o ty sz n f e => ?_⟩
    · obtain ⟨q1, q2⟩ := R.refs.box o ty cells e
      have := hk o (hfo o (I o (by rw [e]; simp)))
      rw [this.1, this.2]
      exact ⟨q1, q2⟩
    · obtain ⟨n', f', q1, q2, q3⟩ := R.refs.row o ty sz n f e
      have := hk o (hfo o (I o (by rw [e]; simp)))
      rw [this.1, this.2]
      exact ⟨n', f', q1, q2, q3⟩
  refine ⟨gs', R.below, R.zlt, R.zd, R.glob, fun o b K' e => R.fresh o b K' (sub o b K' e), fun o o' b K1 K2 e1 e2 => R.inj o o' b K1 K2 (sub _ _ _ e1) (sub _ _ _ e2), fun o => ?_, fun t => ?_, R.size, R.defers, hrk⟩
  · by_cases ho : o ∈ os
    · have hob := R.objs o
      rw [(hk o ho).1]
      cases hx : h o with
      | gone =>
        rw [hx] at hob
        exact (hk o ho).2.trans hob
      | blk b ob =>
        rw [hx] at hob
        obtain ⟨K', g1, g2⟩ := hob
        exact ⟨K', (hk o ho).2.trans g1, g2⟩
      | box ty cells =>
        rw [hx] at hob
        obtain ⟨b, K', cur, g1, g2, g3, g4, g5⟩ := hob
        refine ⟨b, K', cur, (hk o ho).2.trans g1, g2, g3, g4, fun j hj => (g5 j hj).kept hz fun o' ho' => hk o' (K.boxes o ho ty cells hx _ ?_ o' ho')⟩
        rw [getD_lt hj]
        exact List.getElem_mem hj
      | row ty sz n f =>
        rw [hx] at hob
        rcases hob with ⟨q1, q2⟩ | ⟨b', K', cur, q1, q2, q3, q4, q5, q6, q7, q8⟩
        · exact .inl ⟨(hk o ho).2.trans q1, q2⟩
        · exact .inr ⟨b', K', cur, (hk o ho).2.trans q1, q2, q3, q4, q5, q6, q7, fun i j hi hj => (q8 i j hi hj).later hl⟩
    · have : keepH os h o = .gone := by simp [keepH, ho]
      rw [this]
      show gs' o = none
      simp [gs', ho]
  · by_cases ht : t ∈ ks
    · have : keepS ks s t = s t := by simp [keepS, ht]
      rw [this]
      exact (R.slots t).kept hz fun o ho => hk o (K.slots t ht o ho)
    · have : keepS ks s t = .c .any := by simp [keepS, ht]
      rw [this]
      exact .c _ _ (.any _)

/-- A LOOP: what holds at every round's head of the slots ks and the objects os; a number that every round lowers. -/
theorem awp_loop [Glb] {P : Program} {nt : Nat} {fo : List Nat} {Q : APost} {s : Slots} {h : AH} {c : Code} (ks os : List Nat) (I : Nat → Slots → AH → Prop) (n0 : Nat) (hfo : ∀ o ∈ fo, o ∈ os) (hk : Keep ks os s h) (h0 : I n0 (keepS ks s) (keepH os h))
    (round : ∀ n s h, I n s h → (∀ o, o ∉ os → h o = .gone) → AWp P nt fo c (thenQ (fun s' h' => Keep ks os s' h' ∧ ∃ n', n' < n ∧ I n' (keepS ks s') (keepH os h')) Q) s h) : AWp P nt fo (.loop c) Q s h := by
  intro E a w hI R
  refine wp_loop_ghost (fun n a w => ∃ s h, I n s h ∧ (∀ o, o ∉ os → h o = .gone) ∧ Rel E nt s h a w) n0 ⟨_, _, h0, fun o ho => by simp [keepH, ho], weak_keep hk hfo E nt a w hI R⟩ ?_
  intro n a w ⟨s, h, hi, hg, R⟩
  refine wp_mono (round n s h hi hg E a w hI R) fun e a' w' ⟨s', h', q, R'⟩ => ?_
  cases e with
  | normal =>
    obtain ⟨q1, n', q2, q3⟩ := q
    exact ⟨n', q2, _, _, q3, fun o ho => by simp [keepH, ho], weak_keep q1 hfo E nt a' w' hI R'⟩
  | _ => exact ⟨s', h', q, R'⟩

/-! Contracts of functions. -/
def retAV [Glb] (P : Program) (s : Slots) (h : AH) : ResultVar → AV → Prop
  | .tmp t, x => (s t).wh = true ∧ x = (s t).strip
  | .cell t ty, x => aop1 P (.load ty (.tmp t)) (ev s) h true x
def retAll [Glb] (P : Program) (s : Slots) (h : AH) : List ResultVar → List AV → Prop
  | [], [] => True
  | r :: rs, x :: xs => retAV P s h r x ∧ retAll P s h rs xs
  | _, _ => False
def tupled : List CV → CV
  | [x] => x
  | xs => .tup xs

/-- What a body hands back. -/
def RetQ [Glb] (P : Program) (fn : Func) (r : CV) : APost
  | .ret, s, h | .normal, s, h => ∃ xs, retAll P s h fn.results.toList xs ∧ CV.Sub (tupled (xs.map fun x => x.view h)) r
  | _, _, _ => False

def entryS (xs : List CV) : Slots := fun t => .c (xs.getD t .any)

section
variable {P : Program} {E : Env} {w : World} {nt : Nat} {s : Slots} {h : AH} {gs : Gs} {a : Act}

def resSem (tmps : Array Value) : ResultVar → Sem Value
  | .tmp t => pure (tmps.getD t undef)
  | .cell t ty => do loadVar ty (← asAddr (tmps.getD t undef))

theorem results_eq (fn : Func) (tmps : Array Value) : results fn tmps = (do let vs ← fn.results.mapM (resSem tmps); pure (if hh : vs.size = 1 then vs[0] else .tuple vs)) := by
  have e : (fun r => (match r with | .tmp t => pure (tmps.getD t undef) | .cell a t => do loadVar t (← asAddr (tmps.getD a undef)) : Sem Value)) = resSem tmps := funext fun r => by cases r <;> rfl
  rw [← e]
  rfl

theorem ret_run [Glb] (R : RelG E nt s h gs a w) {r : ResultVar} {x : AV} (hr : retAV P s h r x) : ∃ v, (resSem a.tmps r).run P w = .ok v w ∧ RA w (Zf E.Z gs) h gs v x := by
  cases r with
  | tmp t =>
    obtain ⟨h1, rfl⟩ := hr
    exact ⟨_, rfl, (R.slots t).strip h1⟩
  | cell t ty =>
    obtain ⟨ad, v, h1, h2, h3⟩ := load_run R ty (.tmp t) hr
    refine ⟨v, ?_, h3⟩
    have h1' : a.tmps.getD t undef = .pointer (some ad) := h1
    simp only [resSem, h1', asAddr, Sem.run_bind, Sem.run_pure, Result.andThen_ok, h2]

theorem rets_run [Glb] (R : RelG E nt s h gs a w) : ∀ (rs : List ResultVar) (xs : List AV), retAll P s h rs xs → ∃ vs : List Value, (rs.mapM (resSem a.tmps)).run P w = .ok vs w ∧ vs.length = xs.length ∧
    ∀ i, i < xs.length → RA w (Zf E.Z gs) h gs (vs.getD i undef) (xs.getD i default)
  | [], [], _ => ⟨[], rfl, rfl, fun i hi => by simp at hi⟩
  | [], _ :: _, hr => hr.elim
  | _ :: _, [], hr => hr.elim
  | r :: rs, x :: xs, hr => by
    obtain ⟨v, h1, h2⟩ := ret_run R hr.1
    obtain ⟨vs, h3, h4, h5⟩ := rets_run R rs xs hr.2
    refine ⟨v :: vs, ?_, by simp [h4], fun i hi => ?_⟩
    · simp only [List.mapM_cons, Sem.run_bind, h1, Result.andThen_ok, h3, Sem.run_pure]
    · cases i with
      | zero => exact h2
      | succ i => exact h5 i (by simpa using hi)

theorem rets_value [Glb] (R : RelG E nt s h gs a w) {fn : Func} {xs : List AV} (hr : retAll P s h fn.results.toList xs) : ∃ v, (results fn a.tmps).run P w = .ok v w ∧ RC w E.Z v (tupled (xs.map fun x => x.view h)) := by
  obtain ⟨vs, h1, h2, h3⟩ := rets_run R _ xs hr
  have hm : (results fn a.tmps).run P w = .ok (if hh : vs.toArray.size = 1 then vs.toArray[0] else .tuple vs.toArray) w := by
    rw [results_eq, ← Array.toArray_toList (xs := fn.results), List.mapM_toArray]
    simp only [Sem.run_bind, Sem.run_map, h1, Result.andThen_ok, Sem.run_pure]
  refine ⟨_, hm, ?_⟩
  clear hm h1 hr
  match vs, xs, h2, h3 with
  | [v], [x], _, h3 => exact view_ok R (h3 0 (by simp))
  | [], [], _, _ => exact .tup #[] [] rfl fun i hi => by simp at hi
  | v1 :: v2 :: vs, x1 :: x2 :: xs, h2, h3 =>
    have hne : ¬ (v1 :: v2 :: vs).toArray.size = 1 := by simp
    rw [dif_neg hne]
    refine .tup _ _ (by simpa using h2) fun i hi => ?_
    have hi' : i < (x1 :: x2 :: xs).length := by simpa using hi
    have hiv : i < (v1 :: v2 :: vs).length := by rw [h2]; exact hi'
    have h4 := view_ok R (h3 i hi')
    rw [getD_lt hiv, getD_lt hi'] at h4
    have e1 : (v1 :: v2 :: vs).toArray.getD i undef = (v1 :: v2 :: vs)[i] := by
      have : i < (v1 :: v2 :: vs).toArray.size := by simpa using hiv
      simp only [Array.getD, this, dite_true, Array.getInternal_eq_getElem, List.getElem_toArray]
    rw [e1, getD_lt hi]
    simp only [← List.map_cons, List.getElem_map]
    exact h4

/-- THE CONTRACT OF A FUNCTION, from its body. -/
theorem apure_of [Glb] {f : FuncId} {fn : Func} {c : Code} {xs : List CV} {r : CV} (hf : P.funcs[f]? = some fn) (hb : fn.body = some c) (hn : (fn.name == "runtime.NumGoroutine") = false) (hl : xs.length ≤ fn.ntmps)
    (hc : AWp P fn.ntmps [] c (RetQ P fn r) (entryS xs) (fun _ => .gone)) : APure P f xs r := by
  refine ⟨⟨fn, hf, hn, by rw [hb]; rfl⟩, fun Z w vs hz hgl hlen hx => ?_⟩
  refine calls_of_wp hf hb ?_
  have hR : Rel ⟨w, Z, fun _ => .gone, fun _ => none, []⟩ fn.ntmps (entryS xs) (fun _ => .gone) { tmps := vs.toArray ++ Array.replicate (fn.ntmps - vs.toArray.size) undef, defers := [] } w := by
    refine ⟨fun _ => none, BelowX.refl _ _, hz, fun b hb => (by obtain ⟨o, K, e⟩ := hb; cases e), hgl, fun o b K e => absurd e (by simp), fun o o' b K K' e => absurd e (by simp), fun o => rfl, fun t => ?_, by simp; omega, rfl, Refs.refl _ _⟩
    have hzf : ∀ b, Zf Z (fun _ => none) b → Z b := by
      intro b hb
      rcases hb with hb | ⟨o, K, hb⟩
      · exact hb
      · exact absurd hb (by simp)
    by_cases ht : t < xs.length
    · have e : (vs.toArray ++ Array.replicate (fn.ntmps - vs.toArray.size) undef).getD t undef = vs.getD t undef := by
        simp only [Array.getD_eq_getD_getElem?, List.getD_eq_getElem?_getD]
        rw [Array.getElem?_append_left (by simp; omega)]
        simp
      simp only [e]
      exact .c _ _ ((hx t ht).less hzf)
    · have : entryS xs t = .c .any := by
        unfold entryS
        rw [List.getD_eq_getElem?_getD, List.getElem?_eq_none (by omega)]
        rfl
      rw [this]
      exact .c _ _ (.any _)
  refine wp_mono (hc ⟨w, Z, fun _ => .gone, fun _ => none, []⟩ _ w (fun o ho => absurd rfl ho) hR) fun e a' w' ⟨s', h', q, gs', R'⟩ => ?_
  cases e with
  | normal =>
    obtain ⟨ys, q1, q2⟩ := q
    obtain ⟨v, h1, h2⟩ := rets_value R' q1
    exact ⟨R'.defers, v, h1, v, rfl, q2 _ _ _ h2, ⟨R'.below.os, R'.below.tape, R'.below.output, R'.below.size, fun k hk => R'.below.block k hk fun hd => (by obtain ⟨o, K, e⟩ := hd; cases e)⟩⟩
  | ret =>
    obtain ⟨ys, q1, q2⟩ := q
    obtain ⟨v, h1, h2⟩ := rets_value R' q1
    exact ⟨R'.defers, v, h1, v, rfl, q2 _ _ _ h2, ⟨R'.below.os, R'.below.tape, R'.below.output, R'.below.size, fun k hk => R'.below.block k hk fun hd => (by obtain ⟨o, K, e⟩ := hd; cases e)⟩⟩
  | _ => exact q.elim
end

end Go.Am

