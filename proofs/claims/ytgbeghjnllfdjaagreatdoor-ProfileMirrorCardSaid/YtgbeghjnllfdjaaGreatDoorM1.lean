/- Texts of the proof: Bm0 Bm1 Bm2 Bm3 Bm4 Bm5 Bm6 Bm7. No condition. -/
import Derived.Below
import Derived.Laws.OwnMore
import Derived.Deep.LoopGhost
import Derived.Calls
import Derived.Orders
import Derived.Tactics
import Derived.ChangeSame
import Derived.Laws.Entries
import Derived.Laws.Build
import Derived.WalkKit
import Derived.Laws.Pointers
import Derived.MapKept
import Derived.Laws.CopyRow
import Derived.Laws.MakeOwn
set_option linter.unusedVariables false
set_option linter.unusedSimpArgs false
namespace Go.Am
open Go.RowKit
def Good (d : Nat) (x : Except String (World × List Addr)) : Prop := ∀ r, x = .ok r → r.1.drawn = d
theorem Good.bind {β : Type} {d : Nat} {x : Except String β} {f : β → Except String (World × List Addr)} (h : ∀ a, Good d (f a)) : Good d (x >>= f) := by
 intro r e
 cases x with
 | error => cases e
 | ok a => exact h a r e
theorem Good.throw {d : Nat} {e : String} : Good d (MonadExcept.throw e) := by intro r h; cases h
theorem Good.pure {d : Nat} {r : World × List Addr} (h : r.1.drawn = d) : Good d (Pure.pure r) := by
 intro r' e
 cases e
 exact h
theorem viewStore_drawn {p : Program} {w w' : World} {a k : Addr} {u : TypeId} {v : Value} {t : Bool} {l : List Addr} (h : w.viewStore p a u k v t = .ok (w', l)) : w'.drawn = w.drawn := by
 have g : Good w.drawn (w.viewStore p a u k v t) := by
   unfold World.viewStore
   repeat' first
     | exact Good.throw
     | exact Good.pure rfl
     | (apply Good.bind; intro _)
     | split
 exact g _ h
theorem farStore_drawn {p : Program} {w w' : World} {a : Addr} {v : Value} {t : Bool} {l : List Addr} (h : w.farStore p a v t = .ok (w', l)) : w'.drawn = w.drawn := by
 unfold World.farStore at h
 split at h
 · split at h
   · rename_i r e
     injection h with h
     subst h
     exact viewStore_drawn e
   · cases h
 · cases h
theorem ask_drawn {α : Type} : ∀ (q : Ask α) (w : World), w.drawn ≤ (w.ask q).2.drawn
 | .done a, w => Nat.le_refl _
 | .ask what range k, w => by
   unfold World.ask
   simp only
   split
   · exact ask_drawn _ w
   · exact Nat.le_trans (Nat.le_succ _) (ask_drawn _ { w with drawn := w.drawn + 1 })
theorem sys_drawn (w : World) (c : Sys) : w.drawn ≤ (w.sys c).2.drawn := by
 unfold World.sys
 have := ask_drawn (Kernel.perform c w.os) w
 split
 · exact Nat.le_refl _
 · rename_i e
   rw [e] at this
   exact this
theorem freeze_drawn (w : World) (a : Addr) (n : Nat) : (w.freeze a n).drawn = w.drawn := by unfold World.freeze; split <;> rfl
theorem run_drawn {α : Type} (P : Program) : ∀ (m : Sem α) (w : World) (v : α) (w' : World), m.run P w = .ok v w' → w.drawn ≤ w'.drawn := by
 intro m
 induction m with
 | pure a => intro w v w' h; simp only [Sem.run, Result.ok.injEq] at h; rw [h.2]; exact Nat.le_refl _
 | load m a k ih =>
   intro w v w' h
   simp only [Sem.run] at h
   split at h
   · exact ih _ _ _ _ h
   · split at h
     · exact ih _ _ _ _ h
     · cases h
 | store m a u k ih =>
   intro w v w' h
   cases u <;> first
     | (cases h; done)
     | (simp only [Sem.run] at h
        split at h
        · split at h
          · cases h
          · exact ih (w.setCell a _) _ _ h
        · split at h
          · rename_i w1 l1 e
            have := ih _ _ _ h
            rw [farStore_drawn e] at this
            exact this
          · cases h)
 | new o k ih => intro w v w' h; exact ih _ { w with heap := w.heap.push o } _ _ h
 | shape r k ih => intro w v w' h; exact ih _ _ _ _ h
 | freeze a n k ih => intro w v w' h; have := ih _ _ _ h; rw [freeze_drawn] at this; exact this
 | frozen a k ih => intro w v w' h; exact ih _ _ _ _ h
 | getObj r k ih =>
   intro w v w' h
   simp only [Sem.run] at h
   split at h
   · cases h
   · exact ih _ _ _ _ h
   · cases h
 | setObj r o k ih =>
   intro w v w' h
   simp only [Sem.run] at h
   split at h
   · cases h
   · exact ih { w with heap := w.heap.setIfInBounds r o } _ _ h
   · cases h
 | choose q k ih =>
   intro w v w' h
   simp only [Sem.run] at h
   split at h
   · exact ih _ _ _ _ h
   · exact Nat.le_trans (Nat.le_succ _) (ih _ { w with drawn := w.drawn + 1 } _ _ h)
 | sys c k ih => intro w v w' h; exact Nat.le_trans (sys_drawn w c) (ih _ _ _ _ h)
 | program k ih => intro w v w' h; exact ih _ _ _ _ h
 | mark m k ih => intro w v w' h; exact ih _ _ _ h
 | halt h => intro w v w' e; cases e
end Go.Am
namespace Go.Am
open Go.RowKit
inductive CV where
 | any
 | raw (v : Value)
 | agg (xs : List CV)
 | tup (xs : List CV)
 | im (sz n : Nat) (f : Nat → List CV)
 | emp
 | ptr (xs : List CV)
 | clo (f : FuncId) (ps : List CV)
 | mp (es : List (Value × CV))
instance : Inhabited CV := ⟨.any⟩
inductive RC (w : World) (Z : Nat → Prop) : Value → CV → Prop
 | any (v : Value) : RC w Z v .any
 | raw (v : Value) : RC w Z v (.raw v)
 | agg (cs : Array Value) (xs : List CV) (hl : cs.size = xs.length) (ho : ∀ i, i < xs.length → (cs.getD i undef).oneCell' = true)
     (h : ∀ i, i < xs.length → RC w Z (cs.getD i undef) (xs.getD i .any)) : RC w Z (.agg cs) (.agg xs)
 | tup (cs : Array Value) (xs : List CV) (hl : cs.size = xs.length)
     (h : ∀ i, i < xs.length → RC w Z (cs.getD i undef) (xs.getD i .any)) : RC w Z (.tuple cs) (.tup xs)
 | nul (A : Option Addr) (c sz : Nat) (f : Nat → List CV) : RC w Z (.slice A 0 c) (.im sz 0 f)
 | emp (A : Option Addr) : RC w Z (.slice A 0 0) .emp
 | ptr (a : Addr) (xs : List CV) (g : Nat → Value) (hb : ¬ Z a.block) (hlt : a.block < w.heap.size)
     (hc : ∀ j, j < xs.length → w.cell? (a.add j) = some (g j)) (ho : ∀ j, j < xs.length → (g j).oneCell' = true)
     (hh : ∀ j, j < xs.length → RC w Z (g j) (xs.getD j .any)) : RC w Z (.pointer (some a)) (.ptr xs)
 | clo (f : FuncId) (cs : Array Value) (ps : List CV) (hl : cs.size = ps.length) (hh : ∀ i, i < ps.length → RC w Z (cs.getD i undef) (ps.getD i .any)) : RC w Z (.func (.func f) #[] cs) (.clo f ps)
 | mp (b : Nat) (ents : Array MapEntry) (clock : Nat) (es : List (Value × CV)) (hb : ¬ Z b) (hw : w.heap[b]? = some (.map ents clock)) (hl : ents.size = es.length)
     (hk : ∀ i, i < es.length → (ents.getD i default).key = (es.getD i (undef, .any)).1)
     (hh : ∀ i, i < es.length → RC w Z (ents.getD i default).val (es.getD i (undef, .any)).2) : RC w Z (.map (some b)) (.mp es)
 | im (a : Addr) (n c sz : Nat) (f : Nat → List CV) (g : Nat → Value) (hb : ¬ Z a.block) (hlt : a.block < w.heap.size) (hnc : n ≤ c)
     (hc : ∀ j, j < n * sz → w.cell? (a.add j) = some (g j)) (ho : ∀ j, j < n * sz → (g j).oneCell' = true)
     (hf : ∀ i, i < n → (f i).length = sz)
     (h : ∀ i j, i < n → j < sz → RC w Z (g (i * sz + j)) ((f i).getD j .any)) : RC w Z (.slice (some a) n c) (.im sz n f)
structure Later (w w' : World) (Z Z' : Nat → Prop) : Prop where
 size : w.heap.size ≤ w'.heap.size
 block : ∀ b, ¬ Z b → b < w.heap.size → w'.heap[b]? = w.heap[b]?
 avoid : ∀ b, Z' b → b < w.heap.size → Z b
theorem Later.refl (w : World) (Z : Nat → Prop) : Later w w Z Z := ⟨Nat.le_refl _, fun _ _ _ => rfl, fun _ h _ => h⟩
theorem Later.trans {w w' w'' : World} {Z Z' Z'' : Nat → Prop} (h : Later w w' Z Z') (k : Later w' w'' Z' Z'') : Later w w'' Z Z'' :=
 ⟨Nat.le_trans h.size k.size,
  fun b hb hl => (k.block b (fun hz => hb (h.avoid b hz hl)) (Nat.lt_of_lt_of_le hl h.size)).trans (h.block b hb hl),
  fun b hz hl => h.avoid b (k.avoid b hz (Nat.lt_of_lt_of_le hl h.size)) hl⟩
theorem block_add (a : Addr) (n : Nat) : (a.add n).block = a.block := by unfold Addr.add; split <;> rfl
theorem add_add (a : Addr) (i j : Nat) : (a.add i).add j = a.add (i + j) := by
 unfold Addr.add
 by_cases hi : i = 0 <;> by_cases hj : j = 0 <;> simp [hi, hj, Nat.add_assoc]
theorem Later.cell {w w' : World} {Z Z' : Nat → Prop} (h : Later w w' Z Z') {a : Addr} (hb : ¬ Z a.block) (hl : a.block < w.heap.size) : w'.cell? a = w.cell? a :=
 World.cell?_of_block (h.block _ hb hl)
theorem RC.later {w w' : World} {Z Z' : Nat → Prop} {v : Value} {x : CV} (h : RC w Z v x) (hw : Later w w' Z Z') : RC w' Z' v x := by
 induction h with
 | any v => exact .any v
 | raw v => exact .raw v
 | agg cs xs hl ho _ ih => exact .agg cs xs hl ho ih
 | tup cs xs hl _ ih => exact .tup cs xs hl ih
 | nul A c sz f => exact .nul A c sz f
 | emp A => exact .emp A
 | ptr a xs g hb hlt hc ho _ ih =>
   refine .ptr a xs g (fun hz => hb (hw.avoid _ hz hlt)) (Nat.lt_of_lt_of_le hlt hw.size) (fun j hj => ?_) ho ih
   rw [hw.cell (by rw [block_add]; exact hb) (by rw [block_add]; exact hlt)]
   exact hc j hj
 | clo f cs ps hl _ ih => exact .clo f cs ps hl ih
 | mp b ents clock es hb he hl hk _ ih =>
   have hlt : b < w.heap.size := (Array.getElem?_eq_some_iff.1 he).1
   exact .mp b ents clock es (fun hz => hb (hw.avoid _ hz hlt)) ((hw.block b hb hlt).trans he) hl hk ih
 | im a n c sz f g hb hlt hnc hc ho hf _ ih =>
   refine .im a n c sz f g (fun hz => hb (hw.avoid _ hz hlt)) (Nat.lt_of_lt_of_le hlt hw.size) hnc (fun j hj => ?_) ho hf ih
   rw [hw.cell (by rw [block_add]; exact hb) (by rw [block_add]; exact hlt)]
   exact hc j hj
theorem getD_lt {α : Type} {l : List α} {i : Nat} {d : α} (h : i < l.length) : l.getD i d = l[i] := by simp [List.getD, List.getElem?_eq_getElem h]
def CV.flat1 : CV → Bool
 | .any | .raw _ => true
 | _ => false
def CV.flat : CV → Bool
 | .any | .raw _ => true
 | .agg xs | .tup xs => xs.all CV.flat1
 | _ => false
theorem RC.flat1 {w w' : World} {Z Z' : Nat → Prop} {v : Value} {x : CV} (h : RC w Z v x) (hx : x.flat1 = true) : RC w' Z' v x := by
 cases h <;> simp [CV.flat1] at hx
 · exact .any v
 · exact .raw v
theorem RC.flat {w w' : World} {Z Z' : Nat → Prop} {v : Value} {x : CV} (h : RC w Z v x) (hx : x.flat = true) : RC w' Z' v x := by
 cases h with
 | any => exact .any v
 | raw => exact .raw v
 | agg cs xs hl ho hh =>
   refine .agg cs xs hl ho fun i hi => (hh i hi).flat1 ?_
   simp only [CV.flat, List.all_eq_true] at hx
   rw [getD_lt hi]
   exact hx _ (List.getElem_mem hi)
 | tup cs xs hl hh =>
   refine .tup cs xs hl fun i hi => (hh i hi).flat1 ?_
   simp only [CV.flat, List.all_eq_true] at hx
   rw [getD_lt hi]
   exact hx _ (List.getElem_mem hi)
 | nul => simp [CV.flat] at hx
 | emp => simp [CV.flat] at hx
 | ptr => simp [CV.flat] at hx
 | clo => simp [CV.flat] at hx
 | mp => simp [CV.flat] at hx
 | im => simp [CV.flat] at hx
def CV.Sub (x y : CV) : Prop := ∀ (w : World) (Z : Nat → Prop) (v : Value), RC w Z v x → RC w Z v y
theorem CV.Sub.refl (x : CV) : CV.Sub x x := fun _ _ _ h => h
theorem CV.Sub.trans {x y z : CV} (h : CV.Sub x y) (k : CV.Sub y z) : CV.Sub x z := fun w Z v r => k w Z v (h w Z v r)
theorem CV.Sub.any (x : CV) : CV.Sub x .any := fun _ _ _ _ => .any _
theorem CV.Sub.of_eq {x y : CV} (h : x = y) : CV.Sub x y := h ▸ CV.Sub.refl x
theorem CV.Sub.im {sz n n' : Nat} {f f' : Nat → List CV} (hn : n = n') (h : ∀ i, i < n → f i = f' i) : CV.Sub (.im sz n f) (.im sz n' f') := by
 subst hn
 intro w Z v r
 cases r with
 | nul => exact .nul _ _ _ _
 | im a _ c _ _ g hb hlt hnc hc ho hf hh =>
   exact .im a n c sz f' g hb hlt hnc hc ho (fun i hi => (h i hi) ▸ hf i hi) (fun i j hi hj => (h i hi) ▸ hh i j hi hj)
theorem CV.Sub.im0 {sz sz' n n' : Nat} {f f' : Nat → List CV} (hn : n = 0) (hn' : n' = 0) : CV.Sub (.im sz n f) (.im sz' n' f') := by
 subst hn; subst hn'
 intro w Z v r
 cases r with
 | nul => exact .nul _ _ _ _
 | im a _ c _ _ g hb hlt hnc hc ho hf hh => exact .nul _ _ _ _
theorem CV.Sub.emp {sz n : Nat} {f : Nat → List CV} (hn : n = 0) : CV.Sub .emp (.im sz n f) := by
 subst hn
 intro w Z v r
 cases r with
 | emp A => exact .nul _ _ _ _
theorem CV.Sub.agg {xs ys : List CV} (hl : xs.length = ys.length) (h : ∀ i, i < xs.length → CV.Sub (xs.getD i .any) (ys.getD i .any)) : CV.Sub (.agg xs) (.agg ys) := by
 intro w Z v r
 cases r with
 | agg cs _ hcl ho hh => exact .agg cs ys (hcl.trans hl) (fun i hi => ho i (by omega)) fun i hi => h i (by omega) _ _ _ (hh i (by omega))
theorem CV.Sub.tup {xs ys : List CV} (hl : xs.length = ys.length) (h : ∀ i, i < xs.length → CV.Sub (xs.getD i .any) (ys.getD i .any)) : CV.Sub (.tup xs) (.tup ys) := by
 intro w Z v r
 cases r with
 | tup cs _ hcl hh => exact .tup cs ys (hcl.trans hl) fun i hi => h i (by omega) _ _ _ (hh i (by omega))
inductive AV where
 | c (x : CV)
 | agg (xs : List AV)
 | pim (xs : List CV)
 | ptr (o off : Nat)
 | rp (o L i off : Nat)
 | own (o L : Nat)
 | osub (o L off n : Nat)
 | emp
 | fn (f : FuncId) (ps : List AV)
 | when (b : Bool) (x : AV)
 | mref (o : Nat)
 | iref (o : Nat)
 | bs (o n : Nat)
instance : Inhabited AV := ⟨.c .any⟩
inductive AObj where
 | gone
 | box (ty : TypeId) (cells : List AV)
 | row (ty : TypeId) (sz n : Nat) (f : Nat → List CV)
 | blk (b : Nat) (ob : Obj)
 | map (es : List (Value × Nat × AV)) (clock : Nat)
 | iter (m since : Nat) (seen : List Nat) (last : Nat)
instance : Inhabited AObj := ⟨.gone⟩
abbrev Gs := Nat → Option (Nat × Nat)
abbrev AH := Nat → AObj
def AV.flatP : AV → Bool
 | .c _ | .pim _ | .ptr _ _ | .rp _ _ _ _ | .own _ _ | .osub _ _ _ _ | .emp | .mref _ => true
 | _ => false
inductive RA (w : World) (Z : Nat → Prop) (h : AH) (gs : Gs) : Value → AV → Prop
 | c (v : Value) (x : CV) (hx : RC w Z v x) : RA w Z h gs v (.c x)
 | agg (cs : Array Value) (xs : List AV) (hl : cs.size = xs.length) (ho : ∀ i, i < xs.length → (cs.getD i undef).oneCell' = true)
     (hh : ∀ i, i < xs.length → RA w Z h gs (cs.getD i undef) (xs.getD i default)) : RA w Z h gs (.agg cs) (.agg xs)
 | pim (a : Addr) (xs : List CV) (g : Nat → Value) (hb : ¬ Z a.block) (hlt : a.block < w.heap.size)
     (hc : ∀ j, j < xs.length → w.cell? (a.add j) = some (g j)) (ho : ∀ j, j < xs.length → (g j).oneCell' = true)
     (hh : ∀ j, j < xs.length → RC w Z (g j) (xs.getD j .any)) : RA w Z h gs (.pointer (some a)) (.pim xs)
 | ptr (o off b K : Nat) (ty : TypeId) (cells : List AV) (ho : h o = .box ty cells) (hg : gs o = some (b, K)) : RA w Z h gs (.pointer (some ⟨b, off, none⟩)) (.ptr o off)
 | rp (ad : Addr) (o L i off : Nat) (ty : TypeId) (sz n : Nat) (f : Nat → List CV) (ho : h o = .row ty sz n f) (hL : L ≤ n)
     (hv : L = n → ∃ b K, gs o = some (b, K) ∧ ad = ⟨b, i * sz + off, none⟩) : RA w Z h gs (.pointer (some ad)) (.rp o L i off)
 | own (A : Option Addr) (k c : Nat) (o L : Nat) (ty : TypeId) (sz n : Nat) (f : Nat → List CV) (ho : h o = .row ty sz n f) (hL : L ≤ n)
     (hv : L = n → (∃ b K, gs o = some (b, K) ∧ A = some ⟨b, 0, none⟩ ∧ k = n ∧ c = K) ∨ (gs o = none ∧ k = 0 ∧ c = 0 ∧ n = 0)) : RA w Z h gs (.slice A k c) (.own o L)
 | osub (A : Option Addr) (k' c : Nat) (o L off k : Nat) (ty : TypeId) (sz n : Nat) (f : Nat → List CV) (ho : h o = .row ty sz n f) (hL : L ≤ n)
     (hv : L = n → off + k ≤ n ∧ k' = k ∧ k ≤ c ∧ (0 < k → ∃ b K, gs o = some (b, K) ∧ A = some ⟨b, off * sz, none⟩) ∧ ((∃ b K, gs o = some (b, K) ∧ c = K - off ∧ (off = 0 → A = some ⟨b, 0, none⟩)) ∨ (gs o = none ∧ c = 0 ∧ n = 0))) : RA w Z h gs (.slice A k' c) (.osub o L off k)
 | emp (A : Option Addr) : RA w Z h gs (.slice A 0 0) .emp
 | fn (f : FuncId) (cs : Array Value) (ps : List AV) (hl : cs.size = ps.length) (hp : ∀ i, i < ps.length → (ps.getD i default).flatP = true ∧ (cs.getD i undef).oneCell' = true) (hh : ∀ i, i < ps.length → RA w Z h gs (cs.getD i undef) (ps.getD i default)) : RA w Z h gs (.func (.func f) #[] cs) (.fn f ps)
 | when (v : Value) (b : Bool) (x : AV) (hx : b = true → RA w Z h gs v x) (hu : b = false → v = undef) : RA w Z h gs v (.when b x)
 | mref (o b K : Nat) (es : List (Value × Nat × AV)) (clock : Nat) (ho : h o = .map es clock) (hg : gs o = some (b, K)) : RA w Z h gs (.map (some b)) (.mref o)
 | iref (o b K m since : Nat) (seen : List Nat) (last : Nat) (ho : h o = .iter m since seen last) (hg : gs o = some (b, K)) : RA w Z h gs (.pointer (some ⟨b, 0, none⟩)) (.iref o)
 | bs (o n b K : Nat) (ty : TypeId) (cells : List AV) (ho : h o = .box ty cells) (hg : gs o = some (b, K)) : RA w Z h gs (.slice (some ⟨b, 0, none⟩) n n) (.bs o n)
def AV.wh : AV → Bool
 | .when b x => b && x.wh
 | _ => true
def AV.strip : AV → AV
 | .when _ x => x.strip
 | x => x
theorem RA.strip {w : World} {Z : Nat → Prop} {h : AH} {gs : Gs} {v : Value} {x : AV} (hx : RA w Z h gs v x) (hw : x.wh = true) : RA w Z h gs v x.strip := by
 induction hx with
 | when v b x _ hu ih =>
   simp only [AV.wh, Bool.and_eq_true] at hw
   exact ih hw.1 hw.2
 | c v x hx => exact .c v x hx
 | agg cs xs hl ho hh => exact .agg cs xs hl ho hh
 | pim a xs g hb hlt hc ho hh => exact .pim a xs g hb hlt hc ho hh
 | ptr o off b K ty cells ho hg => exact .ptr o off b K ty cells ho hg
 | rp v o L i off ty sz n f ho hL hv => exact .rp v o L i off ty sz n f ho hL hv
 | own A k c o L ty sz n f ho hL hv => exact .own A k c o L ty sz n f ho hL hv
 | osub A k' c o L off k ty sz n f ho hL hv => exact .osub A k' c o L off k ty sz n f ho hL hv
 | emp A => exact .emp A
 | fn f cs os hl hp hh => exact .fn f cs os hl hp hh
 | mref o b K es clock ho hg => exact .mref o b K es clock ho hg
 | iref o b K m since seen last ho hg => exact .iref o b K m since seen last ho hg
 | bs o n b K ty cells ho hg => exact .bs o n b K ty cells ho hg
structure Refs (h : AH) (gs : Gs) (h' : AH) (gs' : Gs) : Prop where
 box : ∀ o ty cells, h o = .box ty cells → (∃ ty' cells', h' o = .box ty' cells') ∧ gs' o = gs o
 row : ∀ o ty sz n f, h o = .row ty sz n f → ∃ n' f', h' o = .row ty sz n' f' ∧ n ≤ n' ∧ (n' = n → gs' o = gs o)
 map : ∀ o es c, h o = .map es c → (∃ es' c', h' o = .map es' c') ∧ gs' o = gs o
 iter : ∀ o m s l t, h o = .iter m s l t → (∃ m' s' l' t', h' o = .iter m' s' l' t') ∧ gs' o = gs o
theorem Refs.refl (h : AH) (gs : Gs) : Refs h gs h gs := ⟨fun _ ty cells e => ⟨⟨ty, cells, e⟩, rfl⟩, fun _ _ _ n f e => ⟨n, f, e, Nat.le_refl _, fun _ => rfl⟩, fun _ es c e => ⟨⟨es, c, e⟩, rfl⟩, fun _ m s l t e => ⟨⟨m, s, l, t, e⟩, rfl⟩⟩
theorem RA.later {w w' : World} {Z Z' : Nat → Prop} {h h' : AH} {gs gs' : Gs} {v : Value} {x : AV} (hx : RA w Z h gs v x) (hw : Later w w' Z Z') (hr : Refs h gs h' gs') : RA w' Z' h' gs' v x := by
 induction hx with
 | when v b x _ hu ih => exact .when v b x (fun e => ih e) hu
 | c v x hx => exact .c v x (hx.later hw)
 | agg cs xs hl ho _ ih => exact .agg cs xs hl ho ih
 | pim a xs g hb hlt hc ho hh =>
   refine .pim a xs g (fun hz => hb (hw.avoid _ hz hlt)) (Nat.lt_of_lt_of_le hlt hw.size) (fun j hj => ?_) ho fun j hj => (hh j hj).later hw
   rw [hw.cell (by rw [block_add]; exact hb) (by rw [block_add]; exact hlt)]
   exact hc j hj
 | ptr o off b K ty cells ho hg =>
   obtain ⟨⟨ty', cells', e⟩, e2⟩ := hr.box o ty cells ho
   exact .ptr o off b K ty' cells' e (e2.trans hg)
 | rp v o L i off ty sz n f ho hL hv =>
   obtain ⟨n', f', e, hn, hg⟩ := hr.row o ty sz n f ho
   refine .rp v o L i off ty sz n' f' e (Nat.le_trans hL hn) fun e3 => ?_
   have hn' : n' = n := by omega
   obtain ⟨b, K, e4, e5⟩ := hv (by omega)
   exact ⟨b, K, (hg hn').trans e4, e5⟩
 | own A k c o L ty sz n f ho hL hv =>
   obtain ⟨n', f', e, hn, hg⟩ := hr.row o ty sz n f ho
   refine .own A k c o L ty sz n' f' e (Nat.le_trans hL hn) fun e3 => ?_
   have hn' : n' = n := by omega
   rcases hv (by omega) with ⟨b, K, e4, e5, e6, e7⟩ | ⟨e4, e5⟩
   · exact .inl ⟨b, K, (hg hn').trans e4, e5, by omega, e7⟩
   · exact .inr ⟨(hg hn').trans e4, e5.1, e5.2.1, by omega⟩
 | osub A k' c o L off k ty sz n f ho hL hv =>
   obtain ⟨n', f', e, hn, hg⟩ := hr.row o ty sz n f ho
   refine .osub A k' c o L off k ty sz n' f' e (Nat.le_trans hL hn) fun e3 => ?_
   have hn' : n' = n := by omega
   obtain ⟨e4, e5, e6, e7, e10⟩ := hv (by omega)
   refine ⟨by omega, e5, e6, fun hk => ?_, ?_⟩
   · obtain ⟨b, K, e8, e9⟩ := e7 hk
     exact ⟨b, K, (hg hn').trans e8, e9⟩
   · rcases e10 with ⟨b, K, e8, e9⟩ | ⟨e8, e9, e11⟩
     · exact .inl ⟨b, K, (hg hn').trans e8, e9⟩
     · exact .inr ⟨(hg hn').trans e8, e9, by omega⟩
 | emp A => exact .emp A
 | fn f cs ps hl hp _ ih => exact .fn f cs ps hl hp ih
 | mref o b K es clock ho hg =>
   obtain ⟨⟨es', c', e⟩, e2⟩ := hr.map o es clock ho
   exact .mref o b K es' c' e (e2.trans hg)
 | iref o b K m since seen last ho hg =>
   obtain ⟨⟨m', s', l', t', e⟩, e2⟩ := hr.iter o m since seen last ho
   exact .iref o b K m' s' l' t' e (e2.trans hg)
 | bs o n b K ty cells ho hg =>
   obtain ⟨⟨ty', cells', e⟩, e2⟩ := hr.box o ty cells ho
   exact .bs o n b K ty' cells' e (e2.trans hg)
def RObj (w : World) (Z : Nat → Prop) (h : AH) (gs : Gs) (o : Nat) : AObj → Prop
 | .gone => gs o = none
 | .blk b ob => ∃ K, gs o = some (b, K) ∧ w.heap[b]? = some ob
 | .box ty cells => ∃ b K cur, gs o = some (b, K) ∧ w.heap[b]? = some (.cells cur ty (0, 0)) ∧ cur.size = cells.length ∧
     (∀ j, j < cells.length → (cur.getD j undef).oneCell' = true) ∧ ∀ j, j < cells.length → RA w Z h gs (cur.getD j undef) (cells.getD j default)
 | .map es clock => ∃ b K ents, gs o = some (b, K) ∧ w.heap[b]? = some (.map ents clock) ∧ ents.size = es.length ∧
     (∀ i, i < es.length → (ents.getD i default).key = (es.getD i (undef, 0, default)).1 ∧ (ents.getD i default).born = (es.getD i (undef, 0, default)).2.1) ∧
     ∀ i, i < es.length → RA w Z h gs (ents.getD i default).val (es.getD i (undef, 0, default)).2.2
 | .iter m since seen last => ∃ b K bm Km es c, gs o = some (b, K) ∧ h m = .map es c ∧ gs m = some (bm, Km) ∧ w.heap[b]? = some (.mapIter (some bm) since seen.toArray last)
 | .row ty sz n f => gs o = none ∨ ∃ b K cur, gs o = some (b, K) ∧ w.heap[b]? = some (.cells cur ty (0, 0)) ∧ cur.size = K * sz ∧ n ≤ K ∧ K ≤ maxLen ∧
     (∀ i, i < n → (f i).length = sz) ∧ (∀ j, j < n * sz → (cur.getD j undef).oneCell' = true) ∧
     ∀ i j, i < n → j < sz → RC w Z (cur.getD (i * sz + j) undef) ((f i).getD j .any)
def Zf (Z : Nat → Prop) (gs : Gs) : Nat → Prop := fun b => Z b ∨ ∃ o K, gs o = some (b, K)
class Glb where
 A : Nat → Prop
 M : Nat → Option Obj
 dr : Prop
structure Env where
 w0 : World
 Z : Nat → Prop
 h0 : AH
 gs0 : Gs
 ds : List Deferred
def Env.D (E : Env) : Nat → Prop := fun b => ∃ o K, E.gs0 o = some (b, K)
def Env.In (E : Env) (fo : List Nat) : Prop := ∀ o, E.h0 o ≠ .gone → o ∈ fo
structure BelowX [Glb] (D : Nat → Prop) (w w' : World) : Prop where
 os : w'.os = w.os
 tape : w'.tape = w.tape
 output : w'.output = w.output
 size : w.heap.size ≤ w'.heap.size
 block : ∀ k, k < w.heap.size → ¬ D k → w'.heap[k]? = w.heap[k]?
 drawn : Glb.dr → w.drawn ≤ w'.drawn
structure BelD [Glb] (w w' : World) : Prop extends Below w.heap.size w w' where
 drawn : Glb.dr → w.drawn ≤ w'.drawn
class NoDr [Glb] : Prop where
 no : ¬ Glb.dr
theorem Below.noDr [Glb] [NoDr] {w w' : World} (h : Below w.heap.size w w') : BelD w w' := ⟨h, fun d => absurd d NoDr.no⟩
theorem BelD.refl [Glb] (w : World) : BelD w w := ⟨Below.refl _ _, fun _ => Nat.le_refl _⟩
theorem BelowX.refl [Glb] (D : Nat → Prop) (w : World) : BelowX D w w := ⟨rfl, rfl, rfl, Nat.le_refl _, fun _ _ _ => rfl, fun _ => Nat.le_refl _⟩
theorem BelowX.toD [Glb] {D : Nat → Prop} {w w' : World} (h : BelowX D w w') (hd : ∀ b, ¬ D b) : BelD w w' := ⟨⟨h.os, h.tape, h.output, h.size, fun k hk => h.block k hk (hd k)⟩, h.drawn⟩
theorem BelowX.trans [Glb] {D : Nat → Prop} {a b c : World} (h : BelowX D a b) (k : BelowX D b c) : BelowX D a c :=
 ⟨k.os.trans h.os, k.tape.trans h.tape, k.output.trans h.output, Nat.le_trans h.size k.size, fun i hi hd => (k.block i (Nat.lt_of_lt_of_le hi h.size) hd).trans (h.block i hi hd), fun d => Nat.le_trans (h.drawn d) (k.drawn d)⟩
theorem BelowX.grow [Glb] {D : Nat → Prop} {a b c : World} (h : BelowX D a b) (k : BelD b c) : BelowX D a c :=
 h.trans ⟨k.os, k.tape, k.output, k.size, fun i hi _ => k.block i hi, k.drawn⟩
structure RelG [Glb] (E : Env) (nt : Nat) (s : Nat → AV) (h : AH) (gs : Gs) (a : Act) (w : World) : Prop where
 below : BelowX E.D E.w0 w
 zlt : ∀ b, E.Z b → b < E.w0.heap.size
 zd : ∀ b, E.D b → ¬ E.Z b ∧ b < E.w0.heap.size
 glob : ∀ b, Glb.A b → E.Z b ∧ E.w0.heap[b]? = Glb.M b
 fresh : ∀ o b K, gs o = some (b, K) → (E.w0.heap.size ≤ b ∨ E.D b) ∧ b < w.heap.size
 inj : ∀ o o' b K K', gs o = some (b, K) → gs o' = some (b, K') → o = o'
 objs : ∀ o, RObj w (Zf E.Z gs) h gs o (h o)
 slots : ∀ t, RA w (Zf E.Z gs) h gs (a.tmps.getD t undef) (s t)
 size : a.tmps.size = nt
 defers : a.defers = E.ds
 refs : Refs E.h0 E.gs0 h gs
def Rel [Glb] (E : Env) (nt : Nat) (s : Nat → AV) (h : AH) (a : Act) (w : World) : Prop := ∃ gs, RelG E nt s h gs a w
theorem RelG.glb [Glb] {E : Env} {nt : Nat} {s : Nat → AV} {h : AH} {gs : Gs} {a : Act} {w : World} (R : RelG E nt s h gs a w) : ∀ b, Glb.A b → E.Z b ∧ w.heap[b]? = Glb.M b := fun b hb => by
 have h1 := R.glob b hb
 exact ⟨h1.1, (R.below.block b (R.zlt b h1.1) fun hd => (R.zd b hd).1 h1.1).trans h1.2⟩
theorem Refs.trans {h h' h'' : AH} {gs gs' gs'' : Gs} (a : Refs h gs h' gs') (b : Refs h' gs' h'' gs'') : Refs h gs h'' gs'' := by
 refine ⟨fun o ty cells e => ?_, fun o ty sz n f e => ?_, fun o es c e => ?_, fun o m s l t e => ?_⟩
 · obtain ⟨⟨ty', cells', e1⟩, e2⟩ := a.box o ty cells e
   obtain ⟨e3, e4⟩ := b.box o ty' cells' e1
   exact ⟨e3, e4.trans e2⟩
 · obtain ⟨n', f', e1, e2, e3⟩ := a.row o ty sz n f e
   obtain ⟨n'', f'', e4, e5, e6⟩ := b.row o ty sz n' f' e1
   refine ⟨n'', f'', e4, Nat.le_trans e2 e5, fun q => ?_⟩
   have : n' = n := by omega
   exact (e6 (by omega)).trans (e3 this)
 · obtain ⟨⟨es', c', e1⟩, e2⟩ := a.map o es c e
   obtain ⟨e3, e4⟩ := b.map o es' c' e1
   exact ⟨e3, e4.trans e2⟩
 · obtain ⟨⟨m', s', l', t', e1⟩, e2⟩ := a.iter o m s l t e
   obtain ⟨e3, e4⟩ := b.iter o m' s' l' t' e1
   exact ⟨e3, e4.trans e2⟩
def upd {α : Type} (s : Nat → α) (t : Nat) (x : α) : Nat → α := fun i => if i = t then x else s i
theorem upd_same {α : Type} (s : Nat → α) (t : Nat) (x : α) : upd s t x t = x := by simp [upd]
theorem upd_ne {α : Type} (s : Nat → α) (t i : Nat) (x : α) (h : i ≠ t) : upd s t x i = s i := by simp [upd, h]
def updO (s : Nat → AV) (d : Option Tmp) (x : AV) : Nat → AV := match d with | some t => upd s t x | none => s
theorem put_getD {a : Act} {d t : Nat} {v : Value} (hd : d < a.tmps.size) : (a.put (some d) v).tmps.getD t undef = if t = d then v else a.tmps.getD t undef := by
 unfold Act.put
 simp only [Array.getD_eq_getD_getElem?]
 by_cases h : t = d
 · subst h; simp [hd]
 · simp [h, Array.getElem?_setIfInBounds_ne (Ne.symm h)]
theorem put_size {a : Act} {d : Option Tmp} {v : Value} : (a.put d v).tmps.size = a.tmps.size := by cases d <;> simp [Act.put]
theorem put_def {a : Act} {d : Option Tmp} {v : Value} : (a.put d v).defers = a.defers := by cases d <;> rfl
end Go.Am
namespace Go.Am
open Go.RowKit
section
variable {E : Env} {w w' : World} {nt : Nat} {s : Nat → AV} {h : AH} {gs : Gs} {a : Act}
theorem later_of_below {Z : Nat → Prop} (hb : Below w.heap.size w w') : Later w w' Z Z :=
 ⟨hb.size, fun b _ hl => hb.block b hl, fun _ hz _ => hz⟩
theorem RObj.later {w w' : World} {Z Z' : Nat → Prop} {h h' : AH} {gs gs' : Gs} {o : Nat} {x : AObj} (hx : RObj w Z h gs o x) (hw : Later w w' Z Z') (hr : Refs h gs h' gs')
   (hg : gs' o = gs o) (hb : ∀ b K, gs o = some (b, K) → w'.heap[b]? = w.heap[b]?) : RObj w' Z' h' gs' o x := by
 cases x with
 | gone => exact hg.trans hx
 | blk b ob =>
   obtain ⟨K, e1, e2⟩ := hx
   exact ⟨K, hg.trans e1, (hb b K e1).trans e2⟩
 | box ty cells =>
   obtain ⟨b, K, cur, e1, e2, e3, e4, e5⟩ := hx
   exact ⟨b, K, cur, hg.trans e1, (hb b K e1).trans e2, e3, e4, fun j hj => (e5 j hj).later hw hr⟩
 | map es clock =>
   obtain ⟨b, K, ents, e1, e2, e3, e4, e5⟩ := hx
   exact ⟨b, K, ents, hg.trans e1, (hb b K e1).trans e2, e3, e4, fun i hi => (e5 i hi).later hw hr⟩
 | iter m since seen last =>
   obtain ⟨b, K, bm, Km, es, c, e1, e2, e3, e4⟩ := hx
   obtain ⟨⟨es', c', e5⟩, e6⟩ := hr.map m es c e2
   exact ⟨b, K, bm, Km, es', c', hg.trans e1, e5, e6.trans e3, (hb b K e1).trans e4⟩
 | row ty sz n f =>
   rcases hx with e1 | ⟨b, K, cur, e1, e2, e3, e4, e5, e6, e7, e8⟩
   · exact .inl (hg.trans e1)
   · exact .inr ⟨b, K, cur, hg.trans e1, (hb b K e1).trans e2, e3, e4, e5, e6, e7, fun i j hi hj => (e8 i j hi hj).later hw⟩
theorem RelG.grow [Glb] (R : RelG E nt s h gs a w) (hb : Below w.heap.size w w') (hdr : Glb.dr → w.drawn ≤ w'.drawn := by intro _; first | exact Nat.le_refl _ | exact Nat.le_succ _ | (simp; done)) : RelG E nt s h gs a w' where
 below := R.below.grow ⟨hb, hdr⟩
 zlt := R.zlt
 zd := R.zd
 glob := R.glob
 fresh o b K e := ⟨(R.fresh o b K e).1, Nat.lt_of_lt_of_le (R.fresh o b K e).2 hb.size⟩
 inj := R.inj
 objs o := (R.objs o).later (later_of_below hb) (Refs.refl _ _) rfl fun b K e => hb.block b (R.fresh o b K e).2
 slots t := (R.slots t).later (later_of_below hb) (Refs.refl _ _)
 size := R.size
 defers := R.defers
 refs := R.refs
theorem RelG.put [Glb] (R : RelG E nt s h gs a w) {d : Nat} (hd : d < nt) {v : Value} {x : AV} (hx : RA w (Zf E.Z gs) h gs v x) : RelG E nt (upd s d x) h gs (a.put (some d) v) w where
 below := R.below
 zlt := R.zlt
 zd := R.zd
 glob := R.glob
 fresh := R.fresh
 inj := R.inj
 objs := R.objs
 slots t := by
   rw [put_getD (by rw [R.size]; exact hd)]
   unfold upd
   split
   · exact hx
   · exact R.slots t
 size := by rw [put_size]; exact R.size
 defers := by rw [put_def]; exact R.defers
 refs := R.refs
theorem RelG.putO [Glb] (R : RelG E nt s h gs a w) {d : Option Tmp} (hd : ∀ t, d = some t → t < nt) {v : Value} {x : AV} (hx : RA w (Zf E.Z gs) h gs v x) : RelG E nt (updO s d x) h gs (a.put d v) w := by
 cases d with
 | none => exact R
 | some t => exact R.put (hd t rfl) hx
theorem RelG.eff [Glb] (R : RelG E nt s h gs a w) (o : Nat) (x' : AObj) (g' : Option (Nat × Nat))
   (hos : w'.os = w.os) (htape : w'.tape = w.tape) (hout : w'.output = w.output) (hsz : w.heap.size ≤ w'.heap.size)
   (hblk : ∀ k, k < w.heap.size → (∀ K, gs o ≠ some (k, K)) → w'.heap[k]? = w.heap[k]?)
   (hg : g' = gs o ∨ ∃ b K, g' = some (b, K) ∧ w.heap.size ≤ b ∧ b < w'.heap.size)
   (hbox : ∀ ty cells, h o = .box ty cells → (∃ ty' cells', x' = .box ty' cells') ∧ g' = gs o)
   (hrow : ∀ ty sz n f, h o = .row ty sz n f → ∃ n' f', x' = .row ty sz n' f' ∧ n ≤ n' ∧ (n' = n → g' = gs o))
   (hx : Later w w' (Zf E.Z gs) (Zf E.Z (upd gs o g')) → Refs h gs (upd h o x') (upd gs o g') → RObj w' (Zf E.Z (upd gs o g')) (upd h o x') (upd gs o g') o x')
   (hmap : ∀ es c, h o = .map es c → (∃ es' c', x' = .map es' c') ∧ g' = gs o := by intros; simp_all)
   (hiter : ∀ m s l t, h o = .iter m s l t → (∃ m' s' l' t', x' = .iter m' s' l' t') ∧ g' = gs o := by intros; simp_all)
   (hdr : Glb.dr → w.drawn ≤ w'.drawn := by intro _; first | exact Nat.le_refl _ | exact Nat.le_succ _ | (simp; done)) :
   RelG E nt s (upd h o x') (upd gs o g') a w' := by
 have hlt : ∀ k, k < E.w0.heap.size → ¬ E.D k → ∀ K, gs o ≠ some (k, K) := fun k hk hd K e => by rcases (R.fresh o k K e).1 with q | q; exact absurd hk (by omega); exact hd q
 have hL : Later w w' (Zf E.Z gs) (Zf E.Z (upd gs o g')) := by
   refine ⟨hsz, fun b hb hl => hblk b hl fun K e => hb (.inr ⟨o, K, e⟩), fun b hb hl => ?_⟩
   rcases hb with hb | ⟨o', K, e⟩
   · exact .inl hb
   · by_cases ho : o' = o
     · subst ho
       rw [upd_same] at e
       rcases hg with hg | ⟨b', K', e2, hb', _⟩
       · exact .inr ⟨o', K, hg ▸ e⟩
       · rw [e] at e2
         simp only [Option.some.injEq, Prod.mk.injEq] at e2
         omega
     · rw [upd_ne _ _ _ _ ho] at e
       exact .inr ⟨o', K, e⟩
 have hr : Refs h gs (upd h o x') (upd gs o g') := by
   refine ⟨fun o' ty cells e => ?_, fun o' ty sz n f e => ?_, fun o' es c e => ?_, fun o' m s l t e => ?_⟩
   · by_cases ho : o' = o
     · subst ho
       rw [upd_same, upd_same]
       exact hbox ty cells e
     · rw [upd_ne _ _ _ _ ho, upd_ne _ _ _ _ ho]
       exact ⟨⟨ty, cells, e⟩, rfl⟩
   · by_cases ho : o' = o
     · subst ho
       rw [upd_same, upd_same]
       exact hrow ty sz n f e
     · rw [upd_ne _ _ _ _ ho, upd_ne _ _ _ _ ho]
       exact ⟨n, f, e, Nat.le_refl _, fun _ => rfl⟩
   · by_cases ho : o' = o
     · subst ho
       rw [upd_same, upd_same]
       exact hmap es c e
     · rw [upd_ne _ _ _ _ ho, upd_ne _ _ _ _ ho]
       exact ⟨⟨es, c, e⟩, rfl⟩
   · by_cases ho : o' = o
     · subst ho
       rw [upd_same, upd_same]
       exact hiter m s l t e
     · rw [upd_ne _ _ _ _ ho, upd_ne _ _ _ _ ho]
       exact ⟨⟨m, s, l, t, e⟩, rfl⟩
 refine ⟨?_, R.zlt, R.zd, R.glob, ?_, ?_, ?_, fun t => (R.slots t).later hL hr, R.size, R.defers, R.refs.trans hr⟩
 · exact ⟨hos.trans R.below.os, htape.trans R.below.tape, hout.trans R.below.output, Nat.le_trans R.below.size hsz, fun k hk hd => (hblk k (Nat.lt_of_lt_of_le hk R.below.size) (hlt k hk hd)).trans (R.below.block k hk hd), fun d => Nat.le_trans (R.below.drawn d) (hdr d)⟩
 · intro o' b K e
   by_cases ho : o' = o
   · subst ho
     rw [upd_same] at e
     rcases hg with hg | ⟨b', K', e2, hb', hb2⟩
     · have := R.fresh o' b K (hg ▸ e)
       exact ⟨this.1, by omega⟩
     · rw [e] at e2
       simp only [Option.some.injEq, Prod.mk.injEq] at e2
       have := R.below.size
       exact ⟨.inl (by omega), by omega⟩
   · rw [upd_ne _ _ _ _ ho] at e
     have := R.fresh o' b K e
     exact ⟨this.1, by omega⟩
 · intro o1 o2 b K1 K2 e1 e2
   have hfr : ∀ o' b K, o' ≠ o → gs o' = some (b, K) → ∀ K', upd gs o g' o = some (b, K') → False := by
     intro o' b K ho e K' e'
     rw [upd_same] at e'
     rcases hg with hg | ⟨b', K'', e2, hb', hb2⟩
     · exact ho (R.inj o' o b K K' e (hg ▸ e'))
     · rw [e'] at e2
       simp only [Option.some.injEq, Prod.mk.injEq] at e2
       have := (R.fresh o' b K e).2
       omega
   by_cases h1 : o1 = o <;> by_cases h2 : o2 = o
   · omega
   · subst h1
     rw [upd_ne _ _ _ _ h2] at e2
     exact (hfr o2 b K2 h2 e2 K1 e1).elim
   · subst h2
     rw [upd_ne _ _ _ _ h1] at e1
     exact (hfr o1 b K1 h1 e1 K2 e2).elim
   · rw [upd_ne _ _ _ _ h1] at e1
     rw [upd_ne _ _ _ _ h2] at e2
     exact R.inj o1 o2 b K1 K2 e1 e2
 · intro o'
   by_cases ho : o' = o
   · subst ho
     rw [upd_same]
     exact hx hL hr
   · rw [upd_ne h o o' x' ho]
     refine (R.objs o').later hL hr (upd_ne _ _ _ _ ho) fun b K e => hblk b (R.fresh o' b K e).2 fun K' e' => ho (R.inj o' o b K K' e e')
end
structure TI where
 agg : Bool
 size : Nat
 bytes : Nat
 elem : TypeId
 slice : Bool
 fields : List (Nat × Nat)
 zero : List Value
def zchk (i : TypeInfo) : Bool := match i.zero with
 | some z => z.cells.size == i.size && z.cells.all fun v => v.oneCell'
 | none => true
def tinfo (P : Program) (t : TypeId) : Option TI :=
 match P.info? t, P.underlying t with
 | some i, some d => if zchk i then some {
     agg := match d with | .struct _ => true | .array _ _ => true | _ => false
     size := i.size
     bytes := i.bytes
     elem := match d with | .slice e => e | _ => 0
     slice := match d with | .slice _ => true | _ => false
     fields := match d with | .struct fs => fs.toList.map fun f => (f.offset, P.cellsOf f.type) | _ => []
     zero := match i.zero with | some v => v.cells.toList | none => [] } else none
 | _, _ => none
theorem tinfo_some {P : Program} {t : TypeId} {i : TI} (h : tinfo P t = some i) : ∃ j d, P.info? t = some j ∧ P.underlying t = some d ∧ i.size = j.size ∧ i.bytes = j.bytes ∧
   i.agg = (match d with | .struct _ => true | .array _ _ => true | _ => false) ∧ i.elem = (match d with | .slice e => e | _ => 0) ∧
   i.slice = (match d with | .slice _ => true | _ => false) ∧ i.fields = (match d with | .struct fs => fs.toList.map (fun f => (f.offset, P.cellsOf f.type)) | _ => []) ∧
   i.zero = (match j.zero with | some v => v.cells.toList | none => []) := by
 unfold tinfo at h
 split at h
 · rename_i j d h1 h2
   split at h
   · injection h with h
     subst h
     exact ⟨j, d, h1, h2, rfl, rfl, rfl, rfl, rfl, rfl, rfl⟩
   · cases h
 · cases h
theorem tinfo_zero {P : Program} {t : TypeId} {i : TI} {j : TypeInfo} {z : Value} (h : tinfo P t = some i) (hj : P.info? t = some j) (hz : j.zero = some z) : z.cells.size = j.size ∧ ∀ v ∈ z.cells.toList, v.oneCell' = true := by
 unfold tinfo at h
 split at h
 · rename_i j' d h1 h2
   rw [h1] at hj
   injection hj with hj
   subst hj
   split at h
   · rename_i hc
     unfold zchk at hc
     rw [hz] at hc
     simp only [Bool.and_eq_true, beq_iff_eq, Array.all_eq_true_iff_forall_mem] at hc
     exact ⟨hc.1, fun v hv => hc.2 v (Array.mem_toList_iff.1 hv)⟩
   · cases h
 · cases h
def constAV1 : Value → AV
 | .slice none 0 0 => .emp
 | v => .c (.raw v)
def ev (s : Nat → AV) : Operand → AV
 | .tmp t => s t
 | .const v => constAV1 v
 | .global g => .c (.raw (.pointer (some ⟨g, 0, none⟩)))
 | .func f => .c (.raw (.func (.func f) #[] #[]))
theorem constAV1_ok (w : World) (Z : Nat → Prop) (h : AH) (gs : Gs) (v : Value) : RA w Z h gs v (constAV1 v) := by
 unfold constAV1
 split
 · exact .emp _
 · exact .c _ _ (.raw _)
theorem ev_ok [Glb] {E : Env} {w : World} {nt : Nat} {s : Nat → AV} {h : AH} {gs : Gs} {a : Act} (R : RelG E nt s h gs a w) (x : Operand) : RA w (Zf E.Z gs) h gs (a.eval x) (ev s x) := by
 cases x with
 | tmp t => exact R.slots t
 | const v => exact constAV1_ok _ _ _ _ v
 | global g => exact .c _ _ (.raw _)
 | func f => exact .c _ _ (.raw _)
abbrev AV.int (n : Int) : AV := .c (.raw (.int .i64 n))
abbrev AV.bool (b : Bool) : AV := .c (.raw (.bool b))
abbrev AV.str (b : ByteArray) : AV := .c (.raw (.string b))
abbrev CV.int (n : Int) : CV := .raw (.int .i64 n)
abbrev CV.bool (b : Bool) : CV := .raw (.bool b)
abbrev CV.str (b : ByteArray) : CV := .raw (.string b)
section
variable {w : World} {Z : Nat → Prop} {h : AH} {gs : Gs} {v : Value} {x : AV}
theorem RC.raw_inv {u : Value} (hx : RC w Z v (.raw u)) : v = u := by cases hx; rfl
theorem RA.raw_inv {u : Value} (hx : RA w Z h gs v (.c (.raw u))) : v = u := by
 cases hx with
 | c _ _ hx => exact hx.raw_inv
theorem RA.raw_of {u : Value} (hx : RA w Z h gs v x) (hw : x.wh = true) (he : x.strip = .c (.raw u)) : v = u := by
 have := hx.strip hw
 rw [he] at this
 exact this.raw_inv
theorem RA.c_inv {y : CV} (hx : RA w Z h gs v (.c y)) : RC w Z v y := by
 cases hx with
 | c _ _ hx => exact hx
theorem RA.c_of {y : CV} (hx : RA w Z h gs v x) (hw : x.wh = true) (he : x.strip = .c y) : RC w Z v y := by
 have := hx.strip hw
 rw [he] at this
 exact this.c_inv
end
def isShift : BinOp → Bool
 | .shl | .shr => true
 | _ => false
def binS (op : BinOp) (k : IntKind) (a b : Int) : Option Value := if b < 0 then none else match op with
 | .shl => some (.int k (k.wrap (a * 2 ^ min b.toNat k.bits)))
 | .shr => some (.int k (a.fdiv (2 ^ min b.toNat k.bits)))
 | _ => none
def andI (k : IntKind) (a b : Int) : Int := k.wrap (BitVec.ofInt k.bits a &&& BitVec.ofInt k.bits b).toNat
def orI (k : IntKind) (a b : Int) : Int := k.wrap (BitVec.ofInt k.bits a ||| BitVec.ofInt k.bits b).toNat
def xorI (k : IntKind) (a b : Int) : Int := k.wrap (BitVec.ofInt k.bits a ^^^ BitVec.ofInt k.bits b).toNat
def notI (k : IntKind) (a b : Int) : Int := k.wrap (BitVec.ofInt k.bits a &&& ~~~(BitVec.ofInt k.bits b)).toNat
def binB (op : BinOp) (k : IntKind) (a b : Int) : Option Value := match op with
 | .and => some (.int k (andI k a b))
 | .or => some (.int k (orI k a b))
 | .xor => some (.int k (xorI k a b))
 | .andNot => some (.int k (notI k a b))
 | _ => none
def bin (op : BinOp) : Value → Value → Option Value
 | .int k a, .int k' b => if isShift op then binS op k a b else if k = k' then match op with
     | .add => some (.int k (k.wrap (a + b)))
     | .sub => some (.int k (k.wrap (a - b)))
     | .mul => some (.int k (k.wrap (a * b)))
     | .eql => some (.bool (a == b))
     | .neq => some (.bool (a != b))
     | .lss => some (.bool (decide (a < b)))
     | .leq => some (.bool (decide (a ≤ b)))
     | .gtr => some (.bool (decide (b < a)))
     | .geq => some (.bool (decide (b ≤ a)))
     | .rem => if b = 0 then none else some (.int k (a.tmod b))
     | .quo => if b = 0 then none else some (.int k (k.wrap (a.tdiv b)))
     | _ => binB op k a b
   else none
 | .string a, .string b => match op with
     | .eql => some (.bool (a.toList == b.toList))
     | .neq => some (.bool !(a.toList == b.toList))
     | .lss => some (.bool (Op.bytesLess a.toList b.toList))
     | .leq => some (.bool (Op.bytesLess a.toList b.toList || a.toList == b.toList))
     | .gtr => some (.bool !(Op.bytesLess a.toList b.toList || a.toList == b.toList))
     | .geq => some (.bool !(Op.bytesLess a.toList b.toList))
     | .add => if a.size + b.size ≤ 9223372036854775807 then some (.string (a ++ b)) else none
     | _ => none
 | _, _ => none
end Go.Am
namespace Go.Am
open Go.RowKit
def AV.one : AV → Bool
 | .c (.raw v) => v.oneCell'
 | .c (.im _ _ _) | .c .emp | .c (.ptr _) | .c (.clo _ _) | .c (.mp _) | .pim _ | .ptr _ _ | .rp _ _ _ _ | .own _ _ | .osub _ _ _ _ | .emp | .fn _ _ | .mref _ | .iref _ | .bs _ _ => true
 | _ => false
def AV.cells : AV → Option (List AV)
 | .agg xs => some xs
 | .c (.agg xs) => some (xs.map .c)
 | x => if x.one then some [x] else none
def AV.closed1 : AV → Option CV
 | .c x => some x
 | .emp => some (.im 0 0 fun _ => [])
 | .pim xs => some (.ptr xs)
 | _ => none
def closedL : List AV → Option (List CV)
 | [] => some []
 | x :: r => match x.closed1, closedL r with
   | some y, some ys => some (y :: ys)
   | _, _ => none
def AV.closedCells (x : AV) : Option (List CV) := match x.cells with
 | some l => closedL l
 | none => none
def addOff (off : Nat) : AV → Option AV
 | .pim xs => some (.pim (xs.drop off))
 | .c (.ptr xs) => some (.pim (xs.drop off))
 | .ptr o k => some (.ptr o (k + off))
 | .rp o L i k => some (.rp o L i (k + off))
 | _ => none
def setL (cs : List AV) (off : Nat) (xs : List AV) : List AV := cs.take off ++ xs ++ cs.drop (off + xs.length)
def bfill (fields : List (Nat × Nat)) (cs : List AV) : List (Nat × AV) → Option (List AV)
 | [] => some cs
 | (i, x) :: r => match fields[i]? with
   | some (off, sz) => match x.cells with
     | some l => if l.length = sz ∧ off + sz ≤ cs.length then bfill fields (setL cs off l) r else none
     | none => none
   | none => none
def partsC (e : Operand → AV) : List (Nat × Operand) → Nat → Nat → Option (List (List CV))
 | [], _, _ => some []
 | (i, y) :: r, k, sz => if i = k then match (e y).strip.closedCells, partsC e r (k + 1) sz with
     | some cs, some l => if cs.length = sz then some (cs :: l) else none
     | _, _ => none
   else none
def rawsL : List CV → Option (List Value)
 | [] => some []
 | .raw v :: r => (rawsL r).map (v :: ·)
 | _ :: _ => none
def AV.rawAgg : AV → Option (List Value)
 | .c (.agg xs) => rawsL xs
 | .agg xs => match closedL xs with
   | some ys => rawsL ys
   | none => none
 | _ => none
def byteAt (b : ByteArray) (i : Nat) : Int := ((b[i]?.getD 0).toNat : Int)
def AV.isPtr : AV → Bool
 | .ptr _ _ | .rp _ _ _ _ | .pim _ | .fn _ _ | .c (.ptr _) | .c (.clo _ _) => true
 | _ => false
def notIface : TypeDesc → Bool
 | .interface _ => false
 | _ => true
def AV.isAddr : AV → Bool
 | .ptr _ _ | .rp _ _ _ _ | .pim _ | .c (.ptr _) => true
 | _ => false
def nilCmp : BinOp → Option Bool
 | .eql => some false
 | .neq => some true
 | _ => none
def RawBin (P : Program) (op : BinOp) (t : TypeId) (v1 v2 v : Value) : Prop := ∀ (y z : Operand) (w : World), (do eqGuard op t y z v1 v2; binOp op t v1 v2 : Sem Value).run P w = .ok v w
def AggBin (P : Program) (op : BinOp) (t : TypeId) (us vs : List Value) (v : Value) : Prop :=
 ∀ (y z : Operand) (w : World), (do eqGuard op t y z (.agg us.toArray) (.agg vs.toArray); binOp op t (.agg us.toArray) (.agg vs.toArray) : Sem Value).run P w = .ok v w
def bldArr (P : Program) (t : TypeId) (e : Operand → AV) (parts : Array (Nat × Operand)) (G : Bool) (x : AV) : Prop :=
 ∃ i j el m cs, tinfo P t = some i ∧ P.underlying t = some (.array m el) ∧ tinfo P el = some j ∧ j.size = 1 ∧ i.zero ≠ [] ∧ bfill ((List.range m).map fun q => (q, 1)) (i.zero.map constAV1) (parts.toList.map fun p => (p.1, (e p.2).strip)) = some cs ∧
   (G = true → ∀ p ∈ parts.toList, (e p.2).wh = true) ∧ x = .agg cs
def aop0 (P : Program) (op : Op) (e : Operand → AV) (G : Bool) (x : AV) : Prop :=
 match op with
 | .move y | .assign y => x = e y
 | .pick c y z => ∃ b p q, (e c).strip = .bool b ∧ (e y).strip = .bool p ∧ (e z).strip = .bool q ∧
     (G = true → (e c).wh = true ∧ (b = true → (e y).wh = true) ∧ (b = false → (e z).wh = true)) ∧ x = .bool (bif b then p else q)
 | .binOp op t y z _ =>
     match (e y).strip with
     | .c (.raw v1) => ∃ v2 v, (e z).strip = .c (.raw v2) ∧ (bin op v1 v2 = some v ∨ RawBin P op t v1 v2 v) ∧ (G = true → (e y).wh = true ∧ (e z).wh = true) ∧ x = .c (.raw v)
     | q => (q.isAddr = true ∧ (e z).strip = .c (.raw (.pointer none)) ∧ (G = true → (e y).wh = true ∧ (e z).wh = true) ∧ ∃ v, nilCmp op = some v ∧ (∃ t', P.underlying t = some (.pointer t')) ∧ x = .bool v) ∨ ∃ us vs v, q.rawAgg = some us ∧ (e z).strip.rawAgg = some vs ∧ AggBin P op t us vs v ∧ (G = true → (e y).wh = true ∧ (e z).wh = true) ∧ x = .c (.raw v)
 | .unOp .not _ y => ∃ b, (e y).strip = .bool b ∧ (G = true → (e y).wh = true) ∧ x = .bool (!b)
 | .unOp .neg _ y => ∃ k n, (e y).strip = .c (.raw (.int k n)) ∧ (G = true → (e y).wh = true) ∧ x = .c (.raw (.int k (k.wrap (0 - n))))
 | .fieldAddr t y f => ∃ i off sz, tinfo P t = some i ∧ i.fields[f]? = some (off, sz) ∧ sz ≠ 0 ∧ addOff off (e y).strip = some x ∧ (G = true → (e y).wh = true)
 | .extract y i => ∃ xs, (e y).strip = .c (.tup xs) ∧ (G = true → (e y).wh = true ∧ i < xs.length) ∧ x = .c (xs.getD i .any)
 | .build t parts => bldArr P t e parts G x ∨ ∃ i cs, tinfo P t = some i ∧ i.agg = true ∧ i.zero ≠ [] ∧ i.fields ≠ [] ∧ (∀ p ∈ i.fields, p.2 ≠ 0) ∧ bfill i.fields (i.zero.map constAV1) (parts.toList.map fun p => (p.1, (e p.2).strip)) = some cs ∧
     (G = true → ∀ p ∈ parts.toList, (e p.2).wh = true) ∧ x = .agg cs
 | .buildSlice t len parts => ∃ i j l, tinfo P t = some i ∧ i.slice = true ∧ tinfo P i.elem = some j ∧ len = parts.size ∧ len * j.size ≤ 2 ^ 24 ∧ partsC e parts.toList 0 j.size = some l ∧
     (len = 0 ∨ j.zero ≠ []) ∧ (G = true → ∀ p ∈ parts.toList, (e p.2).wh = true) ∧ x = (if len = 0 then .emp else .c (.im j.size len fun i => l.getD i []))
 | .convert src dst y => ∃ k k' n, (∃ d, P.underlying src = some d) ∧ P.underlying dst = some (.int k) ∧ (e y).strip = .c (.raw (.int k' n)) ∧ (G = true → (e y).wh = true) ∧ x = .c (.raw (.int k (k.wrap n)))
 | .nilCheck y => (G = true → (e y).wh = true) ∧ (e y).strip.isPtr = true ∧ x = (e y).strip
 | .index t y z => P.underlying t = some .string ∧ ∃ b k n, (e y).strip = .c (.raw (.string b)) ∧ (e z).strip = .c (.raw (.int k n)) ∧ (G = true → (e y).wh = true ∧ (e z).wh = true ∧ 0 ≤ n ∧ n < (b.size : Int)) ∧ x = .c (.raw (.int .u8 (byteAt b n.toNat)))
 | .makeInterface t y => (∃ d, P.underlying t = some d ∧ notIface d = true) ∧ (G = true → (e y).wh = true) ∧ ∃ v, ((e y).strip = .c (.raw v) ∨ ∃ us, (e y).strip.rawAgg = some us ∧ v = .agg us.toArray) ∧ x = .c (.raw (.iface t v))
 | .makeFunc fn first caps => ∃ f os, fn = .func f ∧ first = #[] ∧ (G = true → ∀ y ∈ caps.toList, (e y).wh = true) ∧ (caps.toList.map fun y => (e y).strip) = os ∧ (os.all fun x => x.flatP && x.one) = true ∧ x = .fn f os
 | .call { callee := .builtin .min, args := args, .. } => ∃ y z k a b, args = #[y, z] ∧ (e y).strip = .c (.raw (.int k a)) ∧ (e z).strip = .c (.raw (.int k b)) ∧ (G = true → (e y).wh = true ∧ (e z).wh = true) ∧
     x = .c (.raw (.int k (if b < a then b else a)))
 | .call { callee := .builtin .max, args := args, .. } => ∃ y z k a b, args = #[y, z] ∧ (e y).strip = .c (.raw (.int k a)) ∧ (e z).strip = .c (.raw (.int k b)) ∧ (G = true → (e y).wh = true ∧ (e z).wh = true) ∧
     x = .c (.raw (.int k (if a < b then b else a)))
 | _ => False
section
variable {E : Env} {w : World} {nt : Nat} {s : Nat → AV} {h : AH} {gs : Gs} {a : Act} {P : Program}
theorem RA.drop_pim {Z : Nat → Prop} {v : Value} {xs : List CV} (hx : RA w Z h gs v (.pim xs)) (off : Nat) : ∃ ad, v = .pointer (some ad) ∧ RA w Z h gs (.pointer (some (ad.add off))) (.pim (xs.drop off)) := by
 cases hx with
 | pim ad _ g hb hlt hc ho hh =>
   refine ⟨ad, rfl, .pim _ _ (fun j => g (off + j)) (by rw [block_add]; exact hb) (by rw [block_add]; exact hlt) (fun j hj => ?_) (fun j hj => ho _ ?_) fun j hj => ?_⟩
   · rw [List.length_drop] at hj
     rw [add_add]
     exact hc _ (by omega)
   · rw [List.length_drop] at hj
     omega
   · rw [List.length_drop] at hj
     have := hh (off + j) (by omega)
     rw [List.getD_eq_getElem?_getD] at this ⊢
     rw [List.getElem?_drop]
     exact this
theorem addr_lit (b o n : Nat) : Addr.add ⟨b, o, none⟩ n = ⟨b, o + n, none⟩ := by unfold Addr.add; split <;> simp_all
theorem addOff_ok {Z : Nat → Prop} {v : Value} {x y : AV} {off : Nat} (hx : RA w Z h gs v x) (e : addOff off x = some y) : ∃ ad, v = .pointer (some ad) ∧ RA w Z h gs (.pointer (some (ad.add off))) y := by
 match x, e with
 | .c (.ptr xs), e =>
   simp only [addOff, Option.some.injEq] at e
   subst e
   cases hx with
   | c _ _ hx =>
     cases hx with
     | ptr ad _ g hb hlt hc ho hh => exact RA.drop_pim (.pim ad xs g hb hlt hc ho hh) off
 | .pim xs, e =>
 cases hx <;> simp only [addOff, Option.some.injEq, reduceCtorEq] at e
 case pim ad g hb hlt hc ho hh =>
   subst e
   exact RA.drop_pim (.pim ad xs g hb hlt hc ho hh) off
 | .ptr o k, e =>
 cases hx <;> simp only [addOff, Option.some.injEq, reduceCtorEq] at e
 case ptr b K ty cells ho hg =>
   subst e
   exact ⟨_, rfl, by rw [addr_lit]; exact .ptr o _ b K ty cells ho hg⟩
 | .rp o L i k, e =>
 cases hx <;> simp only [addOff, Option.some.injEq, reduceCtorEq] at e
 case rp ad ty sz n f ho hL hv =>
   subst e
   refine ⟨ad, rfl, .rp _ o L i _ ty sz n f ho hL fun hn => ?_⟩
   obtain ⟨b, K, e1, e2⟩ := hv hn
   exact ⟨b, K, e1, by rw [e2, addr_lit, Nat.add_assoc]⟩
theorem cells_one {v : Value} (hv : v.oneCell' = true) : v.cells = #[v] := by cases v <;> simp [Value.oneCell', Value.cells] at hv ⊢
theorem RA.one_of {Z : Nat → Prop} {v : Value} {x : AV} (hx : RA w Z h gs v x) (ho : x.one = true) : v.oneCell' = true := by
 cases hx <;> simp only [AV.one, Bool.false_eq_true] at ho <;> try rfl
 rename_i y hy
 cases hy <;> simp only [Bool.false_eq_true] at ho <;> first | rfl | exact ho
theorem RA.cells_of {Z : Nat → Prop} {v : Value} {x : AV} {l : List AV} (hx : RA w Z h gs v x) (hc : x.cells = some l) : v.cells.size = l.length ∧ (∀ i, i < l.length → (v.cells.getD i undef).oneCell' = true) ∧
   ∀ i, i < l.length → RA w Z h gs (v.cells.getD i undef) (l.getD i default) := by
 have one : ∀ (y : AV), RA w Z h gs v y → (if y.one then some [y] else none) = some l → v.cells.size = l.length ∧ (∀ i, i < l.length → (v.cells.getD i undef).oneCell' = true) ∧
     ∀ i, i < l.length → RA w Z h gs (v.cells.getD i undef) (l.getD i default) := by
   intro y hy e
   split at e
   · rename_i hone
     injection e with e
     subst e
     have hv := hy.one_of hone
     rw [cells_one hv]
     refine ⟨rfl, fun i hi => ?_, fun i hi => ?_⟩
     · have : i = 0 := by simpa using hi
       subst this
       exact hv
     · have : i = 0 := by simpa using hi
       subst this
       exact hy
   · cases e
 unfold AV.cells at hc
 split at hc
 · injection hc with hc
   subst hc
   cases hx with
   | agg cs xs hl ho hh => exact ⟨hl, ho, hh⟩
 · rename_i xs
   injection hc with hc
   subst hc
   cases hx with
   | c _ _ hx =>
     cases hx with
     | agg cs _ hl ho hh =>
       refine ⟨by simpa [Value.cells] using hl, fun i hi => ho i (by simpa using hi), fun i hi => ?_⟩
       have hi' : i < xs.length := by simpa using hi
       rw [getD_lt hi, List.getElem_map]
       have := hh i hi'
       rw [getD_lt hi'] at this
       exact .c _ _ this
 · exact one x hx hc
theorem RA.closed1_of {Z : Nat → Prop} {v : Value} {x : AV} {y : CV} (hx : RA w Z h gs v x) (hc : x.closed1 = some y) : RC w Z v y := by
 cases hx <;> simp only [AV.closed1, Option.some.injEq, reduceCtorEq] at hc
 case c x hx => subst hc; exact hx
 case emp => subst hc; exact .nul _ _ _ _
 case pim a xs g hb hlt hcc ho hh => subst hc; exact .ptr a xs g hb hlt hcc ho hh
theorem closedL_of : ∀ {l : List AV} {ys : List CV}, closedL l = some ys → ys.length = l.length ∧ ∀ i, i < l.length → (l.getD i default).closed1 = some (ys.getD i .any)
 | [], ys, e => by simp only [closedL, Option.some.injEq] at e; subst e; exact ⟨rfl, fun i hi => by simp at hi⟩
 | x :: r, ys, e => by
   simp only [closedL] at e
   split at e
   · rename_i y ys' e1 e2
     injection e with e
     subst e
     obtain ⟨h1, h2⟩ := closedL_of e2
     refine ⟨by simp [h1], fun i hi => ?_⟩
     cases i with
     | zero => exact e1
     | succ i => exact h2 i (by simpa using hi)
   · cases e
theorem RA.closedCells_of {Z : Nat → Prop} {v : Value} {x : AV} {l : List CV} (hx : RA w Z h gs v x) (hc : x.closedCells = some l) : v.cells.size = l.length ∧ (∀ i, i < l.length → (v.cells.getD i undef).oneCell' = true) ∧
   ∀ i, i < l.length → RC w Z (v.cells.getD i undef) (l.getD i .any) := by
 unfold AV.closedCells at hc
 split at hc
 · rename_i xs e
   obtain ⟨h1, h2, h3⟩ := hx.cells_of e
   obtain ⟨h4, h5⟩ := closedL_of hc
   exact ⟨by omega, fun i hi => h2 i (by omega), fun i hi => (h3 i (by omega)).closed1_of (h5 i (by omega))⟩
 · cases hc
theorem binS_ok {op : BinOp} {t : TypeId} {k k' : IntKind} {n m : Int} {v : Value} (y z : Operand) (hb : binS op k n m = some v) : (do eqGuard op t y z (.int k n) (.int k' m); binOp op t (.int k n) (.int k' m) : Sem Value).run P w = .ok v w := by
 unfold binS at hb
 split at hb
 · cases hb
 · rename_i hm
   cases op <;> simp only [Option.some.injEq, reduceCtorEq] at hb
   all_goals
     subst hb
     simp [binOp, Op.shift, go_sem, hm]
theorem bin_ok {op : BinOp} {t : TypeId} {v1 v2 v : Value} (y z : Operand) (hb : bin op v1 v2 = some v) : (do eqGuard op t y z v1 v2; binOp op t v1 v2 : Sem Value).run P w = .ok v w := by
 unfold bin at hb
 split at hb
 · rename_i k n k' m
   split at hb
   · exact binS_ok y z hb
   · rename_i hns
     split at hb
     · rename_i hk
       subst hk
       cases op <;> simp only [isShift, Bool.true_eq, not_true_eq_false, Option.some.injEq, reduceCtorEq, binB] at hb hns <;> first
         | (subst hb; simp [binOp, Op.intArith, Op.intCmp, Op.intBits, andI, orI, xorI, notI, go_sem]; done)
         | (split at hb
            · cases hb
            · rename_i hne
              simp only [Option.some.injEq] at hb
              subst hb
              simp [binOp, Op.intDiv, hne, go_sem])
     · cases hb
 · rename_i a b
   cases op <;> simp only [Option.some.injEq, reduceCtorEq] at hb <;> first
     | (subst hb; simp [binOp, Op.stringOp, go_sem]; done)
     | (split at hb
        · rename_i hle
          simp only [Option.some.injEq] at hb
          subst hb
          have : ¬ IntKind.i64.max < (a.size : Int) + b.size := by show ¬ (9223372036854775807 : Int) < _; omega
          simp [binOp, Op.stringOp, go_sem, this]
          try omega
        · cases hb)
 · cases hb
theorem aop0_move [Glb] (R : RelG E nt s h gs a w) {d : Option Tmp} {ty : TypeId} {pos : String} {af : Array Edge} {gd : Option (Nat × Bool)} {x : AV} (op : Op) (y : Operand) (hop : op = .move y ∨ op = .assign y) (hx : x = ev s y) :
   ∃ v w', (execOp a.eval ⟨d, op, ty, pos, af, gd⟩).run P w = .ok (.value v) w' ∧ Below w.heap.size w w' ∧ RA w' (Zf E.Z gs) h gs v x := by
 subst hx
 refine ⟨a.eval y, w, ?_, Below.refl _ _, ev_ok R y⟩
 rcases hop with rfl | rfl <;> simp [execOp]
theorem aop0_pick [Glb] (R : RelG E nt s h gs a w) {d : Option Tmp} {ty : TypeId} {pos : String} {af : Array Edge} {gd : Option (Nat × Bool)} {x : AV} (c y z : Operand) (hx : aop0 P (.pick c y z) (ev s) true x) :
   ∃ v w', (execOp a.eval ⟨d, .pick c y z, ty, pos, af, gd⟩).run P w = .ok (.value v) w' ∧ Below w.heap.size w w' ∧ RA w' (Zf E.Z gs) h gs v x := by
 obtain ⟨b, p, q, e1, e2, e3, hw, rfl⟩ := hx
 obtain ⟨h1, h2, h3⟩ := hw rfl
 have c1 := (ev_ok R c).raw_of h1 e1
 refine ⟨.bool (bif b then p else q), w, ?_, Below.refl _ _, .c _ _ (.raw _)⟩
 cases b with
 | true =>
   have c2 := (ev_ok R y).raw_of (h2 rfl) e2
   simp [execOp, c1, c2, asBool]
 | false =>
   have c3 := (ev_ok R z).raw_of (h3 rfl) e3
   simp [execOp, c1, c3, asBool]
theorem rawsL_of {Z : Nat → Prop} : ∀ (xs : List CV) (us : List Value) (cs : List Value), rawsL xs = some us → cs.length = xs.length → (∀ i, i < xs.length → RC w Z (cs.getD i undef) (xs.getD i .any)) → cs = us
 | [], us, cs, e, hl, _ => by
   simp only [rawsL, Option.some.injEq] at e
   subst e
   exact List.eq_nil_of_length_eq_zero (by simpa using hl)
 | x :: xs, us, cs, e, hl, hh => by
   cases x with
   | raw v =>
     simp only [rawsL, Option.map_eq_some_iff] at e
     obtain ⟨us', e1, rfl⟩ := e
     cases cs with
     | nil => simp at hl
     | cons c cs =>
       have h0 := (hh 0 (by simp)).raw_inv
       have h1 := rawsL_of xs us' cs e1 (by simpa using hl) (fun i hi => hh (i + 1) (by simpa using hi))
       rw [h1]
       have h2 : c = v := h0
       rw [h2]
   | _ => simp [rawsL] at e
theorem RA.rawAgg_of {Z : Nat → Prop} {v : Value} {x : AV} {us : List Value} (hx : RA w Z h gs v x) (e : x.rawAgg = some us) : v = .agg us.toArray := by
 have key : ∀ (cs : Array Value) (ys : List CV), cs.size = ys.length → (∀ i, i < ys.length → RC w Z (cs.getD i undef) (ys.getD i .any)) → rawsL ys = some us → Value.agg cs = .agg us.toArray := by
   intro cs ys hl hh e
   have := rawsL_of ys us cs.toList e (by simpa using hl) (fun i hi => by
     have := hh i hi
     rw [show cs.toList.getD i undef = cs.getD i undef by simp [List.getD_eq_getElem?_getD, Array.getD_eq_getD_getElem?]]
     exact this)
   rw [← this]
 cases hx with
 | c _ y hy =>
   cases hy <;> simp only [AV.rawAgg, reduceCtorEq] at e
   case agg cs xs hl ho hh => exact key cs xs hl hh e
 | agg cs xs hl ho hh =>
   simp only [AV.rawAgg] at e
   split at e
   · rename_i ys e1
     obtain ⟨h1, h2⟩ := closedL_of e1
     exact key cs ys (by omega) (fun i hi => (hh i (by omega)).closed1_of (h2 i (by omega))) e
   · cases e
 | _ => simp [AV.rawAgg] at e
theorem RA.addr_of {Z : Nat → Prop} {v : Value} {x : AV} (hx : RA w Z h gs v x) (e : x.isAddr = true) : ∃ ad, v = .pointer (some ad) := by
 cases hx <;> simp only [AV.isAddr, Bool.false_eq_true] at e
 case c x hx => cases hx <;> simp only [Bool.false_eq_true] at e; exact ⟨_, rfl⟩
 all_goals exact ⟨_, rfl⟩
theorem aop0_binOp [Glb] (R : RelG E nt s h gs a w) {d : Option Tmp} {ty : TypeId} {pos : String} {af : Array Edge} {gd : Option (Nat × Bool)} {x : AV} (op : BinOp) (t t2 : TypeId) (y z : Operand) (hx : aop0 P (.binOp op t y z t2) (ev s) true x) :
   ∃ v w', (execOp a.eval ⟨d, .binOp op t y z t2, ty, pos, af, gd⟩).run P w = .ok (.value v) w' ∧ Below w.heap.size w w' ∧ RA w' (Zf E.Z gs) h gs v x := by
 have agg : ∀ us vs v, (ev s y).strip.rawAgg = some us → (ev s z).strip.rawAgg = some vs → AggBin P op t us vs v → (ev s y).wh = true → (ev s z).wh = true →
     (execOp a.eval ⟨d, .binOp op t y z t2, ty, pos, af, gd⟩).run P w = .ok (.value v) w := by
   intro us vs v e1 e2 hb h1 h2
   have c1 := ((ev_ok R y).strip h1).rawAgg_of e1
   have c2 := ((ev_ok R z).strip h2).rawAgg_of e2
   have := hb y z w
   simp only [execOp, c1, c2]
   simp only [Sem.run_bind] at this ⊢
   rw [this]
   simp
 simp only [aop0] at hx
 split at hx
 · rename_i v1 e1
   obtain ⟨v2, v, e2, e3, hw, rfl⟩ := hx
   obtain ⟨h1, h2⟩ := hw trivial
   have c1 := (ev_ok R y).raw_of h1 e1
   have c2 := (ev_ok R z).raw_of h2 e2
   refine ⟨v, w, ?_, Below.refl _ _, .c _ _ (.raw _)⟩
   have hb : (do eqGuard op t y z v1 v2; binOp op t v1 v2 : Sem Value).run P w = .ok v w := by
     rcases e3 with e3 | e3
     · exact bin_ok y z e3
     · exact e3 y z w
   simp only [execOp, c1, c2]
   simp only [Sem.run_bind] at hb ⊢
   rw [hb]
   simp
 · rcases hx with ⟨e1, e2, hw, v, e3, ⟨t', ht⟩, rfl⟩ | ⟨us, vs, v, e1, e2, hb, hw, rfl⟩
   · obtain ⟨h1, h2⟩ := hw trivial
     have c1 := (ev_ok R y).strip h1
     have c2 := (ev_ok R z).raw_of h2 e2
     refine ⟨.bool v, w, ?_, Below.refl _ _, .c _ _ (.raw _)⟩
     obtain ⟨ad, had⟩ := c1.addr_of e1
     have hp : P.underlying t = some (.pointer (P.pointee t)) := by unfold Program.pointee; rw [ht]
     have q1 := run_eql_pointer_nil w t (some ad) hp
     have q2 := run_neq_pointer_nil w t (some ad) hp
     cases op <;> simp only [nilCmp, Option.some.injEq, reduceCtorEq] at e3 <;> subst e3 <;> simp [execOp, c2, had, eqGuard, q1, q2, run_underlying ht]
   · obtain ⟨h1, h2⟩ := hw trivial
     exact ⟨v, w, agg us vs v e1 e2 hb h1 h2, Below.refl _ _, .c _ _ (.raw _)⟩
theorem aop0_unOp [Glb] (R : RelG E nt s h gs a w) {d : Option Tmp} {ty : TypeId} {pos : String} {af : Array Edge} {gd : Option (Nat × Bool)} {x : AV} (op : UnOp) (t : TypeId) (y : Operand) (hx : aop0 P (.unOp op t y) (ev s) true x) :
   ∃ v w', (execOp a.eval ⟨d, .unOp op t y, ty, pos, af, gd⟩).run P w = .ok (.value v) w' ∧ Below w.heap.size w w' ∧ RA w' (Zf E.Z gs) h gs v x := by
 cases op with
 | not =>
   obtain ⟨b, e1, hw, rfl⟩ := hx
   have c1 := (ev_ok R y).raw_of (hw rfl) e1
   exact ⟨.bool (!b), w, by simp [execOp, c1, Op.unary], Below.refl _ _, .c _ _ (.raw _)⟩
 | neg =>
   obtain ⟨k, n, e1, hw, rfl⟩ := hx
   have c1 := (ev_ok R y).raw_of (hw rfl) e1
   exact ⟨.int k (k.wrap (0 - n)), w, by simp [execOp, c1, Op.unary, Op.intArith], Below.refl _ _, .c _ _ (.raw _)⟩
 | _ => exact hx.elim
theorem aop0_convert [Glb] (R : RelG E nt s h gs a w) {d : Option Tmp} {ty : TypeId} {pos : String} {af : Array Edge} {gd : Option (Nat × Bool)} {x : AV} (t t2 : TypeId) (y : Operand) (hx : aop0 P (.convert t t2 y) (ev s) true x) :
   ∃ v w', (execOp a.eval ⟨d, .convert t t2 y, ty, pos, af, gd⟩).run P w = .ok (.value v) w' ∧ Below w.heap.size w w' ∧ RA w' (Zf E.Z gs) h gs v x := by
 obtain ⟨k, k', n, ⟨d', hd⟩, hu, e1, hw, rfl⟩ := hx
 have c1 := (ev_ok R y).raw_of (hw rfl) e1
 refine ⟨.int k (k.wrap n), w, ?_, Below.refl _ _, .c _ _ (.raw _)⟩
 simp [execOp, c1, convert, run_underlying hu, run_underlying hd, Conv.intToInt]
theorem aop0_extract [Glb] (R : RelG E nt s h gs a w) {d : Option Tmp} {ty : TypeId} {pos : String} {af : Array Edge} {gd : Option (Nat × Bool)} {x : AV} (y : Operand) (i : Nat) (hx : aop0 P (.extract y i) (ev s) true x) :
   ∃ v w', (execOp a.eval ⟨d, .extract y i, ty, pos, af, gd⟩).run P w = .ok (.value v) w' ∧ Below w.heap.size w w' ∧ RA w' (Zf E.Z gs) h gs v x := by
 obtain ⟨xs, e1, hw, rfl⟩ := hx
 obtain ⟨h1, h2⟩ := hw rfl
 have c1 := (ev_ok R y).c_of h1 e1
 generalize hvy : a.eval y = vy at c1
 cases c1 with
 | tup cs _ hl hh =>
   refine ⟨cs.getD i undef, w, ?_, Below.refl _ _, .c _ _ (hh i h2)⟩
   have hi : i < cs.size := by omega
   simp [execOp, hvy, Instr.extract, Array.getElem?_eq_getElem hi, Array.getD, hi]
theorem aop0_fieldAddr [Glb] (R : RelG E nt s h gs a w) {d : Option Tmp} {ty : TypeId} {pos : String} {af : Array Edge} {gd : Option (Nat × Bool)} {x : AV} (t : TypeId) (y : Operand) (f : Nat) (hx : aop0 P (.fieldAddr t y f) (ev s) true x) :
   ∃ v w', (execOp a.eval ⟨d, .fieldAddr t y f, ty, pos, af, gd⟩).run P w = .ok (.value v) w' ∧ Below w.heap.size w w' ∧ RA w' (Zf E.Z gs) h gs v x := by
 obtain ⟨i, off, sz, e1, e2, e3, e4, hw⟩ := hx
 have c1 := (ev_ok R y).strip (hw rfl)
 obtain ⟨ad, c2, c3⟩ := addOff_ok c1 e4
 obtain ⟨j, dd, t1, t2, -, -, -, -, -, t8, -⟩ := tinfo_some e1
 cases dd with
 | struct fs =>
   simp only at t8
   rw [t8, List.getElem?_map, Option.map_eq_some_iff] at e2
   obtain ⟨fl, e5, e6⟩ := e2
   simp only [Prod.mk.injEq] at e6
   obtain ⟨rfl, e7⟩ := e6
   have e8 : fs[f]? = some fl := by rw [← Array.getElem?_toList]; exact e5
   refine ⟨.pointer (some (ad.add fl.offset)), w, ?_, Below.refl _ _, c3⟩
   have hs : (sizeOf fl.type).run P w = .ok (P.cellsOf fl.type) w := by
     unfold Program.cellsOf at e7 ⊢
     cases hi : P.info? fl.type with
     | none => rw [hi] at e7; simp at e7; omega
     | some k => simp [sizeOf, typeInfo, hi]
   have hne : P.cellsOf fl.type ≠ 0 := by omega
   simp [execOp, c2, Instr.fieldAt, run_underlying t2, e8, Instr.sureAddr, fieldPlace, hs, hne]
 | _ => simp_all
def CellsAre (w : World) (Z : Nat → Prop) (h : AH) (gs : Gs) (cur : Array Value) (l : List AV) : Prop :=
 cur.size = l.length ∧ (∀ i, i < l.length → (cur.getD i undef).oneCell' = true) ∧ ∀ i, i < l.length → RA w Z h gs (cur.getD i undef) (l.getD i default)
theorem foldl_set (off : Nat) : ∀ (l : List Value) (k : Nat) (cur : Array Value),
   ((l.zipIdx k).foldl (fun cs p => cs.setIfInBounds (off + p.2) p.1) cur).size = cur.size ∧
   ∀ t, t < cur.size → ((l.zipIdx k).foldl (fun cs p => cs.setIfInBounds (off + p.2) p.1) cur).getD t undef = if off + k ≤ t ∧ t < off + k + l.length then l.getD (t - (off + k)) undef else cur.getD t undef
 | [], k, cur => ⟨rfl, fun t _ => by rw [if_neg (by simp only [List.length_nil]; omega)]; rfl⟩
 | v :: l, k, cur => by
   have ih := foldl_set off l (k + 1) (cur.setIfInBounds (off + k) v)
   simp only [List.zipIdx_cons, List.foldl_cons]
   refine ⟨by rw [ih.1]; simp, fun t ht => ?_⟩
   rw [ih.2 t (by simpa using ht)]
   by_cases h1 : t = off + k
   · subst h1
     rw [if_neg (by omega), if_pos (by simp), Nat.sub_self]
     simp [Array.getD, ht]
   · have h2 : (cur.setIfInBounds (off + k) v).getD t undef = cur.getD t undef := by
       simp only [Array.getD_eq_getD_getElem?]
       rw [Array.getElem?_setIfInBounds_ne (Ne.symm h1)]
     rw [h2]
     by_cases h3 : off + (k + 1) ≤ t ∧ t < off + (k + 1) + l.length
     · rw [if_pos h3, if_pos (by simp only [List.length_cons]; omega)]
       obtain ⟨j, hj⟩ : ∃ j, t - (off + k) = j + 1 := ⟨t - (off + k) - 1, by omega⟩
       rw [hj, show t - (off + (k + 1)) = j by omega]
       rfl
     · rw [if_neg h3, if_neg (by simp only [List.length_cons]; omega)]
theorem getD_setL {cs xs : List AV} {off t : Nat} (hl : off + xs.length ≤ cs.length) : (setL cs off xs).getD t default = if off ≤ t ∧ t < off + xs.length then xs.getD (t - off) default else cs.getD t default := by
 unfold setL
 simp only [List.getD_eq_getElem?_getD]
 by_cases h1 : t < off
 · rw [if_neg (by omega), List.append_assoc, List.getElem?_append_left (by simp; omega), List.getElem?_take, if_pos h1]
 · by_cases h2 : t < off + xs.length
   · rw [if_pos (by omega), List.append_assoc, List.getElem?_append_right (by simp; omega), List.getElem?_append_left (by simp; omega)]
     simp only [List.length_take]
     rw [Nat.min_eq_left (by omega)]
   · rw [if_neg (by omega), List.getElem?_append_right (by simp; omega), List.getElem?_drop]
     congr 2
     simp
     omega
theorem length_setL {cs xs : List AV} {off : Nat} (hl : off + xs.length ≤ cs.length) : (setL cs off xs).length = cs.length := by
 unfold setL
 simp
 omega
theorem CellsAre.set {Z : Nat → Prop} {cur : Array Value} {cs xs : List AV} {v : Value} {off : Nat} (hc : CellsAre w Z h gs cur cs) (hv : CellsAre w Z h gs v.cells xs) (hl : off + xs.length ≤ cs.length) :
   CellsAre w Z h gs (v.cells.zipIdx.foldl (fun cs (p : Value × Nat) => cs.setIfInBounds (off + p.2) p.1) cur) (setL cs off xs) := by
 have he : v.cells.zipIdx.foldl (fun cs (p : Value × Nat) => cs.setIfInBounds (off + p.2) p.1) cur = (v.cells.toList.zipIdx 0).foldl (fun cs p => cs.setIfInBounds (off + p.2) p.1) cur := by
   rw [← Array.foldl_toList, Array.toList_zipIdx]
 obtain ⟨f1, f2⟩ := foldl_set off v.cells.toList 0 cur
 rw [he]
 obtain ⟨c1, c2, c3⟩ := hc
 obtain ⟨v1, v2, v3⟩ := hv
 have hlen : v.cells.toList.length = xs.length := by simpa using v1
 have hget : ∀ i, v.cells.toList.getD i undef = v.cells.getD i undef := fun i => by simp [List.getD_eq_getElem?_getD, Array.getD_eq_getD_getElem?]
 refine ⟨by rw [f1, length_setL hl, c1], fun i hi => ?_, fun i hi => ?_⟩ <;> rw [length_setL hl] at hi <;> rw [f2 i (by omega)]
 · split
   · rw [hget]; exact v2 _ (by omega)
   · exact c2 i hi
 · rw [getD_setL hl]
   by_cases h1 : off ≤ i ∧ i < off + xs.length
   · rw [if_pos (by omega), if_pos h1, hget, Nat.add_zero]; exact v3 _ (by omega)
   · rw [if_neg (by omega), if_neg h1]; exact c3 i hi
theorem fill_ok {Z : Nat → Prop} (fields : List (Nat × Nat)) (place : Nat → Option (Nat × Nat)) (hp : ∀ i p, fields[i]? = some p → place i = some p) : ∀ (vs : List (Nat × Value)) (xs : List (Nat × AV)) (cur : Array Value) (cs l : List AV),
   vs.map (·.1) = xs.map (·.1) → (∀ (j : Nat) (p : Nat × Value) (q : Nat × AV), vs[j]? = some p → xs[j]? = some q → RA w Z h gs p.2 q.2) → CellsAre w Z h gs cur cs → bfill fields cs xs = some l →
   ∃ cur', Instr.fill place cur vs = some cur' ∧ CellsAre w Z h gs cur' l
 | [], [], cur, cs, l, _, _, hc, e => by
   simp only [bfill, Option.some.injEq] at e
   subst e
   exact ⟨cur, rfl, hc⟩
 | [], _ :: _, _, _, _, e, _, _, _ => by simp at e
 | _ :: _, [], _, _, _, e, _, _, _ => by simp at e
 | (i, v) :: vs, (i', x) :: xs, cur, cs, l, hi, hv, hc, e => by
   simp only [List.map_cons, List.cons.injEq] at hi
   obtain ⟨rfl, hi⟩ := hi
   simp only [bfill] at e
   split at e
   · rename_i off sz e1
     split at e
     · rename_i l' e2
       split at e
       · rename_i hsz
         have hx : RA w Z h gs v x := hv 0 _ _ rfl rfl
         have hcx := hx.cells_of e2
         have hset := hc.set (off := off) hcx (by omega)
         obtain ⟨cur', f1, f2⟩ := fill_ok fields place hp vs xs _ _ l hi (fun j p q h1 h2 => hv (j + 1) p q h1 h2) hset e
         refine ⟨cur', ?_, f2⟩
         simp only [Instr.fill, hp _ _ e1]
         rw [if_neg]
         · exact f1
         · have := hc.1
           have := hcx.1
           simp
           omega
       · cases e
     · cases e
   · cases e
theorem zeros_ok {Z : Nat → Prop} (l : List Value) (ho : ∀ v ∈ l, v.oneCell' = true) : CellsAre w Z h gs l.toArray (l.map constAV1) := by
 refine ⟨by simp, fun i hi => ?_, fun i hi => ?_⟩
 · have hi' : i < l.length := by simpa using hi
   have : l.toArray.getD i undef = l[i] := by simp [Array.getD, hi']
   rw [this]
   exact ho _ (List.getElem_mem hi')
 · have hi' : i < l.length := by simpa using hi
   have : l.toArray.getD i undef = l[i] := by simp [Array.getD, hi']
   rw [this, getD_lt hi, List.getElem_map]
   exact constAV1_ok _ _ _ _ _
theorem mapM_places (fs : List Field) (hf : ∀ f ∈ fs, P.cellsOf f.type ≠ 0) : (fs.mapM fun f => (do pure (f.offset, ← sizeOf f.type) : Sem (Nat × Nat))).run P w = .ok (fs.map fun f => (f.offset, P.cellsOf f.type)) w := by
 induction fs with
 | nil => rfl
 | cons f fs ih =>
   have hs : (sizeOf f.type).run P w = .ok (P.cellsOf f.type) w := by
     have e7 := hf f (by simp)
     unfold Program.cellsOf at e7 ⊢
     cases hi : P.info? f.type with
     | none => rw [hi] at e7; simp at e7
     | some k => simp [sizeOf, typeInfo, hi]
   have ih' := ih fun g hg => hf g (by simp [hg])
   simp only [List.mapM_cons, Sem.run_bind, hs, Result.andThen_ok, Sem.run_pure, List.map_cons] at ih' ⊢
   rw [ih']
   rfl
theorem getElem_map_getD {l : List (Nat × Operand)} {β : Type} (F : Nat × Operand → β) {j : Nat} {p : β} (hp : (l.map F)[j]? = some p) : ∃ q, l[j]? = some q ∧ p = F q := by
 rw [List.getElem?_map, Option.map_eq_some_iff] at hp
 obtain ⟨q, h1, h2⟩ := hp
 exact ⟨q, h1, h2.symm⟩
theorem aop0_build [Glb] (R : RelG E nt s h gs a w) {d : Option Tmp} {ty : TypeId} {pos : String} {af : Array Edge} {gd : Option (Nat × Bool)} {x : AV} (t : TypeId) (parts : Array (Nat × Operand)) (hx : aop0 P (.build t parts) (ev s) true x) :
   ∃ v w', (execOp a.eval ⟨d, .build t parts, ty, pos, af, gd⟩).run P w = .ok (.value v) w' ∧ Below w.heap.size w w' ∧ RA w' (Zf E.Z gs) h gs v x := by
 rcases hx with ⟨i, j, el, m, cs, e1, eu, ej, ej1, e3, hnz, hw, rfl⟩ | hx
 · obtain ⟨ji, dd, t1, t2, t3, -, t5, -, -, t8, t9⟩ := tinfo_some e1
   obtain ⟨j', dj, u1, u2, u3, -, -, -, -, -, -⟩ := tinfo_some ej
   cases hzz : ji.zero with
   | none =>
     rw [hzz] at t9
     exact absurd t9 e3
   | some z =>
     rw [hzz] at t9
     simp only at t9
     obtain ⟨z1, z2⟩ := tinfo_zero e1 t1 hzz
     have hr := fill_ok (w := w) (h := h) (gs := gs) (Z := Zf E.Z gs) ((List.range m).map fun q => (q, 1)) (fun k => some (k * j'.size, j'.size)) (fun k p hk => by
       rw [List.getElem?_map, Option.map_eq_some_iff] at hk
       obtain ⟨q, hq, rfl⟩ := hk
       obtain ⟨_, rfl⟩ := List.getElem?_eq_some_iff.1 hq
       rw [u3.symm.trans ej1]
       simp) (parts.toList.map fun p => (p.1, a.eval p.2)) (parts.toList.map fun p => (p.1, (ev s p.2).strip)) z.cells (i.zero.map constAV1) cs (by simp) (fun k p q h1 h2 => by
       obtain ⟨q1, h3, rfl⟩ := getElem_map_getD _ h1
       obtain ⟨q2, h4, rfl⟩ := getElem_map_getD _ h2
       rw [h3] at h4
       injection h4 with h4
       subst h4
       exact (ev_ok R q1.2).strip (hw rfl q1 (List.mem_of_getElem? h3))) (by rw [t9]; exact zeros_ok _ z2) hnz
     obtain ⟨cur', f1, f2⟩ := hr
     refine ⟨.agg cur', w, ?_, Below.refl _ _, .agg cur' cs f2.1 f2.2.1 f2.2.2⟩
     have hz0 : (zeroValue t).run P w = .ok z w := by simp [zeroValue, typeInfo, t1, hzz]
     have hs0 : (sizeOf el).run P w = .ok j'.size w := by simp [sizeOf, typeInfo, u1]
     have f1' : Instr.fill (fun k => some (k * j'.size, j'.size)) z.cells ((parts.map fun p => (p.1, a.eval p.2)).toList) = some cur' := by simpa using f1
     simp only [execOp, Instr.build, Sem.run_bind, hz0, Result.andThen_ok, run_underlying eu, hs0, Sem.run_pure, f1']
 obtain ⟨i, cs, e1, e2, e3, e30, e4, hnz, hw, rfl⟩ := hx
 obtain ⟨j, dd, t1, t2, t3, -, t5, -, -, t8, t9⟩ := tinfo_some e1
 cases hzz : j.zero with
 | none =>
   rw [hzz] at t9
   simp only at t9
   exact absurd t9 e3
 | some z =>
 rw [hzz] at t9
 simp only at t9
 obtain ⟨z1, z2⟩ := tinfo_zero e1 t1 hzz
 cases dd with
 | struct fs =>
   simp only at t8
   have hr := fill_ok (w := w) (h := h) (gs := gs) (Z := Zf E.Z gs) i.fields (fun k => (fs.map fun f => (f.offset, P.cellsOf f.type))[k]?) (fun k p hk => by rw [t8] at hk; simpa using hk) (parts.toList.map fun p => (p.1, a.eval p.2)) (parts.toList.map fun p => (p.1, (ev s p.2).strip)) z.cells (i.zero.map constAV1) cs (by simp) (fun k p q h1 h2 => by
     obtain ⟨q1, h3, rfl⟩ := getElem_map_getD _ h1
     obtain ⟨q2, h4, rfl⟩ := getElem_map_getD _ h2
     rw [h3] at h4
     injection h4 with h4
     subst h4
     exact (ev_ok R q1.2).strip (hw rfl q1 (List.mem_of_getElem? h3))) (by rw [t9]; exact zeros_ok _ z2) hnz
   obtain ⟨cur', f1, f2⟩ := hr
   refine ⟨.agg cur', w, ?_, Below.refl _ _, .agg cur' cs f2.1 f2.2.1 f2.2.2⟩
   have hm := mapM_places (P := P) (w := w) fs.toList (fun f hf => e4 (f.offset, P.cellsOf f.type) (by rw [t8]; exact List.mem_map.2 ⟨f, hf, rfl⟩))
   have hm' : (fs.mapM fun f => (do pure (f.offset, ← sizeOf f.type) : Sem (Nat × Nat))).run P w = .ok (fs.map fun f => (f.offset, P.cellsOf f.type)) w := by
     rw [← Array.toArray_toList (xs := fs), List.mapM_toArray]
     simp only [Sem.run_map, hm, Result.andThen_ok]
     simp
     exact Array.ext' (by simp)
   have hz0 : (zeroValue t).run P w = .ok z w := by simp [zeroValue, typeInfo, t1, hzz]
   have f1' : Instr.fill (fun x => (fs.map fun f => (f.offset, P.cellsOf f.type))[x]?) z.cells ((parts.map fun p => (p.1, a.eval p.2)).toList) = some cur' := by simpa using f1
   simp only [execOp, Instr.build, Sem.run_bind, hz0, Result.andThen_ok, run_underlying t2, hm', Sem.run_pure, f1']
 | array n e =>
   simp only at t8
   exact absurd t8 e30
 | _ => simp_all
theorem fillS_ok {Z : Nat → Prop} (e : Operand → AV) (g : Operand → Value) (sz : Nat) : ∀ (ps : List (Nat × Operand)) (k : Nat) (l : List (List CV)) (cur : Array Value),
   (∀ p ∈ ps, RA w Z h gs (g p.2) (e p.2).strip) → partsC e ps k sz = some l → (k + ps.length) * sz ≤ cur.size →
   l.length = ps.length ∧ (∀ i, i < ps.length → (l.getD i []).length = sz) ∧ ∃ cur', Instr.fill (fun i => some (i * sz, sz)) cur (ps.map fun p => (p.1, g p.2)) = some cur' ∧ cur'.size = cur.size ∧ (∀ t, t < k * sz → cur'.getD t undef = cur.getD t undef) ∧
     ∀ i j, i < ps.length → j < sz → (cur'.getD ((k + i) * sz + j) undef).oneCell' = true ∧ RC w Z (cur'.getD ((k + i) * sz + j) undef) ((l.getD i []).getD j .any)
 | [], k, l, cur, _, hl, _ => by
   simp only [partsC, Option.some.injEq] at hl
   subst hl
   exact ⟨rfl, fun i hi => by simp at hi, cur, rfl, rfl, fun _ _ => rfl, fun i j hi => by simp at hi⟩
 | (i, y) :: ps, k, l, cur, he, hl, hs => by
   simp only [partsC] at hl
   split at hl
   · rename_i hik
     subst hik
     split at hl
     · rename_i cs l' e1 e2
       split at hl
       · rename_i hcl
         injection hl with hl
         subst hl
         have hx := (he (i, y) (by simp)).closedCells_of e1
         obtain ⟨x1, x2, x3⟩ := hx
         simp only at x1 x2 x3
         simp only [List.length_cons] at hs
         have hs' : i * sz + sz + ps.length * sz ≤ cur.size := by rw [← Nat.succ_mul, ← Nat.add_mul]; rw [show i + 1 + ps.length = i + (ps.length + 1) by omega]; exact hs
         have he' : (g y).cells.zipIdx.foldl (fun cs (p : Value × Nat) => cs.setIfInBounds (i * sz + p.2) p.1) cur = ((g y).cells.toList.zipIdx 0).foldl (fun cs p => cs.setIfInBounds (i * sz + p.2) p.1) cur := by
           rw [← Array.foldl_toList, Array.toList_zipIdx]
         obtain ⟨f1, f2⟩ := foldl_set (i * sz) (g y).cells.toList 0 cur
         rw [← he'] at f1 f2
         have hget : ∀ t, (g y).cells.toList.getD t undef = (g y).cells.getD t undef := fun t => by simp [List.getD_eq_getElem?_getD, Array.getD_eq_getD_getElem?]
         obtain ⟨r0, r1, cur', r2, r3, r4, r5⟩ := fillS_ok e g sz ps (i + 1) l' ((g y).cells.zipIdx.foldl (fun cs (p : Value × Nat) => cs.setIfInBounds (i * sz + p.2) p.1) cur) (fun p hp => he p (by simp [hp])) e2 (by rw [f1, Nat.add_mul, Nat.add_mul]; omega)
         have hlen : (g y).cells.toList.length = sz := by rw [Array.length_toList]; omega
         refine ⟨by simp [r0], fun t ht => ?_, cur', ?_, by rw [r3, f1], fun t ht => ?_, fun t j ht hj => ?_⟩
         · cases t with
           | zero => exact hcl
           | succ t => exact r1 t (by simpa using ht)
         · simp only [List.map_cons, Instr.fill]
           rw [if_neg (by simp; omega)]
           exact r2
         · rw [r4 t (by rw [Nat.succ_mul]; omega), f2 t (by omega), if_neg (by omega)]
         · cases t with
           | zero =>
             simp only [Nat.add_zero]
             rw [r4 (i * sz + j) (by rw [Nat.succ_mul]; omega), f2 (i * sz + j) (by omega), if_pos (by omega), hget, Nat.add_zero, Nat.add_sub_cancel_left]
             exact ⟨x2 j (by omega), x3 j (by omega)⟩
           | succ t =>
             have := r5 t j (by simpa using ht) hj
             rw [show i + 1 + t = i + (t + 1) by omega] at this
             exact this
       · cases hl
     · cases hl
   · cases hl
theorem aop0_buildSlice [Glb] (R : RelG E nt s h gs a w) {d : Option Tmp} {ty : TypeId} {pos : String} {af : Array Edge} {gd : Option (Nat × Bool)} {x : AV} (t : TypeId) (len : Nat) (parts : Array (Nat × Operand)) (hx : aop0 P (.buildSlice t len parts) (ev s) true x) :
   ∃ v w', (execOp a.eval ⟨d, .buildSlice t len parts, ty, pos, af, gd⟩).run P w = .ok (.value v) w' ∧ Below w.heap.size w w' ∧ RA w' (Zf E.Z gs) h gs v x := by
 obtain ⟨i, j, l, e1, e2, e3, rfl, e5, e6, e7, hw, rfl⟩ := hx
 obtain ⟨i', dd, t1, t2, -, -, -, t6, t7, -, -⟩ := tinfo_some e1
 obtain ⟨j', dj, u1, u2, u3, -, -, -, -, -, u9⟩ := tinfo_some e3
 cases dd with
 | slice el =>
   simp only at t6
   rw [t6] at u1
   have hsz : (sizeOf el).run P w = .ok j.size w := by simp [sizeOf, typeInfo, u1, u3]
   have key : ∀ zc : Array Value, (((Array.range (parts.size * j.size)).map (zc[· % zc.size]!))).size = parts.size * j.size := by intro zc; simp
   have hzz : ∃ zc : Array Value, (parts.size * j.size = 0 ∧ zc = #[]) ∨ (parts.size * j.size ≠ 0 ∧ ∃ z, (zeroValue el).run P w = .ok z w ∧ zc = z.cells) := by
     by_cases h0 : parts.size * j.size = 0
     · exact ⟨#[], .inl ⟨h0, rfl⟩⟩
     · cases hz : j'.zero with
       | none =>
         rw [hz] at u9
         simp only at u9
         rcases e7 with e7 | e7
         · rw [e7] at h0; simp at h0
         · exact absurd u9 e7
       | some z => exact ⟨z.cells, .inr ⟨h0, z, by simp [zeroValue, typeInfo, u1, hz], rfl⟩⟩
   obtain ⟨zc, hzc⟩ := hzz
   obtain ⟨r0, r1, cur', r2, r3, r4, r5⟩ := fillS_ok (w := w) (h := h) (gs := gs) (Z := Zf E.Z gs) (ev s) a.eval j.size parts.toList 0 l ((Array.range (parts.size * j.size)).map (zc[· % zc.size]!)) (fun p hp => (ev_ok R p.2).strip (hw rfl p hp)) e6 (by rw [key]; simp)
   have r2' : Instr.fill (fun i => some (i * j.size, j.size)) ((Array.range (parts.size * j.size)).map (zc[· % zc.size]!)) ((parts.map fun p => (p.1, a.eval p.2)).toList) = some cur' := by simpa using r2
   have hcs : cur'.size = parts.size * j.size := by rw [r3, key]
   have hb : Below w.heap.size w (w.alloc (.cells cur' el)) := (Below.refl _ _).alloc (Nat.le_refl _) _
   refine ⟨.slice (some ⟨w.heap.size, 0, none⟩) parts.size parts.size, w.alloc (.cells cur' el), ?_, hb, ?_⟩
   · simp only [execOp, Instr.buildSlice, Sem.run_bind, run_underlying t2, Result.andThen_ok, hsz]
     rw [if_neg (by omega)]
     rcases hzc with ⟨h0, rfl⟩ | ⟨h0, z, hz1, rfl⟩
     · rw [if_pos h0]
       simp only [Sem.run_pure, Result.andThen_ok, Sem.run_bind, r2', newRow, run_newObj]
       rfl
     · rw [if_neg h0]
       simp only [Sem.run_pure, Result.andThen_ok, Sem.run_bind, hz1, r2', newRow, run_newObj]
       rfl
   · by_cases h0 : parts.size = 0
     · rw [if_pos h0, h0]
       exact .emp _
     · rw [if_neg h0]
       refine .c _ _ (.im _ _ _ _ _ (fun t => cur'.getD t undef) ?_ (by simp) (Nat.le_refl _) (fun t ht => ?_) (fun t ht => ?_) (fun t ht => r1 t (by simpa using ht)) fun t k ht hk => ?_)
       · intro hz
         rcases hz with hz | ⟨o, K, hz⟩
         · have h1 := R.zlt w.heap.size hz
           have h2 := R.below.size
           omega
         · have h1 := (R.fresh _ w.heap.size _ hz).2
           omega
       · rw [addr_lit, Nat.zero_add, World.cell?_alloc_new]
         have : t < cur'.size := by omega
         simp [Array.getD, this]
       · have hpos : 0 < j.size := by
           rcases Nat.eq_zero_or_pos j.size with h1 | h1
           · rw [h1] at ht; simp at ht
           · exact h1
         have h2 := r5 (t / j.size) (t % j.size) (by rw [Array.length_toList]; exact Nat.div_lt_of_lt_mul (by rw [Nat.mul_comm]; exact ht)) (Nat.mod_lt _ hpos)
         rw [Nat.zero_add, Nat.mul_comm (t / j.size), Nat.div_add_mod] at h2
         exact h2.1
       · have h2 := r5 t k (by simpa using ht) hk
         rw [Nat.zero_add] at h2
         exact h2.2.later (later_of_below hb)
 | _ => simp_all
theorem aop0_nilCheck [Glb] (R : RelG E nt s h gs a w) {d : Option Tmp} {ty : TypeId} {pos : String} {af : Array Edge} {gd : Option (Nat × Bool)} {x : AV} (y : Operand) (hx : aop0 P (.nilCheck y) (ev s) true x) :
   ∃ v w', (execOp a.eval ⟨d, .nilCheck y, ty, pos, af, gd⟩).run P w = .ok (.value v) w' ∧ Below w.heap.size w w' ∧ RA w' (Zf E.Z gs) h gs v x := by
 obtain ⟨hw, hm, rfl⟩ := hx
 have hv := (ev_ok R y).strip (hw rfl)
 refine ⟨a.eval y, w, ?_, Below.refl _ _, hv⟩
 generalize hq : (ev s y).strip = q at hm hv
 generalize he : a.eval y = v at hv
 cases hv <;> first | (cases hm; done) | (simp [execOp, he]; done) | skip
 rename_i x hx
 cases hx <;> first | (cases hm; done) | (simp [execOp, he]; done)
theorem aop0_index [Glb] (R : RelG E nt s h gs a w) {d : Option Tmp} {ty : TypeId} {pos : String} {af : Array Edge} {gd : Option (Nat × Bool)} {x : AV} (t : TypeId) (y z : Operand) (hx : aop0 P (.index t y z) (ev s) true x) :
   ∃ v w', (execOp a.eval ⟨d, .index t y z, ty, pos, af, gd⟩).run P w = .ok (.value v) w' ∧ Below w.heap.size w w' ∧ RA w' (Zf E.Z gs) h gs v x := by
 obtain ⟨ht, b, k, n, e1, e2, hw, rfl⟩ := hx
 obtain ⟨h1, h2, h3, h4⟩ := hw rfl
 have c1 := (ev_ok R y).raw_of h1 e1
 have c2 := (ev_ok R z).raw_of h2 e2
 refine ⟨_, w, ?_, Below.refl _ _, .c _ _ (.raw _)⟩
 have hlt : n.toNat < b.size := by omega
 simp [execOp, c1, c2, Instr.index, asIntOf, run_underlying ht, h3, getElem?_pos b n.toNat hlt, byteAt]
theorem aop0_makeInterface [Glb] (R : RelG E nt s h gs a w) {d : Option Tmp} {ty : TypeId} {pos : String} {af : Array Edge} {gd : Option (Nat × Bool)} {x : AV} (t : TypeId) (y : Operand) (hx : aop0 P (.makeInterface t y) (ev s) true x) :
   ∃ v w', (execOp a.eval ⟨d, .makeInterface t y, ty, pos, af, gd⟩).run P w = .ok (.value v) w' ∧ Below w.heap.size w w' ∧ RA w' (Zf E.Z gs) h gs v x := by
 obtain ⟨⟨d0, ht, hni⟩, hw, v, hv, rfl⟩ := hx
 have hv0 := (ev_ok R y).strip (hw rfl)
 have he : a.eval y = v := by
   rcases hv with hv | ⟨us, hv, rfl⟩
   · rw [hv] at hv0; exact hv0.raw_inv
   · exact hv0.rawAgg_of hv
 refine ⟨_, w, ?_, Below.refl _ _, .c _ _ (.raw _)⟩
 cases d0 <;> first | (simp [execOp, he, Instr.makeInterface, run_underlying ht]; done) | (cases hni; done)
theorem aop0_makeFunc [Glb] (R : RelG E nt s h gs a w) {d : Option Tmp} {ty : TypeId} {pos : String} {af : Array Edge} {gd : Option (Nat × Bool)} {x : AV} (fn : Fn) (first caps : Array Operand) (hx : aop0 P (.makeFunc fn first caps) (ev s) true x) :
   ∃ v w', (execOp a.eval ⟨d, .makeFunc fn first caps, ty, pos, af, gd⟩).run P w = .ok (.value v) w' ∧ Below w.heap.size w w' ∧ RA w' (Zf E.Z gs) h gs v x := by
 obtain ⟨f, os, rfl, rfl, hw, rfl, hfl, rfl⟩ := hx
 refine ⟨.func (.func f) #[] (caps.map a.eval), w, ?_, Below.refl _ _, .fn f _ _ (by simp) (fun i hi => ?_) fun i hi => ?_⟩
 · simp [execOp, Instr.makeFunc]
 · have hic : i < caps.toList.length := by simpa using hi
   have h1 := (ev_ok R caps.toList[i]).strip (hw rfl _ (List.getElem_mem hic))
   have e1 : (caps.map a.eval).getD i undef = a.eval caps.toList[i] := by
     rw [Array.getD_eq_getD_getElem?, Array.getElem?_map, Array.getElem?_eq_getElem (by simpa using hic)]
     simp
   have h2 := List.all_eq_true.1 hfl _ (List.getElem_mem hi)
   rw [Bool.and_eq_true] at h2
   rw [e1, getD_lt hi]
   rw [List.getElem_map] at h2 ⊢
   exact ⟨h2.1, h1.one_of h2.2⟩
 · have hic : i < caps.toList.length := by simpa using hi
   have h1 := (ev_ok R caps.toList[i]).strip (hw rfl _ (List.getElem_mem hic))
   have e1 : (caps.map a.eval).getD i undef = a.eval caps.toList[i] := by
     rw [Array.getD_eq_getD_getElem?, Array.getElem?_map, Array.getElem?_eq_getElem (by simpa using hic)]
     simp
   rw [e1, getD_lt hi, List.getElem_map]
   exact h1
theorem aop0_min [Glb] (R : RelG E nt s h gs a w) {d : Option Tmp} {ty : TypeId} {pos : String} {af : Array Edge} {gd : Option (Nat × Bool)} {x : AV} (args : Array Operand) (ats : Array TypeId) (hx : aop0 P (.call ⟨.builtin .min, args, ats⟩) (ev s) true x) :
   ∃ v w', (execOp a.eval ⟨d, .call ⟨.builtin .min, args, ats⟩, ty, pos, af, gd⟩).run P w = .ok (.value v) w' ∧ Below w.heap.size w w' ∧ RA w' (Zf E.Z gs) h gs v x := by
 obtain ⟨y, z, k, n, m, rfl, e1, e2, hw, rfl⟩ := hx
 obtain ⟨h1, h2⟩ := hw rfl
 have c1 := (ev_ok R y).raw_of h1 e1
 have c2 := (ev_ok R z).raw_of h2 e2
 refine ⟨.int k (if m < n then m else n), w, ?_, Below.refl _ _, .c _ _ (.raw _)⟩
 simp [execOp, resolve, invoke, builtin, c1, c2, Builtin.min_, Builtin.min2]
theorem aop0_max [Glb] (R : RelG E nt s h gs a w) {d : Option Tmp} {ty : TypeId} {pos : String} {af : Array Edge} {gd : Option (Nat × Bool)} {x : AV} (args : Array Operand) (ats : Array TypeId) (hx : aop0 P (.call ⟨.builtin .max, args, ats⟩) (ev s) true x) :
   ∃ v w', (execOp a.eval ⟨d, .call ⟨.builtin .max, args, ats⟩, ty, pos, af, gd⟩).run P w = .ok (.value v) w' ∧ Below w.heap.size w w' ∧ RA w' (Zf E.Z gs) h gs v x := by
 obtain ⟨y, z, k, n, m, rfl, e1, e2, hw, rfl⟩ := hx
 obtain ⟨h1, h2⟩ := hw rfl
 have c1 := (ev_ok R y).raw_of h1 e1
 have c2 := (ev_ok R z).raw_of h2 e2
 refine ⟨.int k (if n < m then m else n), w, ?_, Below.refl _ _, .c _ _ (.raw _)⟩
 simp [execOp, resolve, invoke, builtin, c1, c2, Builtin.max_, Builtin.max2]
end
end Go.Am
namespace Go.Am
open Go.RowKit
def Enters (P : Program) (f : FuncId) : Prop := ∃ fn, P.funcs[f]? = some fn ∧ (fn.name == "runtime.NumGoroutine") = false ∧ fn.body.isNone = false
def APure [Glb] (P : Program) (f : FuncId) (xs : List CV) (r : CV) : Prop := Enters P f ∧
 ∀ (Z : Nat → Prop) (w : World) (vs : List Value), (∀ b, Z b → b < w.heap.size) → (∀ b, Glb.A b → Z b ∧ w.heap[b]? = Glb.M b) → vs.length = xs.length → (∀ i, i < xs.length → RC w Z (vs.getD i undef) (xs.getD i .any)) →
   Calls P f vs.toArray w fun e w' => ∃ v, e = .returned v ∧ RC w' Z v r ∧ BelD w w'
def AV.ref0 : AV → List Nat
 | .ptr o _ | .rp o _ _ _ | .own o _ | .osub o _ _ _ | .mref o | .iref o | .bs o _ => [o]
 | _ => []
def AV.ref1 : AV → List Nat
 | .fn _ ps => ps.flatMap AV.ref0
 | x => x.ref0
def AV.refs : AV → List Nat
 | .agg xs => xs.flatMap AV.ref1
 | x => x.ref1
def AV.viewP (h : AH) : AV → CV
 | .c x => x
 | .pim xs => .ptr xs
 | .ptr o off => match h o with
   | .box _ cells => if off ≤ cells.length then .ptr ((cells.drop off).map fun c => c.closed1.getD .any) else .any
   | _ => .any
 | .rp o L i off => match h o with
   | .row _ sz n f => if L = n ∧ i < n ∧ off ≤ sz then .ptr ((f i).drop off) else .any
   | _ => .any
 | .mref o => match h o with
   | .map es _ => .mp (es.map fun e => (e.1, e.2.2.closed1.getD .any))
   | _ => .any
 | .emp => .im 0 0 fun _ => []
 | .own o L => match h o with
   | .row _ sz n f => if L = n then .im sz n f else .any
   | _ => .any
 | .osub o L off k => match h o with
   | .row _ sz n f => if L = n then .im sz k (fun i => f (off + i)) else .any
   | _ => .any
 | _ => .any
def AV.view1 (h : AH) : AV → CV
 | .fn f ps => .clo f (ps.map (AV.viewP h))
 | x => x.viewP h
def AV.view (h : AH) : AV → CV
 | .agg xs => .agg (xs.map (AV.view1 h))
 | x => x.view1 h
def AV.closedA : AV → Bool
 | .c _ | .emp | .pim _ => true
 | .agg xs => xs.all fun x => x.closed1.isSome
 | _ => false
def AV.liveP (h : AH) : AV → Bool
 | .own o _ | .osub o _ _ _ | .ptr o _ | .rp o _ _ _ | .mref o => match h o with
   | .gone => false
   | _ => true
 | _ => true
def AV.live1 (h : AH) : AV → Bool
 | .fn _ ps => ps.all fun x => x.liveP h
 | x => x.liveP h
def AV.live (h : AH) : AV → Bool
 | .agg xs => xs.all fun x => x.live1 h
 | x => x.live1 h
def Subs : List CV → List CV → Prop
 | [], [] => True
 | x :: xs, y :: ys => CV.Sub x y ∧ Subs xs ys
 | _, _ => False
theorem Subs.refl : ∀ xs : List CV, Subs xs xs
 | [] => trivial
 | x :: xs => ⟨CV.Sub.refl x, Subs.refl xs⟩
theorem Subs.length : ∀ {xs ys : List CV}, Subs xs ys → xs.length = ys.length
 | [], [], _ => rfl
 | _ :: _, _ :: _, h => by simp [Subs.length h.2]
theorem Subs.get : ∀ {xs ys : List CV}, Subs xs ys → ∀ i, i < xs.length → CV.Sub (xs.getD i .any) (ys.getD i .any)
 | [], [], _, i, hi => by simp at hi
 | _ :: _, _ :: _, h, 0, _ => h.1
 | _ :: _, _ :: _, h, i + 1, hi => Subs.get h.2 i (by simpa using hi)
def loadC (i : TI) (xs : List CV) : AV := if i.agg then .c (.agg (xs.take i.size)) else .c (xs.headD .any)
def loadA (i : TI) (xs : List AV) : AV := if i.agg then .agg (xs.take i.size) else xs.headD default
def keyOk : TypeDesc → Value → Bool
 | .int a, .int b _ => decide (b = a)
 | .string, .string _ => true
 | .bool, .bool _ => true
 | _, _ => false
def keyEq : Value → Value → Bool
 | .int _ a, .int _ b => a == b
 | .string a, .string b => a == b
 | .bool a, .bool b => a == b
 | _, _ => false
def getE (k : Value) : List (Value × AV) → Option AV
 | [] => none
 | e :: r => if keyEq k e.1 then some e.2 else getE k r
def foundA (P : Program) (et : TypeId) (es : List (Value × AV)) (k : Value) (q : AV × Bool) : Prop := match getE k es with
 | some v => q = (v, true)
 | none => q.2 = false ∧ ∃ i j z, tinfo P et = some i ∧ P.info? et = some j ∧ j.zero = some z ∧ (q.1 = .c (.raw z) ∨ (∃ u, z = .slice none 0 u ∧ ∃ sz f, q.1 = .c (.im sz 0 f)) ∨ z = .slice none 0 0 ∧ q.1 = .emp)
def idxArr (P : Program) (t : TypeId) (e : Operand → AV) (y z : Operand) (G : Bool) (x : AV) : Prop :=
 ∃ el m j k n xs, P.underlying t = some (.array m el) ∧ tinfo P el = some j ∧ j.size = 1 ∧ (e z).strip = .c (.raw (.int k n)) ∧ (G = true → (e y).wh = true ∧ (e z).wh = true) ∧ (e y).strip = .pim xs ∧ (G = true → 0 ≤ n ∧ n < m) ∧ x = .pim (xs.drop n.toNat)
def aop1 [Glb] (P : Program) (op : Op) (e : Operand → AV) (h : AH) (G : Bool) (x : AV) : Prop :=
 match op with
 | .load t y => ∃ i, tinfo P t = some i ∧ (i.agg = false → i.size = 1) ∧ (G = true → (e y).wh = true) ∧
     match (e y).strip with
     | .pim xs => (G = true → i.size ≤ xs.length) ∧ x = loadC i xs
     | .c (.ptr xs) => (G = true → i.size ≤ xs.length) ∧ x = loadC i xs
     | .ptr o off => ∃ ty cells, h o = .box ty cells ∧ (G = true → off + i.size ≤ cells.length) ∧ x = loadA i (cells.drop off)
     | .rp o L k off => ∃ ty sz n f, h o = .row ty sz n f ∧ (G = true → L = n ∧ k < n ∧ off + i.size ≤ sz) ∧ x = loadC i ((f k).drop off)
     | _ => False
 | .call { callee := .builtin .len, args := args, argTypes := ats } => ∃ y t, args = #[y] ∧ ats = #[t] ∧ (G = true → (e y).wh = true) ∧
     match (e y).strip with
     | .c (.im _ n _) => (∃ el, P.underlying t = some (.slice el)) ∧ x = .int n
     | .own o L => (∃ el, P.underlying t = some (.slice el)) ∧ ∃ ty sz n f, h o = .row ty sz n f ∧ (G = true → L = n) ∧ x = .int L
     | .osub o L _ k => (∃ el, P.underlying t = some (.slice el)) ∧ ∃ ty sz n f, h o = .row ty sz n f ∧ (G = true → L = n) ∧ x = .int k
     | .emp => (∃ el, P.underlying t = some (.slice el)) ∧ x = .int 0
     | .c .emp => (∃ el, P.underlying t = some (.slice el)) ∧ x = .int 0
     | .mref o => (∃ kt et, P.underlying t = some (.map kt et)) ∧ ∃ es c, h o = .map es c ∧ x = .int es.length
     | .c (.mp es) => (∃ kt et, P.underlying t = some (.map kt et)) ∧ x = .int es.length
     | .bs _ n => (∃ el, P.underlying t = some (.slice el)) ∧ x = .int n
     | .c (.raw (.string s)) => P.underlying t = some .string ∧ x = .int s.size
     | _ => False
 | .indexAddr t y z => idxArr P t e y z G x ∨ (∃ i j k n, tinfo P t = some i ∧ i.slice = true ∧ tinfo P i.elem = some j ∧ (e z).strip = .c (.raw (.int k n)) ∧ (G = true → (e y).wh = true ∧ (e z).wh = true) ∧
     match (e y).strip with
     | .c (.im sz m f) => (G = true → sz = j.size ∧ 0 ≤ n ∧ n < m) ∧ x = .pim (f n.toNat)
     | .own o L => ∃ ty sz m f, h o = .row ty sz m f ∧ (G = true → L = m ∧ sz = j.size ∧ 0 ≤ n ∧ n < m) ∧ x = .rp o L n.toNat 0
     | .osub o L off q => ∃ ty sz m f, h o = .row ty sz m f ∧ (G = true → L = m ∧ sz = j.size ∧ 0 ≤ n ∧ n < q) ∧ x = .rp o L (off + n.toNat) 0
     | .bs o m => (G = true → j.size = 1 ∧ 0 ≤ n ∧ n < m) ∧ x = .ptr o n.toNat
     | _ => False)
 | .slice t y lo hi none => ∃ l hh : Nat, (∀ z, lo = some z → (G = true → (e z).wh = true) ∧ ∃ k, (e z).strip = .c (.raw (.int k l))) ∧ (lo = none → l = 0) ∧
     (∀ z, hi = some z → (G = true → (e z).wh = true) ∧ ∃ k, (e z).strip = .c (.raw (.int k hh))) ∧ (G = true → (e y).wh = true ∧ l ≤ hh) ∧
     match (e y).strip with
     | .c (.im sz n f) => (∃ i j, tinfo P t = some i ∧ i.slice = true ∧ tinfo P i.elem = some j ∧ (G = true → sz = j.size ∧ hh ≤ n)) ∧ (hi = none → hh = n) ∧ x = .c (.im sz (hh - l) fun q => f (l + q))
     | .own o L => ∃ ty sz n f, h o = .row ty sz n f ∧ (∃ i j, tinfo P t = some i ∧ i.slice = true ∧ tinfo P i.elem = some j ∧ (G = true → sz = j.size ∧ hh ≤ n)) ∧ (G = true → L = n) ∧ (hi = none → hh = n) ∧ x = .osub o L l (hh - l)
     | .osub o L off k => ∃ ty sz n f, h o = .row ty sz n f ∧ (∃ i j, tinfo P t = some i ∧ i.slice = true ∧ tinfo P i.elem = some j ∧ (G = true → sz = j.size ∧ hh ≤ k)) ∧ (G = true → L = n) ∧ (hi = none → hh = k) ∧ x = .osub o L (off + l) (hh - l)
     | .emp => (∃ i j, tinfo P t = some i ∧ i.slice = true ∧ tinfo P i.elem = some j) ∧ hh = 0 ∧ x = .emp
     | .c (.raw (.string b)) => P.underlying t = some .string ∧ (G = true → hh ≤ b.size) ∧ (hi = none → hh = b.size) ∧ x = .str (b.extract l hh)
     | _ => False
 | .call { callee := .value (.func f), args := args, .. } => ∃ cs r, (∀ y ∈ args.toList, (e y).strip.live h = true) ∧ Subs (args.toList.map fun y => (e y).strip.view h) cs ∧ (G = true → ∀ y ∈ args.toList, (e y).wh = true) ∧ (G = true → APure P f cs r) ∧
     (r.flat = true ∨ ∀ y ∈ args.toList, (e y).strip.closedA = true) ∧ x = .c r
 | .lookup t y z ok => ∃ kt et kd k q, P.underlying t = some (.map kt et) ∧ P.underlying kt = some kd ∧ keyOk kd k = true ∧ (e z).strip = .c (.raw k) ∧ (G = true → (e y).wh = true ∧ (e z).wh = true) ∧
     (match (e y).strip with
     | .mref o => ∃ es c, h o = .map es c ∧ (es.all fun e => keyOk kd e.1) = true ∧ foundA P et (es.map fun e => (e.1, e.2.2)) k q
     | .c (.mp es) => (es.all fun e => keyOk kd e.1) = true ∧ foundA P et (es.map fun e => (e.1, AV.c e.2)) k q
     | .c (.raw (.map none)) => foundA P et [] k q
     | _ => False) ∧
     if ok then ∃ y, q.1.closed1 = some y ∧ x = .c (.tup [y, .bool q.2]) else x = q.1
 | .call { callee := .value (.tmp t), args := args, .. } => ∃ f ps, (G = true → (e (.tmp t)).wh = true) ∧ ((e (.tmp t)).strip = .c (.raw (.func (.func f) #[] #[])) ∧ ps = [] ∨ (e (.tmp t)).strip = .c (.clo f ps)) ∧ ∃ cs r, (∀ y ∈ args.toList, (e y).strip.live h = true) ∧ Subs ((args.toList.map fun y => (e y).strip.view h) ++ ps) cs ∧ (G = true → ∀ y ∈ args.toList, (e y).wh = true) ∧ (G = true → APure P f cs r) ∧
     (r.flat = true ∨ ∀ y ∈ args.toList, (e y).strip.closedA = true) ∧ x = .c r
 | _ => False
section
variable {E : Env} {w : World} {nt : Nat} {s : Nat → AV} {h : AH} {gs : Gs} {a : Act} {P : Program}
theorem run_loadCellsFrom (ad : Addr) (g : Nat → Value) : ∀ (n i : Nat) (acc : Array Value), (∀ j, j < n → w.cell? (ad.add (i + j)) = some (g (i + j))) →
   (loadCellsFrom ad i n acc).run P w = .ok (acc ++ ((List.range n).map fun j => g (i + j)).toArray) w
 | 0, i, acc, _ => by simp [loadCellsFrom]
 | n + 1, i, acc, hc => by
   have h0 := hc 0 (by omega)
   simp only [Nat.add_zero] at h0
   simp only [loadCellsFrom, Sem.run_bind, run_load, h0, Result.andThen_ok]
   rw [run_loadCellsFrom ad g n (i + 1) (acc.push (g i)) (fun j hj => by have := hc (j + 1) (by omega); rw [show i + 1 + j = i + (j + 1) by omega]; exact this)]
   congr 1
   apply Array.ext'
   simp only [Array.toList_append, Array.toList_push, List.range_succ_eq_map, List.map_cons, List.map_map]
   simp only [List.append_assoc, List.cons_append, List.nil_append, Nat.add_zero]
   congr 2
   apply List.map_congr_left
   intro j _
   simp [show i + 1 + j = i + (j + 1) by omega]
theorem run_loadCells (ad : Addr) (g : Nat → Value) (n : Nat) (hc : ∀ j, j < n → w.cell? (ad.add j) = some (g j)) :
   (loadCells ad n).run P w = .ok ((List.range n).map g).toArray w := by
 have := run_loadCellsFrom (P := P) ad g n 0 #[] (fun j hj => by rw [Nat.zero_add]; exact hc j hj)
 simp only [Nat.zero_add] at this
 unfold loadCells
 rw [this]
 simp
theorem run_loadVar {t : TypeId} {i : TI} (hi : tinfo P t = some i) (h1 : i.agg = false → i.size = 1) (ad : Addr) (g : Nat → Value) (hc : ∀ j, j < i.size → w.cell? (ad.add j) = some (g j)) :
   (loadVar t ad).run P w = .ok (if i.agg then .agg ((List.range i.size).map g).toArray else g 0) w := by
 obtain ⟨j, d, t1, t2, t3, -, t5, -⟩ := tinfo_some hi
 have hs : (sizeOf t).run P w = .ok i.size w := by simp [sizeOf, typeInfo, t1, t3]
 have hag : (isAgg t).run P w = .ok i.agg w := by
   rw [t5]
   simp only [isAgg, Sem.run_bind, run_underlying t2, Result.andThen_ok]
   cases d <;> rfl
 unfold loadVar
 simp only [Sem.run_bind, hag, Result.andThen_ok]
 cases hb : i.agg with
 | true =>
   simp only [if_true, Sem.run_bind, hs, Result.andThen_ok, run_loadCells ad g i.size hc, Sem.run_pure]
 | false =>
   have h0 := hc 0 (by rw [h1 hb]; omega)
   rw [show ad.add 0 = ad by unfold Addr.add; simp] at h0
   simp [h0]
theorem getD_range_map {n i : Nat} {g : Nat → Value} (hi : i < n) : ((List.range n).map g).toArray.getD i undef = g i := by
 simp [Array.getD, hi]
theorem loadC_ok {Z : Nat → Prop} {i : TI} {xs : List CV} {g : Nat → Value} (h1 : i.agg = false → i.size = 1) (hl : i.size ≤ xs.length) (ho : ∀ j, j < i.size → (g j).oneCell' = true) (hh : ∀ j, j < i.size → RC w Z (g j) (xs.getD j .any)) :
   RA w Z h gs (if i.agg then .agg ((List.range i.size).map g).toArray else g 0) (loadC i xs) := by
 unfold loadC
 cases hb : i.agg with
 | true =>
   simp only [if_true]
   have hlt : (xs.take i.size).length = i.size := by simp; omega
   refine .c _ _ (.agg _ _ (by rw [hlt]; simp) (fun j hj => ?_) fun j hj => ?_)
   · rw [hlt] at hj
     rw [getD_range_map hj]
     exact ho j hj
   · have hj' := hj
     rw [hlt] at hj'
     rw [getD_range_map hj', getD_lt hj, List.getElem_take]
     have := hh j hj'
     rw [getD_lt (by omega)] at this
     exact this
 | false =>
   simp only [Bool.false_eq_true, if_false]
   have hs := h1 hb
   refine .c _ _ ?_
   have := hh 0 (by omega)
   cases xs with
   | nil => simp at hl; omega
   | cons x xs => exact this
theorem loadA_ok {Z : Nat → Prop} {i : TI} {xs : List AV} {g : Nat → Value} (h1 : i.agg = false → i.size = 1) (hl : i.size ≤ xs.length) (ho : ∀ j, j < i.size → (g j).oneCell' = true) (hh : ∀ j, j < i.size → RA w Z h gs (g j) (xs.getD j default)) :
   RA w Z h gs (if i.agg then .agg ((List.range i.size).map g).toArray else g 0) (loadA i xs) := by
 unfold loadA
 cases hb : i.agg with
 | true =>
   simp only [if_true]
   have hlt : (xs.take i.size).length = i.size := by simp; omega
   refine .agg _ _ (by rw [hlt]; simp) (fun j hj => ?_) fun j hj => ?_
   · rw [hlt] at hj
     rw [getD_range_map hj]
     exact ho j hj
   · have hj' := hj
     rw [hlt] at hj'
     rw [getD_range_map hj', getD_lt hj, List.getElem_take]
     have := hh j hj'
     rw [getD_lt (by omega)] at this
     exact this
 | false =>
   simp only [Bool.false_eq_true, if_false]
   have hs := h1 hb
   have := hh 0 (by omega)
   cases xs with
   | nil => simp at hl; omega
   | cons x xs => exact this
theorem getD_drop {α : Type} {l : List α} {k i : Nat} {d : α} : (l.drop k).getD i d = l.getD (k + i) d := by
 simp [List.getD_eq_getElem?_getD, List.getElem?_drop]
theorem cell_of_heap {b j : Nat} {cur : Array Value} {ty : TypeId} (hb : w.heap[b]? = some (.cells cur ty (0, 0))) (hj : j < cur.size) : w.cell? ⟨b, j, none⟩ = some (cur.getD j undef) := by
 rw [cell_of_row w b j cur ty (0, 0) hb]
 simp [Array.getD, hj]
theorem load_run [Glb] (R : RelG E nt s h gs a w) {x : AV} (t : TypeId) (y : Operand) (hx : aop1 P (.load t y) (ev s) h true x) :
   ∃ ad v, a.eval y = .pointer (some ad) ∧ (loadVar t ad).run P w = .ok v w ∧ RA w (Zf E.Z gs) h gs v x := by
 obtain ⟨i, e1, h1, hw, hm⟩ := hx
 have c1 := (ev_ok R y).strip (hw rfl)
 generalize hvy : a.eval y = vy at c1
 generalize (ev s y).strip = xy at c1 hm
 cases c1 with
 | pim ad xs g hb hlt hc ho hh =>
   obtain ⟨hl, rfl⟩ := hm
   have hl := hl rfl
   exact ⟨ad, _, rfl, run_loadVar (w := w) e1 h1 ad g (fun j hj => hc j (by omega)), loadC_ok (g := g) h1 hl (fun j hj => ho j (by omega)) fun j hj => hh j (by omega)⟩
 | c _ q hq =>
   cases hq with
   | ptr ad xs g hb hlt hc ho hh =>
     obtain ⟨hl, rfl⟩ := hm
     have hl := hl rfl
     exact ⟨ad, _, rfl, run_loadVar (w := w) e1 h1 ad g (fun j hj => hc j (by omega)), loadC_ok (g := g) h1 hl (fun j hj => ho j (by omega)) fun j hj => hh j (by omega)⟩
   | _ => exact hm.elim
 | ptr o off b K ty' cells ho hg =>
   obtain ⟨ty2, cells2, e2, hl, rfl⟩ := hm
   have hl := hl rfl
   have hob := R.objs o
   rw [e2] at hob
   obtain ⟨b', K', cur, g1, g2, g3, g4, g5⟩ := hob
   rw [hg] at g1
   simp only [Option.some.injEq, Prod.mk.injEq] at g1
   obtain ⟨rfl, rfl⟩ := g1
   refine ⟨_, _, rfl, run_loadVar (w := w) e1 h1 ⟨b, off, none⟩ (fun j => cur.getD (off + j) undef) (fun j hj => by rw [addr_lit]; exact cell_of_heap g2 (by omega)), loadA_ok (g := fun j => cur.getD (off + j) undef) h1 (by rw [List.length_drop]; omega) (fun j hj => g4 _ (by omega)) fun j hj => ?_⟩
   rw [getD_drop]
   exact g5 _ (by omega)
 | rp ad o L k off ty' sz n f ho hL hv =>
   obtain ⟨ty2, sz2, n2, f2, e2, hl, rfl⟩ := hm
   obtain ⟨hl1, hl2, hl3⟩ := hl rfl
   rw [ho] at e2
   injection e2 with e3 e4 e5 e6
   subst e4; subst e5; subst e6
   obtain ⟨b, K, g1, rfl⟩ := hv hl1
   have hob := R.objs o
   rw [ho] at hob
   rcases hob with q1 | ⟨b', K', cur, q1, q2, q3, q4, q5, q6, q7, q8⟩
   · rw [g1] at q1; cases q1
   rw [g1] at q1
   simp only [Option.some.injEq, Prod.mk.injEq] at q1
   obtain ⟨rfl, rfl⟩ := q1
   have hk : k * sz + sz ≤ n * sz := by rw [← Nat.succ_mul]; exact Nat.mul_le_mul_right _ hl2
   have hn : n * sz ≤ K * sz := Nat.mul_le_mul_right _ q4
   refine ⟨_, _, rfl, run_loadVar (w := w) e1 h1 ⟨b, k * sz + off, none⟩ (fun j => cur.getD (k * sz + off + j) undef) (fun j hj => by rw [addr_lit]; exact cell_of_heap q2 (by omega)), loadC_ok (g := fun j => cur.getD (k * sz + off + j) undef) h1 (by rw [List.length_drop, q6 k hl2]; omega) (fun j hj => q7 _ (by omega)) fun j hj => ?_⟩
   rw [getD_drop]
   have := q8 k (off + j) hl2 (by omega)
   rw [← Nat.add_assoc] at this
   exact this
 | _ => exact hm.elim
theorem aop1_load [Glb] (R : RelG E nt s h gs a w) {d : Option Tmp} {ty : TypeId} {pos : String} {af : Array Edge} {gd : Option (Nat × Bool)} {x : AV} (t : TypeId) (y : Operand) (hx : aop1 P (.load t y) (ev s) h true x) :
   ∃ v w', (execOp a.eval ⟨d, .load t y, ty, pos, af, gd⟩).run P w = .ok (.value v) w' ∧ Below w.heap.size w w' ∧ RA w' (Zf E.Z gs) h gs v x := by
 obtain ⟨ad, v, h1, h2, h3⟩ := load_run R t y hx
 refine ⟨v, w, ?_, Below.refl _ _, h3⟩
 simp only [execOp, h1, Instr.loadAt, Instr.sureAddr, Sem.run_bind, Sem.run_pure, Result.andThen_ok, h2]
theorem run_len_slice {t el : TypeId} (ht : P.underlying t = some (.slice el)) (ty : TypeId) (A : Option Addr) (n c : Nat) : (Builtin.len_ #[t] ty #[.slice A n c]).run P w = .ok (.int .i64 n) w := by
 simp [Builtin.len_, run_underlying ht, goInt]
theorem RC.im_inv {Z : Nat → Prop} {v : Value} {sz n : Nat} {f : Nat → List CV} (hx : RC w Z v (.im sz n f)) : ∃ (A : Option Addr) (c : Nat), v = .slice A n c ∧ (0 < n → ∃ (ad : Addr) (g : Nat → Value), A = some ad ∧ ¬ Z ad.block ∧ ad.block < w.heap.size ∧ n ≤ c ∧
   (∀ j, j < n * sz → w.cell? (ad.add j) = some (g j)) ∧ (∀ j, j < n * sz → (g j).oneCell' = true) ∧ (∀ i, i < n → (f i).length = sz) ∧ ∀ i j, i < n → j < sz → RC w Z (g (i * sz + j)) ((f i).getD j .any)) := by
 cases hx with
 | nul A c => exact ⟨A, c, rfl, fun h => absurd h (by omega)⟩
 | im ad _ c _ _ g hb hlt hnc hc ho hf hh => exact ⟨some ad, c, rfl, fun _ => ⟨ad, g, rfl, hb, hlt, hnc, hc, ho, hf, hh⟩⟩
theorem aop1_len [Glb] (R : RelG E nt s h gs a w) {d : Option Tmp} {ty : TypeId} {pos : String} {af : Array Edge} {gd : Option (Nat × Bool)} {x : AV} (args : Array Operand) (ats : Array TypeId) (hx : aop1 P (.call ⟨.builtin .len, args, ats⟩) (ev s) h true x) :
   ∃ v w', (execOp a.eval ⟨d, .call ⟨.builtin .len, args, ats⟩, ty, pos, af, gd⟩).run P w = .ok (.value v) w' ∧ Below w.heap.size w w' ∧ RA w' (Zf E.Z gs) h gs v x := by
 obtain ⟨y, t, rfl, rfl, hw, hm⟩ := hx
 have c1 := (ev_ok R y).strip (hw rfl)
 generalize hvy : a.eval y = vy at c1
 generalize (ev s y).strip = xy at c1 hm
 have sl : ∀ (el : TypeId) (A : Option Addr) (n c : Nat), P.underlying t = some (.slice el) → vy = .slice A n c → (execOp a.eval ⟨d, .call ⟨.builtin .len, #[y], #[t]⟩, ty, pos, af, gd⟩).run P w = .ok (.value (.int .i64 n)) w := by
   intro el A n c ht hv
   subst hv
   have := run_len_slice (P := P) (w := w) ht ty A n c
   simp [execOp, resolve, invoke, builtin, hvy, this]
 have ml : ∀ (kt et : TypeId) (b : Nat) (ents : Array MapEntry) (clock n : Nat), P.underlying t = some (.map kt et) → vy = .map (some b) → w.heap[b]? = some (.map ents clock) → ents.size = n → (execOp a.eval ⟨d, .call ⟨.builtin .len, #[y], #[t]⟩, ty, pos, af, gd⟩).run P w = .ok (.value (.int .i64 n)) w := by
   intro kt et b ents clock n ht hv he hn
   subst hv; subst hn
   simp [execOp, resolve, invoke, builtin, hvy, Builtin.len_, run_underlying ht, MapKept.run_getObj_map he, goInt, Result.andThen]
 cases c1 with
 | mref o b K es clock ho hg =>
   obtain ⟨⟨kt, et, ht⟩, es', c', e2, rfl⟩ := hm
   have hob := R.objs o
   rw [e2] at hob
   obtain ⟨b', K', ents, q1, q2, q3, _⟩ := hob
   rw [hg] at q1
   simp only [Option.some.injEq, Prod.mk.injEq] at q1
   obtain ⟨rfl, rfl⟩ := q1
   exact ⟨_, w, ml kt et b ents c' es'.length ht rfl q2 q3, Below.refl _ _, .c _ _ (.raw _)⟩
 | c _ z hz =>
   cases z with
   | im sz n f =>
     obtain ⟨⟨el, ht⟩, rfl⟩ := hm
     obtain ⟨A, c, rfl, _⟩ := hz.im_inv
     exact ⟨_, w, sl el A n c ht rfl, Below.refl _ _, .c _ _ (.raw _)⟩
   | emp =>
     obtain ⟨⟨el, ht⟩, rfl⟩ := hm
     cases hz with
     | emp A => exact ⟨_, w, sl el A 0 0 ht rfl, Below.refl _ _, .c _ _ (.raw _)⟩
   | mp es =>
     obtain ⟨⟨kt, et, ht⟩, rfl⟩ := hm
     cases hz with
     | mp b ents clock _ hb he hl hk hh => exact ⟨_, w, ml kt et b ents clock es.length ht rfl he hl, Below.refl _ _, .c _ _ (.raw _)⟩
   | raw u =>
     have := hz.raw_inv
     subst this
     cases vy with
     | string b =>
       obtain ⟨ht, rfl⟩ := hm
       refine ⟨.int .i64 b.size, w, ?_, Below.refl _ _, .c _ _ (.raw _)⟩
       simp [execOp, resolve, invoke, builtin, hvy, Builtin.len_, run_underlying ht, goInt]
     | _ => exact hm.elim
   | _ => exact hm.elim
 | own A k c o L ty' sz n f ho hL hv =>
   obtain ⟨⟨el, ht⟩, ty2, sz2, n2, f2, e2, hl, rfl⟩ := hm
   rw [ho] at e2
   injection e2 with e3 e4 e5 e6
   subst e5
   have hl := hl rfl
   have hk : k = L := by
     rcases hv hl with ⟨b, K, _, _, e, _⟩ | ⟨e0, e, _, _⟩
     · omega
     · omega
   rw [← hk]
   exact ⟨_, w, sl el A k c ht rfl, Below.refl _ _, .c _ _ (.raw _)⟩
 | osub A k' c o L off k ty' sz n f ho hL hv =>
   obtain ⟨⟨el, ht⟩, ty2, sz2, n2, f2, e2, hl, rfl⟩ := hm
   rw [ho] at e2
   injection e2 with e3 e4 e5 e6
   subst e5
   obtain ⟨_, rfl, _⟩ := hv (hl rfl)
   exact ⟨_, w, sl el A k' c ht rfl, Below.refl _ _, .c _ _ (.raw _)⟩
 | emp A =>
   obtain ⟨⟨el, ht⟩, rfl⟩ := hm
   exact ⟨_, w, sl el A 0 0 ht rfl, Below.refl _ _, .c _ _ (.raw _)⟩
 | bs o n b K ty' cells ho hg =>
   obtain ⟨⟨el, ht⟩, rfl⟩ := hm
   exact ⟨_, w, sl el _ n n ht rfl, Below.refl _ _, .c _ _ (.raw _)⟩
 | _ => exact hm.elim
theorem run_indexAt {t el : TypeId} {j : TypeInfo} (ht : P.underlying t = some (.slice el)) (hj : P.info? el = some j) (ad : Addr) (m c : Nat) (k : IntKind) (n : Int) (h0 : 0 ≤ n) (h1 : n < m) :
   (Instr.indexAt t (.slice (some ad) m c) (.int k n)).run P w = .ok (.pointer (some (ad.add (n.toNat * j.size)))) w := by
 simp [Instr.indexAt, asIntOf, run_underlying ht, sizeOf, typeInfo, hj, h0, h1]
theorem run_indexArr {t el : TypeId} {m : Nat} {j : TypeInfo} (ht : P.underlying t = some (.array m el)) (hj : P.info? el = some j) (hj1 : j.size = 1) (ad : Addr) (k : IntKind) (n : Int) (h0 : 0 ≤ n) (h1 : n < m) :
   (Instr.indexAt t (.pointer (some ad)) (.int k n)).run P w = .ok (.pointer (some (ad.add n.toNat))) w := by
 simp [Instr.indexAt, Instr.sureAddr, asIntOf, run_underlying ht, sizeOf, typeInfo, hj, hj1, h0, h1]
theorem aop1_indexAddr [Glb] (R : RelG E nt s h gs a w) {d : Option Tmp} {ty : TypeId} {pos : String} {af : Array Edge} {gd : Option (Nat × Bool)} {x : AV} (t : TypeId) (y z : Operand) (hx : aop1 P (.indexAddr t y z) (ev s) h true x) :
   ∃ v w', (execOp a.eval ⟨d, .indexAddr t y z, ty, pos, af, gd⟩).run P w = .ok (.value v) w' ∧ Below w.heap.size w w' ∧ RA w' (Zf E.Z gs) h gs v x := by
 rcases hx with ⟨el, m, j, k, n, xs, e1, e2, e3, ez, hw, ey, hn, rfl⟩ | hx
 · obtain ⟨hw1, hw2⟩ := hw rfl
   have c1 := (ev_ok R y).strip hw1
   have c2 := (ev_ok R z).raw_of hw2 ez
   rw [ey] at c1
   generalize hvy : a.eval y = vy at c1
   obtain ⟨h0, h1⟩ := hn rfl
   obtain ⟨j', dj, u1, u2, u3, -, -, -, -, -, -⟩ := tinfo_some e2
   cases c1 with
   | pim ad _ g hb hlt hc ho hh =>
     have := run_indexArr (P := P) (w := w) e1 u1 (u3.symm.trans e3) ad k n h0 h1
     refine ⟨.pointer (some (ad.add n.toNat)), w, by simp only [execOp, hvy, c2, Sem.run_bind, this, Result.andThen_ok, Sem.run_pure], Below.refl _ _, .pim _ _ (fun q => g (n.toNat + q)) (by rw [block_add]; exact hb) (by rw [block_add]; exact hlt) (fun q hq => ?_) (fun q hq => ho _ ?_) fun q hq => ?_⟩
     · rw [add_add]
       exact hc _ (by rw [List.length_drop] at hq; omega)
     · rw [List.length_drop] at hq; omega
     · have := hh (n.toNat + q) (by rw [List.length_drop] at hq; omega)
       rwa [List.getD_eq_getElem?_getD, List.getElem?_drop, ← List.getD_eq_getElem?_getD]
 obtain ⟨i, j, k, n, e1, e2, e3, ez, hw, hm⟩ := hx
 obtain ⟨hw1, hw2⟩ := hw rfl
 have c1 := (ev_ok R y).strip hw1
 have c2 := (ev_ok R z).raw_of hw2 ez
 generalize hvy : a.eval y = vy at c1
 generalize (ev s y).strip = xy at c1 hm
 obtain ⟨i', dd, t1, t2, -, -, -, t6, t7, -, -⟩ := tinfo_some e1
 obtain ⟨j', dj, u1, u2, u3, -, -, -, -, -, -⟩ := tinfo_some e3
 cases dd with
 | slice el =>
   simp only at t6
   rw [t6] at u1
   have sl : ∀ (ad : Addr) (m c : Nat), vy = .slice (some ad) m c → 0 ≤ n → n < m → (execOp a.eval ⟨d, .indexAddr t y z, ty, pos, af, gd⟩).run P w = .ok (.value (.pointer (some (ad.add (n.toNat * j.size))))) w := by
     intro ad m c hv h0 h1
     subst hv
     have := run_indexAt (P := P) (w := w) t2 u1 ad m c k n h0 h1
     simp only [execOp, hvy, c2, Sem.run_bind, this, Result.andThen_ok, Sem.run_pure, u3]
   cases c1 with
   | c _ q hq =>
     cases q with
     | im sz m f =>
       obtain ⟨hl, rfl⟩ := hm
       obtain ⟨rfl, h0, h1⟩ := hl rfl
       obtain ⟨A, c, rfl, hpos⟩ := hq.im_inv
       obtain ⟨ad, g, rfl, hb, hlt, hnc, hc, ho, hf, hh⟩ := hpos (by omega)
       have hk : n.toNat * j.size + j.size ≤ m * j.size := by rw [← Nat.succ_mul]; exact Nat.mul_le_mul_right _ (by omega)
       have hfl := hf n.toNat (by omega)
       refine ⟨_, w, sl ad m c rfl h0 h1, Below.refl _ _, .pim _ _ (fun q => g (n.toNat * j.size + q)) (by rw [block_add]; exact hb) (by rw [block_add]; exact hlt) (fun q hq => ?_) (fun q hq => ho _ (by omega)) fun q hq => hh _ _ (by omega) (by omega)⟩
       rw [add_add]
       exact hc _ (by omega)
     | _ => exact hm.elim
   | own A q c o L ty' sz m f ho hL hv =>
     obtain ⟨ty2, sz2, n2, f2, e4, hl, rfl⟩ := hm
     rw [ho] at e4
     injection e4 with e5 e6 e7 e8
     subst e6; subst e7
     obtain ⟨hl1, rfl, h0, h1⟩ := hl rfl
     rcases hv hl1 with ⟨b, K, g1, rfl, rfl, rfl⟩ | ⟨g1, rfl, rfl, hm0⟩
     · refine ⟨_, w, sl _ _ _ rfl h0 h1, Below.refl _ _, .rp _ o L _ 0 ty' _ _ f ho hL fun _ => ⟨b, _, g1, ?_⟩⟩
       rw [addr_lit]
       simp
     · omega
   | osub A q' c o L off q ty' sz m f ho hL hv =>
     obtain ⟨ty2, sz2, n2, f2, e4, hl, rfl⟩ := hm
     rw [ho] at e4
     injection e4 with e5 e6 e7 e8
     subst e6; subst e7
     obtain ⟨hl1, rfl, h0, h1⟩ := hl rfl
     obtain ⟨v1, rfl, v3, v4, _⟩ := hv hl1
     obtain ⟨b, K, g1, rfl⟩ := v4 (by omega)
     refine ⟨_, w, sl _ _ _ rfl h0 h1, Below.refl _ _, .rp _ o L _ 0 ty' _ _ f ho hL fun _ => ⟨b, K, g1, ?_⟩⟩
     rw [addr_lit, Nat.add_mul]
     simp
   | bs o m b K ty' cells ho hg =>
     obtain ⟨hl, rfl⟩ := hm
     obtain ⟨h1, h0, h2⟩ := hl rfl
     refine ⟨_, w, sl _ _ _ rfl h0 h2, Below.refl _ _, ?_⟩
     rw [addr_lit, h1, Nat.mul_one, Nat.zero_add]
     exact .ptr o _ b K ty' cells ho hg
   | _ => exact hm.elim
 | _ => simp_all
theorem RC.less {Z Z' : Nat → Prop} {v : Value} {x : CV} (hx : RC w Z v x) (hz : ∀ b, Z' b → Z b) : RC w Z' v x :=
 hx.later ⟨Nat.le_refl _, fun _ _ _ => rfl, fun b hb _ => hz b hb⟩
theorem closed1_getD {Z : Nat → Prop} {h : AH} {gs : Gs} {v : Value} {x : AV} (hx : RA w Z h gs v x) : RC w Z v (x.closed1.getD .any) := by
 cases e : x.closed1 with
 | none => exact .any _
 | some y => exact hx.closed1_of e
theorem viewP_gen [Glb] (R : RelG E nt s h gs a w) {Z : Nat → Prop} (hz : ∀ b, Z b → Zf E.Z gs b) {v : Value} {x : AV} (hnz : ∀ o ∈ x.ref0, ∀ b K, gs o = some (b, K) → ¬ Z b) (hx : RA w (Zf E.Z gs) h gs v x) : RC w Z v (x.viewP h) := by
 have less : ∀ {v : Value} {x : CV}, RC w (Zf E.Z gs) v x → RC w Z v x := fun hx => hx.less hz
 cases hx with
 | c _ y hy => exact less hy
 | emp A => exact .nul _ _ _ _
 | pim ad xs g hb hlt hc ho hh => exact less (.ptr ad xs g hb hlt hc ho hh)
 | ptr o off b K ty cells ho hg =>
   simp only [AV.viewP, ho]
   split
   · rename_i hoff
     have hob := R.objs o
     rw [ho] at hob
     obtain ⟨b', K', cur, g1, g2, g3, g4, g5⟩ := hob
     rw [hg] at g1
     simp only [Option.some.injEq, Prod.mk.injEq] at g1
     obtain ⟨rfl, rfl⟩ := g1
     refine .ptr ⟨b, off, none⟩ _ (fun j => cur.getD (off + j) undef) (hnz _ (by simp [AV.ref0]) _ _ hg) (R.fresh _ _ _ hg).2 (fun j hj => ?_) (fun j hj => ?_) fun j hj => ?_
     · rw [List.length_map, List.length_drop] at hj
       rw [addr_lit]
       exact cell_of_heap g2 (by omega)
     · rw [List.length_map, List.length_drop] at hj
       exact g4 _ (by omega)
     · have hj' := hj
       rw [List.length_map, List.length_drop] at hj'
       have := less (closed1_getD (g5 (off + j) (by omega)))
       rw [getD_lt hj, List.getElem_map, List.getElem_drop]
       rw [getD_lt (by omega)] at this
       exact this
   · exact .any _
 | rp ad o L i off ty sz n f ho hL hv =>
   simp only [AV.viewP, ho]
   split
   · rename_i hl
     obtain ⟨rfl, hi, hoff⟩ := hl
     have hob := R.objs o
     rw [ho] at hob
     obtain ⟨b, K, g1, rfl⟩ := hv rfl
     rcases hob with q1 | ⟨b', K', cur, q1, q2, q3, q4, q5, q6, q7, q8⟩
     · rw [g1] at q1; cases q1
     · rw [g1] at q1
       simp only [Option.some.injEq, Prod.mk.injEq] at q1
       obtain ⟨rfl, rfl⟩ := q1
       have hf := q6 i hi
       have hk : i * sz + sz ≤ L * sz := by rw [← Nat.succ_mul]; exact Nat.mul_le_mul_right _ hi
       have hn : L * sz ≤ K * sz := Nat.mul_le_mul_right _ q4
       refine .ptr _ _ (fun j => cur.getD (i * sz + off + j) undef) (hnz _ (by simp [AV.ref0]) _ _ g1) (R.fresh _ _ _ g1).2 (fun j hj => ?_) (fun j hj => ?_) fun j hj => ?_
       · rw [List.length_drop, hf] at hj
         rw [addr_lit]
         exact cell_of_heap q2 (by omega)
       · rw [List.length_drop, hf] at hj
         exact q7 _ (by omega)
       · rw [List.length_drop, hf] at hj
         have := less (q8 i (off + j) hi (by omega))
         rw [getD_drop, Nat.add_assoc]
         exact this
   · exact .any _
 | mref o b K es clock ho hg =>
   simp only [AV.viewP, ho]
   have hob := R.objs o
   rw [ho] at hob
   obtain ⟨b', K', ents, g1, g2, g3, g4, g5⟩ := hob
   rw [hg] at g1
   simp only [Option.some.injEq, Prod.mk.injEq] at g1
   obtain ⟨rfl, rfl⟩ := g1
   refine .mp b ents clock _ (hnz _ (by simp [AV.ref0]) _ _ hg) g2 (by simpa using g3) (fun i hi => ?_) fun i hi => ?_
   · have hi' : i < es.length := by simpa using hi
     have := (g4 i hi').1
     rw [getD_lt hi, List.getElem_map]
     rw [getD_lt hi'] at this
     exact this
   · have hi' : i < es.length := by simpa using hi
     have := less (closed1_getD (g5 i hi'))
     rw [getD_lt hi, List.getElem_map]
     rw [getD_lt hi'] at this
     exact this
 | own A k c o L ty sz n f ho hL hv =>
   simp only [AV.viewP, ho]
   split
   · rename_i hl
     have hob := R.objs o
     rw [ho] at hob
     rcases hv hl with ⟨b, K, g1, rfl, rfl, rfl⟩ | ⟨g1, rfl, rfl, rfl⟩
     · rcases hob with q1 | ⟨b', K', cur, q1, q2, q3, q4, q5, q6, q7, q8⟩
       · rw [g1] at q1; cases q1
       · rw [g1] at q1
         simp only [Option.some.injEq, Prod.mk.injEq] at q1
         obtain ⟨rfl, rfl⟩ := q1
         have hn : k * sz ≤ c * sz := Nat.mul_le_mul_right _ q4
         refine .im _ k c sz f (fun j => cur.getD j undef) (hnz _ (by simp [AV.ref0]) _ _ g1) (R.fresh _ _ _ g1).2 q4 (fun j hj => ?_) q7 q6 fun i j hi hj => less (q8 i j hi hj)
         rw [addr_lit, Nat.zero_add]
         exact cell_of_heap q2 (by omega)
     · exact .nul _ _ _ _
   · exact .any _
 | osub A k' c o L off k ty sz n f ho hL hv =>
   simp only [AV.viewP, ho]
   split
   · rename_i hl
     have hob := R.objs o
     rw [ho] at hob
     obtain ⟨v1, rfl, v3, v4, _⟩ := hv hl
     rcases Nat.eq_zero_or_pos k' with h0 | h0
     · subst h0
       exact .nul _ _ _ _
     · obtain ⟨b, K, g1, rfl⟩ := v4 h0
       rcases hob with q1 | ⟨b', K', cur, q1, q2, q3, q4, q5, q6, q7, q8⟩
       · rw [g1] at q1; cases q1
       · rw [g1] at q1
         simp only [Option.some.injEq, Prod.mk.injEq] at q1
         obtain ⟨rfl, rfl⟩ := q1
         have hn : n * sz ≤ K * sz := Nat.mul_le_mul_right _ q4
         have ho2 : off * sz + k' * sz ≤ n * sz := by rw [← Nat.add_mul]; exact Nat.mul_le_mul_right _ v1
         refine .im _ k' c sz _ (fun j => cur.getD (off * sz + j) undef) (hnz _ (by simp [AV.ref0]) _ _ g1) (R.fresh _ _ _ g1).2 v3 (fun j hj => ?_) (fun j hj => q7 _ (by omega)) (fun i hi => q6 _ (by omega)) fun i j hi hj => ?_
         · rw [addr_lit]
           exact cell_of_heap q2 (by omega)
         · have := q8 (off + i) j (by omega) hj
           rw [Nat.add_mul, Nat.add_assoc] at this
           exact less this
   · exact .any _
 | _ => exact .any _
theorem view1_genR [Glb] (R : RelG E nt s h gs a w) {Z : Nat → Prop} (hz : ∀ b, Z b → Zf E.Z gs b) {v : Value} {x : AV} (hnz : ∀ o ∈ x.ref1, ∀ b K, gs o = some (b, K) → ¬ Z b) (hx : RA w (Zf E.Z gs) h gs v x) : RC w Z v (x.view1 h) := by
 match x, hx, hnz with
 | .fn f ps, .fn _ cs _ hl _ hh, hnz =>
   refine .clo f cs _ (by simpa using hl) fun i hi => ?_
   have hi' : i < ps.length := by simpa using hi
   rw [getD_lt hi, List.getElem_map]
   have h1 := hh i hi'
   rw [getD_lt hi'] at h1
   exact viewP_gen R hz (fun o ho => hnz o (List.mem_flatMap.2 ⟨_, List.getElem_mem hi', ho⟩)) h1
 | .c _, hx, hnz | .agg _, hx, hnz | .pim _, hx, hnz | .ptr _ _, hx, hnz | .rp _ _ _ _, hx, hnz | .own _ _, hx, hnz | .osub _ _ _ _, hx, hnz | .emp, hx, hnz | .when _ _, hx, hnz | .mref _, hx, hnz | .bs _ _, hx, hnz | .iref _, hx, hnz => refine viewP_gen R hz ?_ hx; exact hnz
theorem view_genR [Glb] (R : RelG E nt s h gs a w) {Z : Nat → Prop} (hz : ∀ b, Z b → Zf E.Z gs b) {v : Value} {x : AV} (hnz : ∀ o ∈ x.refs, ∀ b K, gs o = some (b, K) → ¬ Z b) (hx : RA w (Zf E.Z gs) h gs v x) : RC w Z v (x.view h) := by
 match x, hx, hnz with
 | .agg xs, .agg cs _ hl ho hh, hnz =>
   refine .agg cs _ (by simpa using hl) (fun i hi => ho i (by simpa using hi)) fun i hi => ?_
   have hi' : i < xs.length := by simpa using hi
   rw [getD_lt hi, List.getElem_map]
   have h1 := hh i hi'
   rw [getD_lt hi'] at h1
   exact view1_genR R hz (fun o ho => hnz o (List.mem_flatMap.2 ⟨_, List.getElem_mem hi', ho⟩)) h1
 | .c _, hx, hnz | .fn _ _, hx, hnz | .pim _, hx, hnz | .ptr _ _, hx, hnz | .rp _ _ _ _, hx, hnz | .own _ _, hx, hnz | .osub _ _ _ _, hx, hnz | .emp, hx, hnz | .when _ _, hx, hnz | .mref _, hx, hnz | .bs _ _, hx, hnz | .iref _, hx, hnz => refine view1_genR R hz ?_ hx; exact hnz
theorem view_ok [Glb] (R : RelG E nt s h gs a w) {v : Value} {x : AV} (hx : RA w (Zf E.Z gs) h gs v x) : RC w E.Z v (x.view h) :=
 view_genR R (fun _ hb => .inl hb) (fun o _ b K e hz => by
   have h1 := R.zlt b hz
   rcases (R.fresh o b K e).1 with h2 | h2
   · omega
   · exact (R.zd b h2).1 hz) hx
theorem closed_view {Z : Nat → Prop} {v : Value} {x : AV} (hx : RA w Z h gs v x) (hc : x.closedA = true) : RC w Z v (x.view h) := by
 cases hx with
 | agg cs xs hl ho hh =>
   simp only [AV.closedA, List.all_eq_true] at hc
   refine .agg cs _ (by simpa using hl) (fun i hi => ho i (by simpa using hi)) fun i hi => ?_
   have hi' : i < xs.length := by simpa using hi
   rw [getD_lt hi, List.getElem_map]
   have h1 := hh i hi'
   rw [getD_lt hi'] at h1
   have h2 := hc _ (List.getElem_mem hi')
   cases hx : xs[i] with
   | c y => rw [hx] at h1; exact h1.c_inv
   | emp =>
     rw [hx] at h1
     generalize cs.getD i undef = u at h1
     cases h1
     exact .nul _ _ _ _
   | pim l =>
     rw [hx] at h1
     generalize cs.getD i undef = u at h1
     cases h1 with
     | pim ad _ g hb hlt hc ho hh => exact .ptr ad l g hb hlt hc ho hh
   | _ => rw [hx] at h2; simp [AV.closed1] at h2
 | c _ y hy => exact hy
 | emp A => exact .nul _ _ _ _
 | pim ad l g hb hlt hc' ho hh => exact .ptr ad l g hb hlt hc' ho hh
 | _ => simp [AV.closedA] at hc
theorem aop1_call [Glb] (R : RelG E nt s h gs a w) {d : Option Tmp} {ty : TypeId} {pos : String} {af : Array Edge} {gd : Option (Nat × Bool)} {x : AV} (f : FuncId) (args : Array Operand) (ats : Array TypeId)
   (hx : aop1 P (.call ⟨.value (.func f), args, ats⟩) (ev s) h true x) {K : Act → World → Prop} {Q : Exit → Act → World → Prop}
   (hK : ∀ v w', BelD w w' → RA w' (Zf E.Z gs) h gs v x → K (a.put d v) w') : Oper.wp P ⟨d, .call ⟨.value (.func f), args, ats⟩, ty, pos, af, gd⟩ a w K Q := by
 obtain ⟨cs, r, -, hsub, hw, hp, hfl, rfl⟩ := hx
 have hw := hw rfl
 obtain ⟨⟨fn, f1, f2, f3⟩, hcall⟩ := hp rfl
 have hrun : (execOp a.eval ⟨d, .call ⟨.value (.func f), args, ats⟩, ty, pos, af, gd⟩).run P w = .ok (.enter f (args.map a.eval)) w := by
   have f2' : ¬ fn.name = "runtime.NumGoroutine" := by simpa using f2
   have f3' : ¬ fn.body = none := fun e => by rw [e] at f3; simp at f3
   simp [execOp, resolve, Deferred.ofValue, Act.eval, invoke, callFunc, f1, f2', f3']
 have hlen := hsub.length
 simp only [List.length_map] at hlen
 have hvs : (args.toList.map a.eval).toArray = args.map a.eval := Array.ext' (by simp)
 have hargs : ∀ (i : Nat) (hi : i < args.toList.length), (args.toList.map a.eval).getD i undef = a.eval args.toList[i] := fun i hi => by
   rw [getD_lt (by simpa using hi), List.getElem_map]
 have hxs : ∀ (i : Nat) (hi : i < args.toList.length), (args.toList.map fun y => (ev s y).strip.view h).getD i .any = (ev s args.toList[i]).strip.view h := fun i hi => by
   rw [getD_lt (by simpa using hi), List.getElem_map]
 unfold Oper.wp
 rw [hrun]
 simp only [Oper.upon]
 rcases hfl with hfl | hcl
 · have := hcall E.Z w (args.toList.map a.eval) (fun b hb => Nat.lt_of_lt_of_le (R.zlt b hb) R.below.size) R.glb (by simpa using hlen) (fun i hi => by
     have hi' : i < args.toList.length := by omega
     have h1 := hsub.get i (by simpa using hi')
     rw [hxs i hi'] at h1
     rw [hargs i hi']
     exact h1 _ _ _ (view_ok R ((ev_ok R _).strip (hw _ (List.getElem_mem hi')))))
   rw [hvs] at this
   refine this.mono fun e w' ⟨v, he, hr, hb⟩ => ?_
   subst he
   exact hK v w' hb (.c _ _ (hr.flat hfl))
 · have := hcall (Zf E.Z gs) w (args.toList.map a.eval) (fun b hb => by
     rcases hb with hb | ⟨o, K', hb⟩
     · exact Nat.lt_of_lt_of_le (R.zlt b hb) R.below.size
     · exact (R.fresh o b K' hb).2) (fun b hb => ⟨.inl (R.glb b hb).1, (R.glb b hb).2⟩) (by simpa using hlen) (fun i hi => by
     have hi' : i < args.toList.length := by omega
     have h1 := hsub.get i (by simpa using hi')
     rw [hxs i hi'] at h1
     rw [hargs i hi']
     exact h1 _ _ _ (closed_view ((ev_ok R _).strip (hw _ (List.getElem_mem hi'))) (hcl _ (List.getElem_mem hi'))))
   rw [hvs] at this
   refine this.mono fun e w' ⟨v, he, hr, hb⟩ => ?_
   subst he
   exact hK v w' hb (.c _ _ hr)
theorem aop1_callV [Glb] (R : RelG E nt s h gs a w) {d : Option Tmp} {ty : TypeId} {pos : String} {af : Array Edge} {gd : Option (Nat × Bool)} {x : AV} (t : Tmp) (args : Array Operand) (ats : Array TypeId)
   (hx : aop1 P (.call ⟨.value (.tmp t), args, ats⟩) (ev s) h true x) {K : Act → World → Prop} {Q : Exit → Act → World → Prop}
   (hK : ∀ v w', BelD w w' → RA w' (Zf E.Z gs) h gs v x → K (a.put d v) w') : Oper.wp P ⟨d, .call ⟨.value (.tmp t), args, ats⟩, ty, pos, af, gd⟩ a w K Q := by
 obtain ⟨f, ps, hwt, het, cs, r, -, hsub, hw, hp, hfl, rfl⟩ := hx
 have het : ∃ us : Array Value, a.eval (.tmp t) = .func (.func f) #[] us ∧ us.size = ps.length ∧ ∀ i, i < ps.length → RC w (Zf E.Z gs) (us.getD i undef) (ps.getD i .any) := by
   rcases het with ⟨het, rfl⟩ | het
   · exact ⟨#[], (ev_ok R (.tmp t)).raw_of (hwt rfl) het, rfl, fun i hi => by simp at hi⟩
   · have := (ev_ok R (.tmp t)).c_of (hwt rfl) het
     generalize a.eval (.tmp t) = v at this
     cases this with
     | clo _ us _ hl hh => exact ⟨us, rfl, hl, hh⟩
 obtain ⟨us, het, hul, huh⟩ := het
 have hw := hw rfl
 obtain ⟨⟨fn, f1, f2, f3⟩, hcall⟩ := hp rfl
 have hrun : (execOp a.eval ⟨d, .call ⟨.value (.tmp t), args, ats⟩, ty, pos, af, gd⟩).run P w = .ok (.enter f (args.map a.eval ++ us)) w := by
   have f2' : ¬ fn.name = "runtime.NumGoroutine" := by simpa using f2
   have f3' : ¬ fn.body = none := fun e => by rw [e] at f3; simp at f3
   simp [execOp, resolve, Deferred.ofValue, het, invoke, callFunc, f1, f2', f3']
 have hlen := hsub.length
 simp only [List.length_append, List.length_map] at hlen
 have hvs : (args.toList.map a.eval ++ us.toList).toArray = args.map a.eval ++ us := Array.ext' (by simp)
 have hargs : ∀ (i : Nat) (hi : i < args.toList.length), (args.toList.map a.eval ++ us.toList).getD i undef = a.eval args.toList[i] := fun i hi => by
   rw [getD_lt (by simp only [List.length_append, List.length_map]; omega), List.getElem_append_left (by simpa using hi), List.getElem_map]
 have hus : ∀ (i : Nat), i < ps.length → (args.toList.map a.eval ++ us.toList).getD (args.toList.length + i) undef = us.getD i undef := fun i hi => by
   rw [List.getD_eq_getElem?_getD, List.getElem?_append_right (by simp)]
   simp [Array.getD_eq_getD_getElem?]
 have hxs : ∀ (i : Nat) (hi : i < args.toList.length), ((args.toList.map fun y => (ev s y).strip.view h) ++ ps).getD i .any = (ev s args.toList[i]).strip.view h := fun i hi => by
   rw [getD_lt (by simp only [List.length_append, List.length_map]; omega), List.getElem_append_left (by simpa using hi), List.getElem_map]
 have hxp : ∀ (i : Nat), i < ps.length → ((args.toList.map fun y => (ev s y).strip.view h) ++ ps).getD (args.toList.length + i) .any = ps.getD i .any := fun i hi => by
   rw [List.getD_eq_getElem?_getD, List.getElem?_append_right (by simp)]
   simp [List.getD_eq_getElem?_getD]
 have hin : ∀ {Z : Nat → Prop}, (∀ b, Z b → Zf E.Z gs b) → (∀ y ∈ args.toList, RC w Z (a.eval y) ((ev s y).strip.view h)) → ∀ i, i < cs.length → RC w Z ((args.toList.map a.eval ++ us.toList).getD i undef) (cs.getD i .any) := by
   intro Z hz hy i hi
   have h1 := hsub.get i (by simp only [List.length_append, List.length_map]; omega)
   by_cases hi' : i < args.toList.length
   · rw [hxs i hi'] at h1
     rw [hargs i hi']
     exact h1 _ _ _ (hy _ (List.getElem_mem hi'))
   · obtain ⟨q, rfl⟩ : ∃ q, i = args.toList.length + q := ⟨i - args.toList.length, by omega⟩
     rw [hxp q (by omega)] at h1
     rw [hus q (by omega)]
     exact h1 _ _ _ ((huh q (by omega)).less hz)
 unfold Oper.wp
 rw [hrun]
 simp only [Oper.upon]
 rcases hfl with hfl | hcl
 · have := hcall E.Z w (args.toList.map a.eval ++ us.toList) (fun b hb => Nat.lt_of_lt_of_le (R.zlt b hb) R.below.size) R.glb (by simp only [List.length_append, List.length_map, Array.length_toList] at hlen ⊢; omega)
     (hin (fun b hb => .inl hb) fun y hy => view_ok R ((ev_ok R _).strip (hw _ hy)))
   rw [hvs] at this
   refine this.mono fun e w' ⟨v, he, hr, hb⟩ => ?_
   subst he
   exact hK v w' hb (.c _ _ (hr.flat hfl))
 · have := hcall (Zf E.Z gs) w (args.toList.map a.eval ++ us.toList) (fun b hb => by
     rcases hb with hb | ⟨o, K', hb⟩
     · exact Nat.lt_of_lt_of_le (R.zlt b hb) R.below.size
     · exact (R.fresh o b K' hb).2) (fun b hb => ⟨.inl (R.glb b hb).1, (R.glb b hb).2⟩) (by simp only [List.length_append, List.length_map, Array.length_toList] at hlen ⊢; omega)
     (hin (fun b hb => hb) fun y hy => closed_view ((ev_ok R _).strip (hw _ hy)) (hcl _ hy))
   rw [hvs] at this
   refine this.mono fun e w' ⟨v, he, hr, hb⟩ => ?_
   subst he
   exact hK v w' hb (.c _ _ hr)
theorem bounds_run {lo hi : Option Operand} {l hh n c : Nat} (hlo : ∀ z, lo = some z → ∃ k, a.eval z = .int k l) (hlo0 : lo = none → l = 0) (hhi : ∀ z, hi = some z → ∃ k, a.eval z = .int k hh) (hhi0 : hi = none → hh = n)
   (h1 : l ≤ hh) (h2 : hh ≤ c) (isSlice : Bool) : (Instr.sliceBounds isSlice n c (lo.map a.eval) (hi.map a.eval) none).run P w = .ok (l, hh, c) w := by
 cases lo with
 | none =>
   have := hlo0 rfl
   subst this
   cases hi with
   | none =>
     have := hhi0 rfl
     subst this
     simp [Instr.sliceBounds]
   | some z =>
     obtain ⟨k, e⟩ := hhi z rfl
     simp [Instr.sliceBounds, e, Instr.sliceBound, asIntOf, h2]
 | some y =>
   obtain ⟨k, e⟩ := hlo y rfl
   cases hi with
   | none =>
     have := hhi0 rfl
     subst this
     simp [Instr.sliceBounds, e, Instr.sliceBound, asIntOf, h1]
   | some z =>
     obtain ⟨k', e'⟩ := hhi z rfl
     simp [Instr.sliceBounds, e, e', Instr.sliceBound, asIntOf, h1, h2]
theorem aop1_slice [Glb] (R : RelG E nt s h gs a w) {d : Option Tmp} {ty : TypeId} {pos : String} {af : Array Edge} {gd : Option (Nat × Bool)} {x : AV} (t : TypeId) (y : Operand) (lo hi mx : Option Operand) (hx : aop1 P (.slice t y lo hi mx) (ev s) h true x) :
   ∃ v w', (execOp a.eval ⟨d, .slice t y lo hi mx, ty, pos, af, gd⟩).run P w = .ok (.value v) w' ∧ Below w.heap.size w w' ∧ RA w' (Zf E.Z gs) h gs v x := by
 cases mx with
 | some m => exact hx.elim
 | none =>
 obtain ⟨l, hh, hlo, hlo0, hhi, hw, hm⟩ := hx
 obtain ⟨hw1, hlh⟩ := hw rfl
 have hlo' : ∀ z, lo = some z → ∃ k, a.eval z = .int k l := fun z e => by
   obtain ⟨q1, k, q2⟩ := hlo z e
   exact ⟨k, (ev_ok R z).raw_of (q1 rfl) q2⟩
 have hhi' : ∀ z, hi = some z → ∃ k, a.eval z = .int k hh := fun z e => by
   obtain ⟨q1, k, q2⟩ := hhi z e
   exact ⟨k, (ev_ok R z).raw_of (q1 rfl) q2⟩
 have c1 := (ev_ok R y).strip hw1
 generalize hvy : a.eval y = vy at c1
 generalize (ev s y).strip = xy at c1 hm
 have hsl : ∀ (el : TypeId) (j : TypeInfo) (A : Option Addr) (n c : Nat), vy = .slice A n c → P.underlying t = some (.slice el) → P.info? el = some j → (hi = none → hh = n) → hh ≤ c →
     (execOp a.eval ⟨d, .slice t y lo hi none, ty, pos, af, gd⟩).run P w = .ok (.value (.slice (if c = l then A else A.map (·.add (l * j.size))) (hh - l) (c - l))) w := by
   intro el j A n c hv ht hj h0 hc
   subst hv
   have hb := bounds_run (P := P) (w := w) hlo' hlo0 hhi' h0 hlh hc true
   simp only [execOp, hvy, Option.map_none, Instr.sliceAt, Sem.run_bind, run_underlying ht, Result.andThen_ok, Instr.slice, hb, sizeOf, typeInfo, run_program, hj, Sem.run_pure]
 cases c1 with
 | c _ q hq =>
   cases q with
   | im sz n f =>
     obtain ⟨⟨i, j, e1, e2, e3, hg⟩, h0, rfl⟩ := hm
     obtain ⟨rfl, hn⟩ := hg rfl
     obtain ⟨i', dd, t1, t2, -, -, -, t6, t7, -, -⟩ := tinfo_some e1
     obtain ⟨j', dj, u1, u2, u3, -, -, -, -, -, -⟩ := tinfo_some e3
     cases dd with
     | slice el =>
       simp only at t6
       rw [t6] at u1
       obtain ⟨A, c, rfl, hpos⟩ := hq.im_inv
       by_cases hz : hh - l = 0
       · by_cases hn0 : 0 < n
         · obtain ⟨ad, g, rfl, hb, hlt, hnc, hc, ho, hf, hh'⟩ := hpos hn0
           refine ⟨_, w, hsl el j' _ n c rfl t2 u1 h0 (by omega), Below.refl _ _, .c _ _ ?_⟩
           rw [hz]
           exact .nul _ _ _ _
         · refine ⟨_, w, hsl el j' _ n c rfl t2 u1 h0 (by omega), Below.refl _ _, .c _ _ ?_⟩
           rw [hz]
           exact .nul _ _ _ _
       · obtain ⟨ad, g, rfl, hb, hlt, hnc, hc, ho, hf, hh'⟩ := hpos (by omega)
         refine ⟨_, w, hsl el j' _ n c rfl t2 u1 h0 (by omega), Below.refl _ _, .c _ _ ?_⟩
         rw [if_neg (by omega)]
         have hm1 : l * j.size + (hh - l) * j.size ≤ n * j.size := by rw [← Nat.add_mul]; exact Nat.mul_le_mul_right _ (by omega)
         refine .im _ _ _ _ _ (fun q => g (l * j.size + q)) (by rw [block_add]; exact hb) (by rw [block_add]; exact hlt) (by omega) (fun q hq => ?_) (fun q hq => ho _ (by omega)) (fun q hq => hf _ (by omega)) fun q r hq hr => ?_
         · rw [add_add, ← u3]
           exact hc _ (by omega)
         · have := hh' (l + q) r (by omega) hr
           rw [Nat.add_mul, Nat.add_assoc] at this
           exact this
     | _ => simp_all
   | raw u =>
     have := hq.raw_inv
     subst this
     cases vy with
     | string b =>
       obtain ⟨ht, hb, h0, rfl⟩ := hm
       refine ⟨.string (b.extract l hh), w, ?_, Below.refl _ _, .c _ _ (.raw _)⟩
       have hbr := bounds_run (P := P) (w := w) (n := b.size) (c := b.size) hlo' hlo0 hhi' h0 hlh (hb rfl) false
       simp only [execOp, hvy, Option.map_none, Instr.sliceAt, Sem.run_bind, run_underlying ht, Result.andThen_ok, Instr.slice, hbr, Option.isSome_none, Bool.false_eq_true, if_false, Sem.run_pure]
     | _ => exact hm.elim
   | _ => exact hm.elim
 | own A k c o L ty' sz n f ho hL hv =>
   obtain ⟨ty2, sz2, n2, f2, e4, ⟨i, j, e1, e2, e3, hg⟩, hl, h0, rfl⟩ := hm
   rw [ho] at e4
   injection e4 with e5 e6 e7 e8
   subst e6; subst e7
   obtain ⟨rfl, hn⟩ := hg rfl
   have hl1 := hl rfl
   obtain ⟨i', dd, t1, t2, -, -, -, t6, t7, -, -⟩ := tinfo_some e1
   obtain ⟨j', dj, u1, u2, u3, -, -, -, -, -, -⟩ := tinfo_some e3
   cases dd with
   | slice el =>
     simp only at t6
     rw [t6] at u1
     have hob := R.objs o
     rw [ho] at hob
     rcases hv hl1 with ⟨b, K, q1, rfl, rfl, rfl⟩ | ⟨q1, rfl, rfl, hn0⟩
     · have hkc : k ≤ c := by
         rcases hob with r1 | ⟨b', K', cur, r1, r2, r3, r4, _⟩
         · rw [q1] at r1; cases r1
         · rw [q1] at r1
           simp only [Option.some.injEq, Prod.mk.injEq] at r1
           omega
       refine ⟨_, w, hsl el j' _ k c rfl t2 u1 h0 (by omega), Below.refl _ _, .osub _ _ _ o L l (hh - l) ty' _ k f ho hL fun _ => ⟨by omega, rfl, by omega, fun hp => ⟨b, c, q1, ?_⟩, .inl ⟨b, c, q1, rfl, fun hl0 => ?_⟩⟩⟩
       · rw [if_neg (by omega), Option.map_some, addr_lit, Nat.zero_add, u3]
       · subst hl0
         split
         · rfl
         · rw [Option.map_some, addr_lit, Nat.zero_mul]
     · subst hn0
       refine ⟨_, w, hsl el j' _ 0 0 rfl t2 u1 h0 (by omega), Below.refl _ _, .osub _ _ _ o L l (hh - l) ty' _ 0 f ho hL fun _ => ⟨by omega, rfl, by omega, fun hp => by omega, .inr ⟨q1, by omega, rfl⟩⟩⟩
   | _ => simp_all
 | osub A k' c o L off k ty' sz n f ho hL hv =>
   obtain ⟨ty2, sz2, n2, f2, e4, ⟨i, j, e1, e2, e3, hg⟩, hl, h0, rfl⟩ := hm
   rw [ho] at e4
   injection e4 with e5 e6 e7 e8
   subst e6; subst e7
   obtain ⟨rfl, hn⟩ := hg rfl
   have hl1 := hl rfl
   obtain ⟨i', dd, t1, t2, -, -, -, t6, t7, -, -⟩ := tinfo_some e1
   obtain ⟨j', dj, u1, u2, u3, -, -, -, -, -, -⟩ := tinfo_some e3
   obtain ⟨v1, rfl, v3, v4, v5⟩ := hv hl1
   have a1 : hh ≤ c := Nat.le_trans hn v3
   have a2 : off + l + (hh - l) ≤ n := by clear v4 v5; omega
   have a3 : hh - l ≤ c - l := Nat.sub_le_sub_right a1 l
   cases dd with
   | slice el =>
     simp only at t6
     rw [t6] at u1
     refine ⟨_, w, hsl el j' _ k' c rfl t2 u1 h0 a1, Below.refl _ _, .osub _ _ _ o L (off + l) (hh - l) ty' _ n f ho hL fun _ => ⟨a2, rfl, a3, fun hp => ?_, ?_⟩⟩
     · obtain ⟨b, K, g1, rfl⟩ := v4 (by omega)
       exact ⟨b, K, g1, by rw [if_neg (by omega), Option.map_some, addr_lit, u3, Nat.add_mul]⟩
     · rcases v5 with ⟨b, K, g1, g2, g3⟩ | ⟨g1, g2, g3⟩
       · refine .inl ⟨b, K, g1, by omega, fun hz => ?_⟩
         have hl0 : l = 0 := by omega
         have ho0 : off = 0 := by omega
         subst hl0
         rw [g3 ho0]
         split
         · rfl
         · rw [Option.map_some, addr_lit, Nat.zero_mul]
       · exact .inr ⟨g1, by omega, g3⟩
   | _ => simp_all
 | emp A =>
   obtain ⟨⟨i, j, e1, e2, e3⟩, rfl, rfl⟩ := hm
   obtain ⟨i', dd, t1, t2, -, -, -, t6, t7, -, -⟩ := tinfo_some e1
   obtain ⟨j', dj, u1, u2, u3, -, -, -, -, -, -⟩ := tinfo_some e3
   have hl0 : l = 0 := by omega
   subst hl0
   cases dd with
   | slice el =>
     simp only at t6
     rw [t6] at u1
     exact ⟨_, w, hsl el j' _ 0 0 rfl t2 u1 (fun _ => rfl) (by omega), Below.refl _ _, .emp _⟩
   | _ => simp_all
 | _ => exact hm.elim
theorem sameNow_eq {kd : TypeDesc} {k k' : Value} (h : keyOk kd k = true) (h' : keyOk kd k' = true) : Instr.sameNow kd k k' = some (keyEq k k') := by
 cases kd <;> cases k <;> simp [keyOk] at h <;> cases k' <;> simp [keyOk] at h' <;> simp_all [Instr.sameNow, keyEq]
theorem keyOk_is {kd : TypeDesc} {k : Value} (h : keyOk kd k = true) : MapKept.IsKey kd k := by
 cases kd <;> cases k <;> simp [keyOk] at h <;> simp [MapKept.IsKey, h]
theorem findNow_first {kd : TypeDesc} {k : Value} (hk : keyOk kd k = true) : ∀ (l : List MapEntry) (i : Nat), (∀ e ∈ l, keyOk kd e.key = true) →
   (∃ j e, l[j]? = some e ∧ keyEq k e.key = true ∧ (∀ j' e', j' < j → l[j']? = some e' → keyEq k e'.key = false) ∧ Instr.findNow kd k l i = some (some (i + j, e.val))) ∨
   ((∀ e ∈ l, keyEq k e.key = false) ∧ Instr.findNow kd k l i = some none)
 | [], i, _ => .inr ⟨by simp, rfl⟩
 | e :: r, i, hl => by
   have hs := sameNow_eq hk (hl e (List.mem_cons_self ..))
   cases hq : keyEq k e.key with
   | true =>
     left
     refine ⟨0, e, rfl, hq, fun j' e' hj => by omega, ?_⟩
     simp [Instr.findNow, hs, hq]
   | false =>
     have hf : Instr.findNow kd k (e :: r) i = Instr.findNow kd k r (i + 1) := by simp [Instr.findNow, hs, hq]
     rcases findNow_first hk r (i + 1) (fun x hx => hl x (List.mem_cons_of_mem _ hx)) with ⟨j, e1, h1, h2, h3, h4⟩ | ⟨h1, h2⟩
     · left
       refine ⟨j + 1, e1, by simpa using h1, h2, fun j' e' hj he => ?_, ?_⟩
       · cases j' with
         | zero => simp at he; subst he; exact hq
         | succ j' => exact h3 j' e' (by omega) (by simpa using he)
       · rw [hf, h4]
         congr 3
         omega
     · right
       exact ⟨fun x hx => by rcases List.mem_cons.1 hx with rfl | hx; exact hq; exact h1 x hx, by rw [hf, h2]⟩
theorem getE_at {k : Value} : ∀ (es : List (Value × AV)) (j : Nat) (hj : j < es.length), keyEq k es[j].1 = true → (∀ j' (h : j' < j), keyEq k (es[j']'(by omega)).1 = false) → getE k es = some es[j].2
 | e :: r, 0, hj, h, _ => by simp only [List.getElem_cons_zero] at h ⊢; rw [getE, if_pos h]
 | e :: r, j + 1, hj, h, hn => by
   have h0 := hn 0 (by omega)
   simp only [List.getElem_cons_zero] at h0
   rw [getE, if_neg (by rw [h0]; decide)]
   exact getE_at r j (by simpa using hj) (by simpa using h) fun j' h' => by simpa using hn (j' + 1) (by omega)
theorem getE_none {k : Value} : ∀ (es : List (Value × AV)), (∀ j (h : j < es.length), keyEq k es[j].1 = false) → getE k es = none
 | [], _ => rfl
 | e :: r, h => by
   have h0 := h 0 (by simp)
   simp only [List.getElem_cons_zero] at h0
   rw [getE, if_neg (by rw [h0]; decide)]
   exact getE_none r fun j hj => h (j + 1) (by simpa using hj)
theorem run_lookup {Z : Nat → Prop} {gs : Gs} {h : AH} {t kt et : TypeId} {kd : TypeDesc} {k vy : Value} {q : AV × Bool} {es : List (Value × AV)} {ents : Array MapEntry} (ht : P.underlying t = some (.map kt et)) (hkd : P.underlying kt = some kd) (hk : keyOk kd k = true)
   (hl : ents.size = es.length) (hkey : ∀ i, i < es.length → (ents.getD i default).key = (es.getD i (undef, default)).1) (hval : ∀ i, i < es.length → RA w Z h gs (ents.getD i default).val (es.getD i (undef, default)).2)
   (hall : (es.all fun e => keyOk kd e.1) = true) (hf : foundA P et es k q) (hv : (vy = .map none ∧ ents = #[]) ∨ ∃ b clock, vy = .map (some b) ∧ w.heap[b]? = some (.map ents clock)) (ok : Bool) :
   ∃ v, (Instr.lookup t vy k ok).run P w = .ok (if ok then .tuple #[v, .bool q.2] else v) w ∧ RA w Z h gs v q.1 := by
 have hks : ∀ e ∈ ents.toList, keyOk kd e.key = true := fun e he => by
   obtain ⟨i, hi, rfl⟩ := List.getElem_of_mem he
   have hi' : i < ents.size := by simpa using hi
   have h1 := hkey i (by omega)
   rw [getD_lt (by omega)] at h1
   have h2 : ents.getD i default = ents[i] := by simp [Array.getD, hi']
   rw [h2] at h1
   rw [Array.getElem_toList, h1]
   exact List.all_eq_true.1 hall _ (List.getElem_mem _)
 have hkey' : ∀ (j : Nat) (hj : j < es.length) (e : MapEntry), ents.toList[j]? = some e → e.key = es[j].1 ∧ RA w Z h gs e.val es[j].2 := fun j hj e he => by
   have h1 := hkey j hj
   have h2 := hval j hj
   rw [getD_lt hj] at h1 h2
   have h3 : ents.getD j default = e := by
     rw [Array.getD_eq_getD_getElem?]
     rw [Array.getElem?_toList] at he
     rw [he]
     rfl
   rw [h3] at h1 h2
   exact ⟨h1, h2⟩
 have hck := MapKept.run_checkKey (P := P) (w := w) hkd (keyOk_is hk) ents.isEmpty 9999
 have hrun : ∀ (r : Option (Nat × Value)) (v : Value) (b : Bool), Instr.findNow kd k ents.toList 0 = some r → (match r with | some (_, v) => pure (v, true) | none => (do pure (← zeroValue et, false)) : Sem (Value × Bool)).run P w = .ok (v, b) w →
     (Instr.lookup t vy k ok).run P w = .ok (if ok then .tuple #[v, .bool b] else v) w := by
   intro r v b h1 h2
   have hfk := MapKept.run_findKey (P := P) (w := w) hkd h1
   rcases hv with ⟨rfl, rfl⟩ | ⟨bk, clock, rfl, hb⟩
   · simp only [Instr.lookup, Sem.run_bind, run_underlying ht, Result.andThen_ok, Sem.run_pure, hck, hfk]
     cases r with
     | some r => simp only [Sem.run_bind] at h2 ⊢; rw [h2]; rfl
     | none =>
       simp only [Sem.run_bind] at h2 ⊢
       generalize Sem.run P (zeroValue et) w = zz at h2 ⊢
       cases zz with
       | ok a w' =>
         simp only [Result.andThen_ok, Sem.run_pure, Result.ok.injEq, Prod.mk.injEq] at h2 ⊢
         obtain ⟨⟨rfl, rfl⟩, rfl⟩ := h2
         exact ⟨rfl, rfl⟩
       | _ => simp [Result.andThen] at h2
   · simp only [Instr.lookup, Sem.run_bind, run_underlying ht, Result.andThen_ok, Sem.run_pure, MapKept.run_getObj_map hb, hck, hfk]
     cases r with
     | some r => simp only [Sem.run_bind] at h2 ⊢; rw [h2]; rfl
     | none =>
       simp only [Sem.run_bind] at h2 ⊢
       generalize Sem.run P (zeroValue et) w = zz at h2 ⊢
       cases zz with
       | ok a w' =>
         simp only [Result.andThen_ok, Sem.run_pure, Result.ok.injEq, Prod.mk.injEq] at h2 ⊢
         obtain ⟨⟨rfl, rfl⟩, rfl⟩ := h2
         exact ⟨rfl, rfl⟩
       | _ => simp [Result.andThen] at h2
 rcases findNow_first hk ents.toList 0 hks with ⟨j, e, h1, h2, h3, h4⟩ | ⟨h1, h2⟩
 · have hj : j < es.length := by
     have := (List.getElem?_eq_some_iff.1 h1).1
     simp at this
     omega
   obtain ⟨e1, e2⟩ := hkey' j hj e h1
   have hg : getE k es = some es[j].2 := getE_at es j hj (by rw [← e1]; exact h2) fun j' hj' => by
     have hlt : j' < ents.toList.length := by simp; omega
     have := h3 j' ents.toList[j'] hj' (List.getElem?_eq_getElem hlt)
     rw [(hkey' j' (by omega) _ (List.getElem?_eq_getElem hlt)).1] at this
     exact this
   unfold foundA at hf
   rw [hg] at hf
   subst hf
   exact ⟨e.val, hrun _ e.val true h4 rfl, e2⟩
 · have hg : getE k es = none := getE_none es fun j hj => by
     have hlt : j < ents.toList.length := by simp; omega
     have := h1 _ (List.getElem_mem hlt)
     rw [(hkey' j hj _ (List.getElem?_eq_getElem hlt)).1] at this
     exact this
   unfold foundA at hf
   rw [hg] at hf
   obtain ⟨hb, i, jt, z, e1, e2, e3, e4⟩ := hf
   refine ⟨z, ?_, ?_⟩
   · rw [hb]
     refine hrun _ z false h2 ?_
     simp [zeroValue, typeInfo, e2, e3]
   · rcases e4 with e4 | ⟨u, rfl, sz, f, e4⟩ | ⟨rfl, e4⟩
     · rw [e4]; exact .c _ _ (.raw _)
     · rw [e4]; exact .c _ _ (.nul _ _ _ _)
     · rw [e4]; exact .emp _
theorem aop1_lookup [Glb] (R : RelG E nt s h gs a w) {d : Option Tmp} {ty : TypeId} {pos : String} {af : Array Edge} {gd : Option (Nat × Bool)} {x : AV} (t : TypeId) (y z : Operand) (ok : Bool) (hx : aop1 P (.lookup t y z ok) (ev s) h true x) :
   ∃ v w', (execOp a.eval ⟨d, .lookup t y z ok, ty, pos, af, gd⟩).run P w = .ok (.value v) w' ∧ Below w.heap.size w w' ∧ RA w' (Zf E.Z gs) h gs v x := by
 obtain ⟨kt, et, kd, k, q, ht, hkd, hk, ez, hw, hm, hxx⟩ := hx
 obtain ⟨hw1, hw2⟩ := hw rfl
 have c1 := (ev_ok R y).strip hw1
 have c2 := (ev_ok R z).raw_of hw2 ez
 have key : ∃ v, (Instr.lookup t (a.eval y) k ok).run P w = .ok (if ok then .tuple #[v, .bool q.2] else v) w ∧ RA w (Zf E.Z gs) h gs v q.1 := by
   generalize a.eval y = vy at c1
   generalize (ev s y).strip = xy at c1 hm
   cases c1 with
   | mref o b K es0 clock0 ho hg =>
     obtain ⟨es, c, e2, hall, hf⟩ := hm
     have hob := R.objs o
     rw [e2] at hob
     obtain ⟨b', K', ents, q1, q2, q3, q4, q5⟩ := hob
     rw [hg] at q1
     simp only [Option.some.injEq, Prod.mk.injEq] at q1
     obtain ⟨rfl, rfl⟩ := q1
     refine run_lookup ht hkd hk (by simpa using q3) (fun i hi => ?_) (fun i hi => ?_) (by simpa [List.all_map, Function.comp_def] using hall) hf (.inr ⟨b, c, rfl, q2⟩) ok
     · have hi' : i < es.length := by simpa using hi
       have := (q4 i hi').1
       rw [getD_lt hi, List.getElem_map]
       rw [getD_lt hi'] at this
       exact this
     · have hi' : i < es.length := by simpa using hi
       have := q5 i hi'
       rw [getD_lt hi, List.getElem_map]
       rw [getD_lt hi'] at this
       exact this
   | c _ u hu =>
     cases u with
     | mp es =>
       obtain ⟨hall, hf⟩ := hm
       cases hu with
       | mp b ents clock _ hb he hl hkk hh =>
         refine run_lookup ht hkd hk (by simpa using hl) (fun i hi => ?_) (fun i hi => ?_) (by simpa [List.all_map, Function.comp_def] using hall) hf (.inr ⟨b, clock, rfl, he⟩) ok
         · have hi' : i < es.length := by simpa using hi
           have := hkk i hi'
           rw [getD_lt hi, List.getElem_map]
           rw [getD_lt hi'] at this
           exact this
         · have hi' : i < es.length := by simpa using hi
           have := hh i hi'
           rw [getD_lt hi, List.getElem_map]
           rw [getD_lt hi'] at this
           exact .c _ _ this
     | raw u =>
       have := hu.raw_inv
       subst this
       cases vy with
       | map r =>
         cases r with
         | none => exact run_lookup (ents := #[]) ht hkd hk rfl (fun i hi => by simp at hi) (fun i hi => by simp at hi) rfl hm (.inl ⟨rfl, rfl⟩) ok
         | some r => exact hm.elim
       | _ => exact hm.elim
     | _ => exact hm.elim
   | _ => exact hm.elim
 obtain ⟨v, hr, hv⟩ := key
 refine ⟨if ok then .tuple #[v, .bool q.2] else v, w, ?_, Below.refl _ _, ?_⟩
 · simp only [execOp, c2, Sem.run_bind, hr, Result.andThen_ok, Sem.run_pure]
 · cases ok with
   | false =>
     simp only [Bool.false_eq_true, if_false] at hxx ⊢
     subst hxx
     exact hv
   | true =>
     simp only [if_true] at hxx ⊢
     obtain ⟨y', e1, rfl⟩ := hxx
     have h1 := hv.closed1_of e1
     refine .c _ _ (.tup _ _ rfl fun i hi => ?_)
     match i, hi with
     | 0, _ => exact h1
     | 1, _ => exact .raw _
end
end Go.Am
namespace Go.Am
open Go.RowKit
def setLC (cs : List CV) (off : Nat) (xs : List CV) : List CV := cs.take off ++ xs ++ cs.drop (off + xs.length)
def srcOf (h : AH) : AV → Option (Nat × Nat × (Nat → List CV))
 | .c (.im sz m g) => some (sz, m, g)
 | .c .emp => some (0, 0, fun _ => [])
 | .emp => some (0, 0, fun _ => [])
 | .own o L => match h o with
   | .row _ sz n f => if L = n then some (sz, n, f) else none
   | _ => none
 | .osub o L off k => match h o with
   | .row _ sz n f => if L = n then some (sz, k, fun i => f (off + i)) else none
   | _ => none
 | _ => none
def putL (k : Value) (v : AV) (c : Nat) : List (Value × Nat × AV) → List (Value × Nat × AV) × Nat
 | [] => ([(k, c, v)], c + 1)
 | e :: r => if keyEq k e.1 then ((k, e.2.1, v) :: r, c) else (e :: (putL k v c r).1, (putL k v c r).2)
def bornL (k : Value) (c : Nat) : List (Value × Nat × AV) → Nat
 | [] => c
 | e :: r => if keyEq k e.1 then e.2.1 else bornL k c r
def setB (b : Nat) (v : AV) : List (Value × Nat × AV) → List (Value × Nat × AV)
 | [] => []
 | e :: r => if e.2.1 == b then (e.1, e.2.1, v) :: r else e :: setB b v r
def aop2 (P : Program) (op : Op) (e : Operand → AV) (h : AH) (d : Option Tmp) (o : Nat) (x' : AObj) (x : AV) : Prop :=
 match op with
 | .store t y z => d = none ∧ ∃ i, tinfo P t = some i ∧ (e y).wh = true ∧ (e z).wh = true ∧
     match (e y).strip with
     | .ptr o' off => o = o' ∧ ∃ ty cells l, h o' = .box ty cells ∧ (e z).strip.cells = some l ∧ l.length = i.size ∧ off + i.size ≤ cells.length ∧ x' = .box ty (setL cells off l)
     | .rp o' L k off => o = o' ∧ ∃ ty sz n f l, h o' = .row ty sz n f ∧ L = n ∧ k < n ∧ (e z).strip.closedCells = some l ∧ l.length = i.size ∧ off + i.size ≤ sz ∧ x' = .row ty sz n (upd f k (setLC (f k) off l))
     | _ => False
 | .mapUpdate t m k v => d = none ∧ ∃ kt et kd kk es c, P.underlying t = some (.map kt et) ∧ P.underlying kt = some kd ∧ keyOk kd kk = true ∧ (e k).strip = .c (.raw kk) ∧ (e m).wh = true ∧ (e k).wh = true ∧ (e v).wh = true ∧
     (e m).strip = .mref o ∧ h o = .map es c ∧ (es.all fun e => keyOk kd e.1) = true ∧ x' = .map (putL kk (e v).strip c es).1 (putL kk (e v).strip c es).2
 | .mapEntry t m k => ∃ kt et kd kk es c q y, P.underlying t = some (.map kt et) ∧ P.underlying kt = some kd ∧ keyOk kd kk = true ∧ (e k).strip = .c (.raw kk) ∧ (e m).wh = true ∧ (e k).wh = true ∧
     (e m).strip = .mref o ∧ h o = .map es c ∧ (es.all fun e => keyOk kd e.1) = true ∧ foundA P et (es.map fun e => (e.1, e.2.2)) kk q ∧ q.1.closed1 = some y ∧ x' = .map (putL kk q.1 c es).1 (putL kk q.1 c es).2 ∧ x = .c (.tup [y, .int (bornL kk c es)])
 | .entryStore _ m b v => d = none ∧ ∃ k n es c, (e b).strip = .c (.raw (.int k (n : Nat))) ∧ (e m).wh = true ∧ (e b).wh = true ∧ (e v).wh = true ∧
     (e m).strip = .mref o ∧ h o = .map es c ∧ (es.any fun e => e.2.1 == n) = true ∧ x' = .map (setB n (e v).strip es) c
 | .call { callee := .builtin .append, args := args, argTypes := ats } => ∃ y z t i j sz m g, args = #[y, z] ∧ ats = #[t, t] ∧ tinfo P t = some i ∧ i.slice = true ∧ tinfo P i.elem = some j ∧ 0 < j.size ∧ j.zero.length = j.size ∧
     (e y).wh = true ∧ (e z).wh = true ∧ srcOf h (e z).strip = some (sz, m, g) ∧ (m = 0 ∨ sz = j.size) ∧
     match (e y).strip with
     | .own o' L => o = o' ∧ ∃ ty n f, h o' = .row ty j.size n f ∧ ty = i.elem ∧ L = n ∧ n + m ≤ maxLen ∧ (n + m) * j.bytes ≤ 140737488355328 ∧
         x' = .row ty j.size (n + m) (fun q => if q < n then f q else g (q - n)) ∧ x = .own o (n + m)
     | .emp => h o = .gone ∧ m ≤ maxLen ∧ m * j.bytes ≤ 140737488355328 ∧ x' = .row i.elem j.size m g ∧ x = .own o m
     | _ => False
 | .call { callee := .builtin .copy, args := args, argTypes := ats } => ∃ y z t t2 i j sz m g, args = #[y, z] ∧ ats = #[t, t2] ∧ tinfo P t = some i ∧ i.slice = true ∧ tinfo P i.elem = some j ∧
     (e y).wh = true ∧ (e z).wh = true ∧ srcOf h (e z).strip = some (sz, m, g) ∧ (m = 0 ∨ sz = j.size) ∧
     match (e y).strip with
     | .own o' L => o = o' ∧ ∃ ty n f, h o' = .row ty j.size n f ∧ L = n ∧ x' = .row ty j.size n (fun q => if q < Nat.min m n then g q else f q) ∧ x = .int (Nat.min m n : Nat)
     | .osub o' L off k => o = o' ∧ ∃ ty n f, h o' = .row ty j.size n f ∧ L = n ∧ x' = .row ty j.size n (fun q => if off ≤ q ∧ q < off + Nat.min m k then g (q - off) else f q) ∧ x = .int (Nat.min m k : Nat)
     | _ => False
 | _ => False
def aop3 (P : Program) (op : Op) (e : Operand → AV) (d : Nat) (x' : AObj) (x : AV) : Prop :=
 match op with
 | .box t y => ∃ l, (e y).wh = true ∧ (e y).strip.cells = some l ∧ x' = .box t l ∧ x = .ptr d 0
 | .makeMap t r => (∃ kt et, P.underlying t = some (.map kt et)) ∧ (∀ y, r = some y → (e y).wh = true ∧ ∃ k n, (e y).strip = .c (.raw (.int k n))) ∧ x' = .map [] 0 ∧ x = .mref d
 | .alloc t => ∃ i, tinfo P t = some i ∧ i.zero ≠ [] ∧ x' = .box t (i.zero.map constAV1) ∧ x = .ptr d 0
 | .makeSlice t y z => ∃ i j k1 k2 n, tinfo P t = some i ∧ i.slice = true ∧ tinfo P i.elem = some j ∧ j.zero.length = j.size ∧ 0 < j.size ∧ (e y).wh = true ∧ (e z).wh = true ∧ (e y).strip = .c (.raw (.int k1 n)) ∧ (e z).strip = .c (.raw (.int k2 n)) ∧
     0 ≤ n ∧ n ≤ 9223372036854775807 ∧ j.bytes * n ≤ 281474976710656 ∧ x' = .row i.elem j.size n.toNat (fun _ => j.zero.map fun v => (constAV1 v).closed1.getD .any) ∧ x = .own d n.toNat
 | _ => False
section
variable {E : Env} {w : World} {nt : Nat} {s : Nat → AV} {h : AH} {gs : Gs} {a : Act} {P : Program}
theorem RelG.new [Glb] (R : RelG E nt s h gs a w) (o : Nat) (ho : h o = .gone) (x' : AObj) (K : Nat) (ty : TypeId) (cur : Array Value)
   (hx : Later w (w.alloc (.cells cur ty)) (Zf E.Z gs) (Zf E.Z (upd gs o (some (w.heap.size, K)))) → Refs h gs (upd h o x') (upd gs o (some (w.heap.size, K))) →
     RObj (w.alloc (.cells cur ty)) (Zf E.Z (upd gs o (some (w.heap.size, K)))) (upd h o x') (upd gs o (some (w.heap.size, K))) o x') :
   RelG E nt s (upd h o x') (upd gs o (some (w.heap.size, K))) a (w.alloc (.cells cur ty)) := by
 refine R.eff o x' (some (w.heap.size, K)) rfl rfl rfl (by simp) (fun k hk _ => Below.heap_alloc w _ k hk) (.inr ⟨_, _, rfl, Nat.le_refl _, by simp⟩) (fun ty cells e => ?_) (fun ty sz n f e => ?_) hx (fun es c e => ?_) (fun m s l t e => ?_)
 · rw [ho] at e; cases e
 · rw [ho] at e; cases e
 · rw [ho] at e; cases e
 · rw [ho] at e; cases e
theorem aop3_box [Glb] (R : RelG E nt s h gs a w) {ty : TypeId} {pos : String} {af : Array Edge} {gd : Option (Nat × Bool)} {d o : Nat} (hd : d < nt) (ho : h o = .gone) {x' : AObj} {x : AV} (t : TypeId) (y : Operand)
   (hx : aop3 P (.box t y) (ev s) o x' x) :
   ∃ v w', (execOp a.eval ⟨some d, .box t y, ty, pos, af, gd⟩).run P w = .ok (.value v) w' ∧ Rel E nt (upd s d x) (upd h o x') (a.put (some d) v) w' := by
 obtain ⟨l, hw, hl, rfl, rfl⟩ := hx
 have hc := (ev_ok R y).strip hw
 obtain ⟨c1, c2, c3⟩ := hc.cells_of hl
 have R' := R.new o ho (.box t l) 0 t (a.eval y).cells fun hL hr => ⟨w.heap.size, 0, (a.eval y).cells, upd_same _ _ _, heap_alloc_new w _, c1, c2, fun j hj => (c3 j hj).later hL hr⟩
 refine ⟨.pointer (some ⟨w.heap.size, 0, none⟩), w.alloc (.cells (a.eval y).cells t), ?_, _, R'.put hd (.ptr o 0 w.heap.size 0 t l (upd_same _ _ _) (upd_same _ _ _))⟩
 simp [execOp, Instr.box, newVar, newRow]
theorem aop3_alloc [Glb] (R : RelG E nt s h gs a w) {ty : TypeId} {pos : String} {af : Array Edge} {gd : Option (Nat × Bool)} {d o : Nat} (hd : d < nt) (ho : h o = .gone) {x' : AObj} {x : AV} (t : TypeId)
   (hx : aop3 P (.alloc t) (ev s) o x' x) :
   ∃ v w', (execOp a.eval ⟨some d, .alloc t, ty, pos, af, gd⟩).run P w = .ok (.value v) w' ∧ Rel E nt (upd s d x) (upd h o x') (a.put (some d) v) w' := by
 obtain ⟨i, e1, e2, rfl, rfl⟩ := hx
 obtain ⟨j, dd, t1, t2, t3, -, -, -, -, -, t9⟩ := tinfo_some e1
 cases hzz : j.zero with
 | none =>
   rw [hzz] at t9
   exact absurd t9 e2
 | some z =>
   rw [hzz] at t9
   simp only at t9
   obtain ⟨z1, z2⟩ := tinfo_zero e1 t1 hzz
   have R' := R.new o ho (.box t (i.zero.map constAV1)) 0 t z.cells fun hL hr => by
     have hzo := zeros_ok (w := w.alloc (.cells z.cells t)) (h := upd h o (.box t (i.zero.map constAV1))) (gs := upd gs o (some (w.heap.size, 0))) (Z := Zf E.Z (upd gs o (some (w.heap.size, 0)))) z.cells.toList z2
     rw [Array.toArray_toList, ← t9] at hzo
     exact ⟨w.heap.size, 0, z.cells, upd_same _ _ _, heap_alloc_new w _, hzo.1, hzo.2.1, hzo.2.2⟩
   refine ⟨.pointer (some ⟨w.heap.size, 0, none⟩), w.alloc (.cells z.cells t), ?_, _, R'.put hd (.ptr o 0 w.heap.size 0 t _ (upd_same _ _ _) (upd_same _ _ _))⟩
   simp [execOp, Instr.alloc, zeroValue, typeInfo, t1, hzz, newVar, newRow]
theorem aop3_makeMap [Glb] (R : RelG E nt s h gs a w) {ty : TypeId} {pos : String} {af : Array Edge} {gd : Option (Nat × Bool)} {d o : Nat} (hd : d < nt) (ho : h o = .gone) {x' : AObj} {x : AV} (t : TypeId) (r : Option Operand)
   (hx : aop3 P (.makeMap t r) (ev s) o x' x) :
   ∃ v w', (execOp a.eval ⟨some d, .makeMap t r, ty, pos, af, gd⟩).run P w = .ok (.value v) w' ∧ Rel E nt (upd s d x) (upd h o x') (a.put (some d) v) w' := by
 obtain ⟨⟨kt, et, ht⟩, hr, rfl, rfl⟩ := hx
 have R' := R.eff (w' := w.alloc (.map #[] 0)) o (.map [] 0) (some (w.heap.size, 0)) rfl rfl rfl (by simp) (fun k hk _ => Below.heap_alloc w _ k hk) (.inr ⟨_, _, rfl, Nat.le_refl _, by simp⟩) (fun ty cells e => by rw [ho] at e; cases e) (fun ty sz n f e => by rw [ho] at e; cases e)
   fun hL hr => ⟨w.heap.size, 0, #[], upd_same _ _ _, heap_alloc_new w _, rfl, fun i hi => by simp at hi, fun i hi => by simp at hi⟩
 refine ⟨.map (some w.heap.size), w.alloc (.map #[] 0), ?_, _, R'.put hd (.mref o w.heap.size 0 [] 0 (upd_same _ _ _) (upd_same _ _ _))⟩
 cases r with
 | none => simp [execOp, Instr.makeMap]
 | some y =>
   obtain ⟨h1, k, n, h2⟩ := hr y rfl
   have c1 := (ev_ok R y).raw_of h1 h2
   simp [execOp, Instr.makeMap, c1, run_underlying ht, asInt, asIntOf]
theorem putL_at {k : Value} {v : AV} {c : Nat} : ∀ (es : List (Value × Nat × AV)) (j : Nat) (hj : j < es.length), keyEq k es[j].1 = true → (∀ j' (h : j' < j), keyEq k (es[j']'(by omega)).1 = false) →
   putL k v c es = (es.set j (k, es[j].2.1, v), c) ∧ bornL k c es = es[j].2.1
 | e :: r, 0, hj, h, _ => by simp only [List.getElem_cons_zero] at h ⊢; rw [putL, bornL, if_pos h, if_pos h]; exact ⟨rfl, rfl⟩
 | e :: r, j + 1, hj, h, hn => by
   have h0 := hn 0 (by omega)
   simp only [List.getElem_cons_zero] at h0
   have h0' : ¬ keyEq k e.1 = true := by rw [h0]; decide
   obtain ⟨h1, h2⟩ := putL_at (v := v) (c := c) r j (by simpa using hj) (by simpa using h) fun j' h' => by simpa using hn (j' + 1) (by omega)
   rw [putL, bornL, if_neg h0', if_neg h0', h1, h2]
   exact ⟨rfl, rfl⟩
theorem putL_none {k : Value} {v : AV} {c : Nat} : ∀ (es : List (Value × Nat × AV)), (∀ j (h : j < es.length), keyEq k es[j].1 = false) → putL k v c es = (es ++ [(k, c, v)], c + 1) ∧ bornL k c es = c
 | [], _ => ⟨rfl, rfl⟩
 | e :: r, h => by
   have h0 := h 0 (by simp)
   simp only [List.getElem_cons_zero] at h0
   have h0' : ¬ keyEq k e.1 = true := by rw [h0]; decide
   obtain ⟨h1, h2⟩ := putL_none (v := v) (c := c) r fun j hj => h (j + 1) (by simpa using hj)
   rw [putL, bornL, if_neg h0', if_neg h0', h1, h2]
   exact ⟨rfl, rfl⟩
theorem setB_at {b : Nat} {v : AV} : ∀ (es : List (Value × Nat × AV)) (j : Nat) (hj : j < es.length), es[j].2.1 = b → (∀ j' (h : j' < j), (es[j']'(by omega)).2.1 ≠ b) → setB b v es = es.set j (es[j].1, b, v)
 | e :: r, 0, hj, h, _ => by simp only [List.getElem_cons_zero] at h ⊢; rw [setB, if_pos (by simpa using h), h]; rfl
 | e :: r, j + 1, hj, h, hn => by
   have h0 := hn 0 (by omega)
   simp only [List.getElem_cons_zero] at h0
   rw [setB, if_neg (by simpa using h0), setB_at r j (by simpa using hj) (by simpa using h) fun j' h' => by simpa using hn (j' + 1) (by omega)]
   rfl
def EntsOk (w : World) (Z : Nat → Prop) (h : AH) (gs : Gs) (ents : Array MapEntry) (es : List (Value × Nat × AV)) : Prop := ents.size = es.length ∧
 (∀ i, i < es.length → (ents.getD i default).key = (es.getD i (undef, 0, default)).1 ∧ (ents.getD i default).born = (es.getD i (undef, 0, default)).2.1) ∧
 ∀ i, i < es.length → RA w Z h gs (ents.getD i default).val (es.getD i (undef, 0, default)).2.2
theorem EntsOk.get {Z : Nat → Prop} {ents : Array MapEntry} {es : List (Value × Nat × AV)} (H : EntsOk w Z h gs ents es) {j : Nat} (hj : j < es.length) {e : MapEntry} (he : ents.toList[j]? = some e) : e.key = es[j].1 ∧ e.born = es[j].2.1 ∧ RA w Z h gs e.val es[j].2.2 := by
 obtain ⟨h1, h2, h3⟩ := H
 have h2 := h2 j hj
 have h3 := h3 j hj
 rw [getD_lt hj] at h2 h3
 have h4 : ents.getD j default = e := by
   rw [Array.getD_eq_getD_getElem?]
   rw [Array.getElem?_toList] at he
   rw [he]
   rfl
 rw [h4] at h2 h3
 exact ⟨h2.1, h2.2, h3⟩
theorem EntsOk.later {w' : World} {Z Z' : Nat → Prop} {h' : AH} {gs' : Gs} {ents : Array MapEntry} {es : List (Value × Nat × AV)} (H : EntsOk w Z h gs ents es) (hw : Later w w' Z Z') (hr : Refs h gs h' gs') : EntsOk w' Z' h' gs' ents es :=
 ⟨H.1, H.2.1, fun i hi => (H.2.2 i hi).later hw hr⟩
theorem EntsOk.set {Z : Nat → Prop} {ents : Array MapEntry} {es : List (Value × Nat × AV)} (H : EntsOk w Z h gs ents es) {j : Nat} (hj : j < es.length) {k v : Value} {x : AV} {e : MapEntry} (he : ents.toList[j]? = some e) (hv : RA w Z h gs v x) (f : MapEntry → MapEntry) (hf : f e = { e with key := k, val := v }) :
   EntsOk w Z h gs (ents.modify j f) (es.set j (k, es[j].2.1, x)) := by
 have hg := H.get hj he
 obtain ⟨h1, h2, h3⟩ := H
 have hje : j < ents.size := by omega
 have e0 : ents[j] = e := by
   rw [Array.getElem?_toList, Array.getElem?_eq_getElem hje] at he
   exact Option.some.inj he
 have key : ∀ i, i < es.length → ((ents.modify j f).getD i default) = if i = j then f e else ents.getD i default := fun i hi => by
   simp only [Array.getD_eq_getD_getElem?]
   rw [Array.getElem?_modify]
   split
   · rename_i hq
     subst hq
     rw [if_pos rfl, Array.getElem?_eq_getElem hje, e0]
     rfl
   · rename_i hq
     rw [if_neg (Ne.symm hq)]
 refine ⟨by simpa using h1, fun i hi => ?_, fun i hi => ?_⟩
 · rw [List.length_set] at hi
   rw [key i hi]
   by_cases hq : i = j
   · subst hq
     rw [if_pos rfl, hf, getD_lt (by simpa using hi), List.getElem_set_self]
     exact ⟨rfl, hg.2.1⟩
   · rw [if_neg hq, getD_lt (by simpa using hi), List.getElem_set_ne (Ne.symm hq)]
     have := h2 i hi
     rw [getD_lt hi] at this
     exact this
 · rw [List.length_set] at hi
   rw [key i hi]
   by_cases hq : i = j
   · subst hq
     rw [if_pos rfl, hf, getD_lt (by simpa using hi), List.getElem_set_self]
     exact hv
   · rw [if_neg hq, getD_lt (by simpa using hi), List.getElem_set_ne (Ne.symm hq)]
     have := h3 i hi
     rw [getD_lt hi] at this
     exact this
theorem EntsOk.push {Z : Nat → Prop} {ents : Array MapEntry} {es : List (Value × Nat × AV)} (H : EntsOk w Z h gs ents es) {k v : Value} {x : AV} {c : Nat} (hv : RA w Z h gs v x) : EntsOk w Z h gs (ents.push { key := k, val := v, born := c }) (es ++ [(k, c, x)]) := by
 obtain ⟨h1, h2, h3⟩ := H
 have key : ∀ i, i < es.length → (ents.push { key := k, val := v, born := c }).getD i default = ents.getD i default ∧ (es ++ [(k, c, x)]).getD i (undef, 0, default) = es.getD i (undef, 0, default) := fun i hi => by
   refine ⟨?_, ?_⟩
   · simp only [Array.getD_eq_getD_getElem?]
     rw [Array.getElem?_push_lt (by omega), Array.getElem?_eq_getElem (by omega)]
   · simp only [List.getD_eq_getElem?_getD]
     rw [List.getElem?_append_left hi]
 have last : (ents.push { key := k, val := v, born := c }).getD es.length default = { key := k, val := v, born := c } ∧ (es ++ [(k, c, x)]).getD es.length (undef, 0, default) = (k, c, x) := by
   refine ⟨?_, ?_⟩
   · rw [← h1]
     simp [Array.getD_eq_getD_getElem?]
   · simp [List.getD_eq_getElem?_getD]
 refine ⟨by simp [h1], fun i hi => ?_, fun i hi => ?_⟩
 · rw [List.length_append, List.length_singleton] at hi
   rcases Nat.lt_or_ge i es.length with hq | hq
   · rw [(key i hq).1, (key i hq).2]
     exact h2 i hq
   · obtain rfl : i = es.length := by omega
     rw [last.1, last.2]
     exact ⟨rfl, rfl⟩
 · rw [List.length_append, List.length_singleton] at hi
   rcases Nat.lt_or_ge i es.length with hq | hq
   · rw [(key i hq).1, (key i hq).2]
     exact h3 i hq
   · obtain rfl : i = es.length := by omega
     rw [last.1, last.2]
     exact hv
theorem RelG.writeM [Glb] (R : RelG E nt s h gs a w) (o b K : Nat) (hg : gs o = some (b, K)) {es es' : List (Value × Nat × AV)} {c c' : Nat} (ho : h o = .map es c) (ob : Obj) (hb : w.heap[b]? = some ob) (ents' : Array MapEntry)
   (hE : EntsOk w (Zf E.Z gs) h gs ents' es') : RelG E nt s (upd h o (.map es' c')) gs a { w with heap := w.heap.setIfInBounds b (.map ents' c') } := by
 have hlt : b < w.heap.size := (Array.getElem?_eq_some_iff.1 hb).1
 have e : upd gs o (gs o) = gs := funext fun i => by unfold upd; split <;> simp_all
 have := R.eff (w' := { w with heap := w.heap.setIfInBounds b (.map ents' c') }) o (.map es' c') (gs o) rfl rfl rfl (by simp) (fun k _ hk => by
     have : b ≠ k := fun q => hk K (by rw [← q]; exact hg)
     simp [Array.getElem?_setIfInBounds_ne this]) (.inl rfl) (fun ty cells e => by rw [ho] at e; cases e) (fun ty sz n f e => by rw [ho] at e; cases e) (fun hL hr => by
   rw [e] at hL hr ⊢
   have hE' := hE.later hL hr
   exact ⟨b, K, ents', hg, by simp [hlt], hE'.1, hE'.2.1, hE'.2.2⟩) (fun es c e => ⟨⟨_, _, rfl⟩, rfl⟩) (fun m s l t e => by rw [ho] at e; cases e)
 rw [e] at this
 exact this
theorem ba_beq {a b : ByteArray} (h : (a == b) = true) : a = b := by
 obtain ⟨x⟩ := a
 obtain ⟨y⟩ := b
 have h : (x == y) = true := h
 rw [eq_of_beq h]
theorem keyEq_eq {kd : TypeDesc} {k k' : Value} (h : keyOk kd k = true) (h' : keyOk kd k' = true) (e : keyEq k k' = true) : k = k' := by
 cases kd <;> cases k <;> simp [keyOk] at h <;> cases k' <;> simp [keyOk] at h' <;> first
   | (simp_all [keyEq]; done)
   | (simp only [keyEq] at e; rw [ba_beq e])
theorem ents_first {Z : Nat → Prop} {kd : TypeDesc} {k : Value} {ents : Array MapEntry} {es : List (Value × Nat × AV)} (H : EntsOk w Z h gs ents es) (hk : keyOk kd k = true) (hall : (es.all fun e => keyOk kd e.1) = true) :
   (∃ j e, ∃ hj : j < es.length, ents.toList[j]? = some e ∧ k = e.key ∧ Instr.findNow kd k ents.toList 0 = some (some (j, e.val)) ∧ (∀ v c, putL k v c es = (es.set j (k, es[j].2.1, v), c)) ∧ (∀ c, bornL k c es = es[j].2.1) ∧ getE k (es.map fun e => (e.1, e.2.2)) = some es[j].2.2) ∨
   (Instr.findNow kd k ents.toList 0 = some none ∧ (∀ v c, putL k v c es = (es ++ [(k, c, v)], c + 1)) ∧ (∀ c, bornL k c es = c) ∧ getE k (es.map fun e => (e.1, e.2.2)) = none) := by
 have hks : ∀ e ∈ ents.toList, keyOk kd e.key = true := fun e he => by
   obtain ⟨i, hi, rfl⟩ := List.getElem_of_mem he
   have hi' : i < es.length := by rw [← H.1]; simpa using hi
   rw [(H.get hi' (List.getElem?_eq_getElem hi)).1]
   exact List.all_eq_true.1 hall _ (List.getElem_mem _)
 have hsz : ents.toList.length = es.length := by simpa using H.1
 rcases findNow_first hk ents.toList 0 hks with ⟨j, e, h1, h2, h3, h4⟩ | ⟨h1, h2⟩
 · have hj : j < es.length := by
     have := (List.getElem?_eq_some_iff.1 h1).1
     omega
   have hge := H.get hj h1
   have hq : keyEq k es[j].1 = true := by rw [← hge.1]; exact h2
   have hn : ∀ j' (h : j' < j), keyEq k (es[j']'(by omega)).1 = false := fun j' hj' => by
     have hlt : j' < ents.toList.length := by omega
     have := h3 j' ents.toList[j'] hj' (List.getElem?_eq_getElem hlt)
     rw [(H.get (by omega) (List.getElem?_eq_getElem hlt)).1] at this
     exact this
   refine .inl ⟨j, e, hj, h1, keyEq_eq hk (hks e (List.mem_of_getElem? h1)) h2, by simpa using h4, fun v c => (putL_at es j hj hq hn).1, fun c => (putL_at (v := default) es j hj hq hn).2, ?_⟩
   have := getE_at (k := k) (es.map fun e => (e.1, e.2.2)) j (by simpa using hj) (by simpa using hq) fun j' h' => by simpa using hn j' h'
   simpa using this
 · have hn : ∀ j (h : j < es.length), keyEq k es[j].1 = false := fun j hj => by
     have hlt : j < ents.toList.length := by omega
     have := h1 _ (List.getElem_mem hlt)
     rw [(H.get hj (List.getElem?_eq_getElem hlt)).1] at this
     exact this
   refine .inr ⟨h2, fun v c => (putL_none es hn).1, fun c => (putL_none (v := default) es hn).2, getE_none _ fun j hj => ?_⟩
   have := hn j (by simpa using hj)
   simpa using this
theorem aop2_mapUpdate [Glb] (R : RelG E nt s h gs a w) {ty : TypeId} {pos : String} {af : Array Edge} {gd : Option (Nat × Bool)} {d : Option Tmp} {o : Nat} {x' : AObj} {x : AV} (t : TypeId) (m k v : Operand)
   (hx : aop2 P (.mapUpdate t m k v) (ev s) h d o x' x) :
   d = none ∧ ∃ w', (execOp a.eval ⟨d, .mapUpdate t m k v, ty, pos, af, gd⟩).run P w = .ok .skip w' ∧ Rel E nt s (upd h o x') a w' := by
 obtain ⟨rfl, kt, et, kd, kk, es, c, ht, hkd, hk, ek, wm, wk, wv, em, ho, hall, rfl⟩ := hx
 refine ⟨rfl, ?_⟩
 have c1 := (ev_ok R m).strip wm
 have c2 := (ev_ok R k).raw_of wk ek
 have c3 := (ev_ok R v).strip wv
 rw [em] at c1
 generalize hvm : a.eval m = vm at c1
 cases c1 with
 | mref _ b K es0 clock0 ho0 hg =>
 have hob := R.objs o
 rw [ho] at hob
 obtain ⟨b', K', ents, q1, q2, q3, q4, q5⟩ := hob
 rw [hg] at q1
 simp only [Option.some.injEq, Prod.mk.injEq] at q1
 obtain ⟨rfl, rfl⟩ := q1
 have H : EntsOk w (Zf E.Z gs) h gs ents es := ⟨q3, q4, q5⟩
 have hck := MapKept.run_checkKey (P := P) (w := w) hkd (keyOk_is hk) false 9999
 rcases ents_first H hk hall with ⟨j, e, hj, h1, h2, h3, h4, -, -⟩ | ⟨h3, h4, -, -⟩
 · rw [h4]
   have hje : ents[j]? = some e := by simpa using h1
   refine ⟨_, ?_, gs, R.writeM o b K hg ho _ q2 (ents.modify j fun e' => { e' with key := kk, val := a.eval v }) (H.set hj h1 c3 _ rfl)⟩
   simp [execOp, hvm, c2, Instr.mapUpdate, run_underlying ht, MapKept.run_getObj_map q2, hck, MapKept.run_findKey hkd h3, hje, ← h2, MapKept.run_keyThatStays (keyOk_is hk), MapKept.run_setObj_map _ q2, Result.andThen]
 · rw [h4]
   refine ⟨_, ?_, gs, R.writeM o b K hg ho _ q2 (ents.push { key := kk, val := a.eval v, born := c }) (H.push c3)⟩
   simp [execOp, hvm, c2, Instr.mapUpdate, run_underlying ht, MapKept.run_getObj_map q2, hck, MapKept.run_findKey hkd h3, MapKept.run_setObj_map _ q2, Result.andThen]
theorem aop2_mapEntry [Glb] (R : RelG E nt s h gs a w) {ty : TypeId} {pos : String} {af : Array Edge} {gd : Option (Nat × Bool)} {d : Option Tmp} (hd : ∀ t, d = some t → t < nt) {o : Nat} {x' : AObj} {x : AV} (t : TypeId) (m k : Operand)
   (hx : aop2 P (.mapEntry t m k) (ev s) h d o x' x) :
   ∃ v w', (execOp a.eval ⟨d, .mapEntry t m k, ty, pos, af, gd⟩).run P w = .ok (.value v) w' ∧ Rel E nt (updO s d x) (upd h o x') (a.put d v) w' := by
 obtain ⟨kt, et, kd, kk, es, c, q, y, ht, hkd, hk, ek, wm, wk, em, ho, hall, hf, hy, rfl, rfl⟩ := hx
 have c1 := (ev_ok R m).strip wm
 have c2 := (ev_ok R k).raw_of wk ek
 rw [em] at c1
 generalize hvm : a.eval m = vm at c1
 cases c1 with
 | mref _ b K es0 clock0 ho0 hg =>
 have hob := R.objs o
 rw [ho] at hob
 obtain ⟨b', K', ents, q1, q2, q3, q4, q5⟩ := hob
 rw [hg] at q1
 simp only [Option.some.injEq, Prod.mk.injEq] at q1
 obtain ⟨rfl, rfl⟩ := q1
 have H : EntsOk w (Zf E.Z gs) h gs ents es := ⟨q3, q4, q5⟩
 have hck := MapKept.run_checkKey (P := P) (w := w) hkd (keyOk_is hk) false 9999
 have fin : ∀ {w' : World} {h' : AH} {v : Value} {n : Nat}, RelG E nt s h' gs a w' → RA w' (Zf E.Z gs) h' gs v q.1 → Rel E nt (updO s d (.c (.tup [y, .int n]))) h' (a.put d (.tuple #[v, .int .i64 n])) w' := fun R' hv =>
   ⟨gs, R'.putO hd (.c _ _ (.tup _ _ rfl fun i hi => by
     match i, hi with
     | 0, _ => exact hv.closed1_of hy
     | 1, _ => exact .raw _))⟩
 unfold foundA at hf
 rcases ents_first H hk hall with ⟨j, e, hj, h1, h2, h3, h4, h5, h6⟩ | ⟨h3, h4, h5, h6⟩
 · rw [h6] at hf
   subst hf
   have hge := H.get hj h1
   rw [h4, h5]
   have hje : ents[j]? = some e := by simpa using h1
   have R' := R.writeM (c' := c) o b K hg ho _ q2 (ents.modify j fun e' => { e' with key := kk }) (H.set hj h1 hge.2.2 _ rfl)
   have hv' := hge.2.2.later (w' := { w with heap := w.heap.setIfInBounds b (.map (ents.modify j fun e' => { e' with key := kk }) c) }) (Z' := Zf E.Z gs) (h' := upd h o (.map (es.set j (kk, es[j].2.1, es[j].2.2)) c)) (gs' := gs) ?_ ?_
   · refine ⟨_, _, ?_, fin R' hv'⟩
     rw [← hge.2.1]
     simp [execOp, hvm, c2, Instr.mapEntry, run_underlying ht, MapKept.run_getObj_map q2, hck, MapKept.run_findKey hkd h3, hje, ← h2, MapKept.run_keyThatStays (keyOk_is hk), MapKept.run_setObj_map _ q2, Result.andThen, goInt]
   · refine ⟨by simp, fun b' hb' _ => ?_, fun _ hz _ => hz⟩
     have : b ≠ b' := fun e => hb' (.inr ⟨o, K, e ▸ hg⟩)
     simp [Array.getElem?_setIfInBounds_ne this]
   · refine ⟨fun o' ty cells e => ?_, fun o' ty sz n f e => ?_, fun o' es c e => ?_, fun o' m s l t e => ?_⟩
     · have : o' ≠ o := fun q => by rw [q, ho] at e; cases e
       rw [upd_ne _ _ _ _ this]
       exact ⟨⟨_, _, e⟩, rfl⟩
     · have : o' ≠ o := fun q => by rw [q, ho] at e; cases e
       rw [upd_ne _ _ _ _ this]
       exact ⟨_, _, e, Nat.le_refl _, fun _ => rfl⟩
     · by_cases hq : o' = o
       · rw [hq, upd_same]; exact ⟨⟨_, _, rfl⟩, rfl⟩
       · rw [upd_ne _ _ _ _ hq]; exact ⟨⟨_, _, e⟩, rfl⟩
     · have : o' ≠ o := fun q => by rw [q, ho] at e; cases e
       rw [upd_ne _ _ _ _ this]
       exact ⟨⟨_, _, _, _, e⟩, rfl⟩
 · rw [h6] at hf
   obtain ⟨hb, i, jt, z, e1, e2, e3, e4⟩ := hf
   have hz : ∀ {w : World} {Z : Nat → Prop} {h : AH} {gs : Gs}, RA w Z h gs z q.1 := by
     intro w Z h gs
     rcases e4 with e4 | ⟨u, rfl, sz, f, e4⟩ | ⟨rfl, e4⟩
     · rw [e4]; exact .c _ _ (.raw _)
     · rw [e4]; exact .c _ _ (.nul _ _ _ _)
     · rw [e4]; exact .emp _
   rw [h4, h5]
   refine ⟨_, _, ?_, fin (R.writeM (c' := c + 1) o b K hg ho _ q2 (ents.push { key := kk, val := z, born := c }) (H.push hz)) hz⟩
   simp [execOp, hvm, c2, Instr.mapEntry, run_underlying ht, MapKept.run_getObj_map q2, hck, MapKept.run_findKey hkd h3, MapKept.run_setObj_map _ q2, Result.andThen, zeroValue, typeInfo, e2, e3, goInt]
theorem aop2_entryStore [Glb] (R : RelG E nt s h gs a w) {ty : TypeId} {pos : String} {af : Array Edge} {gd : Option (Nat × Bool)} {d : Option Tmp} {o : Nat} {x' : AObj} {x : AV} (t : TypeId) (m b v : Operand)
   (hx : aop2 P (.entryStore t m b v) (ev s) h d o x' x) :
   d = none ∧ ∃ w', (execOp a.eval ⟨d, .entryStore t m b v, ty, pos, af, gd⟩).run P w = .ok .skip w' ∧ Rel E nt s (upd h o x') a w' := by
 obtain ⟨rfl, k, n, es, c, eb, wm, wb, wv, em, ho, hany, rfl⟩ := hx
 refine ⟨rfl, ?_⟩
 have c1 := (ev_ok R m).strip wm
 have c2 := (ev_ok R b).raw_of wb eb
 have c3 := (ev_ok R v).strip wv
 rw [em] at c1
 generalize hvm : a.eval m = vm at c1
 cases c1 with
 | mref _ bb K es0 clock0 ho0 hg =>
 have hob := R.objs o
 rw [ho] at hob
 obtain ⟨b', K', ents, q1, q2, q3, q4, q5⟩ := hob
 rw [hg] at q1
 simp only [Option.some.injEq, Prod.mk.injEq] at q1
 obtain ⟨rfl, rfl⟩ := q1
 have H : EntsOk w (Zf E.Z gs) h gs ents es := ⟨q3, q4, q5⟩
 have hsz : ents.size = es.length := q3
 have hborn : ∀ i (hi : i < es.length), (ents[i]'(by omega)).born = es[i].2.1 := fun i hi => (H.get hi (by simp [List.getElem?_eq_getElem, hsz, hi])).2.1
 cases hfi : ents.findIdx? (fun e => (e.born : Int) == (n : Int)) with
 | none =>
   exfalso
   rw [Array.findIdx?_eq_none_iff] at hfi
   obtain ⟨e, he, hen⟩ := List.any_eq_true.1 hany
   obtain ⟨i, hi, rfl⟩ := List.getElem_of_mem he
   have := hfi (ents[i]'(by omega)) (Array.getElem_mem _)
   rw [hborn i hi] at this
   simp at this hen
   omega
 | some j =>
   rw [Array.findIdx?_eq_some_iff_getElem] at hfi
   obtain ⟨hj, hj1, hj2⟩ := hfi
   have hj' : j < es.length := by omega
   have hq : es[j].2.1 = n := by rw [← hborn j hj']; have := eq_of_beq hj1; omega
   have hs := setB_at (v := (ev s v).strip) es j hj' hq fun j' h' => by
     have := hj2 j' h'
     rw [hborn j' (by omega)] at this
     exact fun e => this (by simp [e])
   rw [hs]
   have he : ents.toList[j]? = some ents[j] := by simp [hj]
   have hE : EntsOk w (Zf E.Z gs) h gs (ents.modify j fun e => { e with val := a.eval v }) (es.set j (es[j].1, n, (ev s v).strip)) := by
     have := H.set hj' he c3 (k := es[j].1) (fun e => { e with val := a.eval v }) (by rw [← (H.get hj' he).1])
     rw [hq] at this
     exact this
   refine ⟨_, ?_, gs, R.writeM (c' := c) o bb K hg ho _ q2 _ hE⟩
   have hfi : ents.findIdx? (fun e => (e.born : Int) == (n : Int)) = some j := by
     rw [Array.findIdx?_eq_some_iff_getElem]
     exact ⟨hj, hj1, hj2⟩
   simp [execOp, hvm, c2, Instr.entryStore, MapKept.run_getObj_map q2, asInt, asIntOf, hfi, MapKept.run_setObj_map _ q2, Result.andThen]
theorem getD_splice {cur : Array Value} {off : Nat} {vs : List Value} (hl : off + vs.length ≤ cur.size) (t : Nat) :
   (cur.toList.take off ++ vs ++ cur.toList.drop (off + vs.length)).toArray.getD t undef = if off ≤ t ∧ t < off + vs.length then vs.getD (t - off) undef else cur.getD t undef := by
 simp only [Array.getD_eq_getD_getElem?, List.getD_eq_getElem?_getD, List.getElem?_toArray]
 have hc : ∀ j : Nat, cur[j]? = cur.toList[j]? := fun j => by simp
 by_cases h1 : t < off
 · rw [if_neg (by omega), List.append_assoc, List.getElem?_append_left (by simp; omega), List.getElem?_take, if_pos h1, hc]
 · by_cases h2 : t < off + vs.length
   · rw [if_pos (by omega), List.append_assoc, List.getElem?_append_right (by simp; omega), List.getElem?_append_left (by simp; omega)]
     simp only [List.length_take, Array.length_toList]
     rw [Nat.min_eq_left (by omega)]
   · rw [if_neg (by omega), List.getElem?_append_right (by simp; omega), List.getElem?_drop, hc]
     congr 2
     simp
     omega
theorem size_splice {cur : Array Value} {off : Nat} {vs : List Value} (hl : off + vs.length ≤ cur.size) : (cur.toList.take off ++ vs ++ cur.toList.drop (off + vs.length)).toArray.size = cur.size := by
 simp
 omega
theorem getD_toList {c : Array Value} (i : Nat) : c.toList.getD i undef = c.getD i undef := by simp [List.getD_eq_getElem?_getD, Array.getD_eq_getD_getElem?]
theorem RelG.write [Glb] (R : RelG E nt s h gs a w) (o b K : Nat) (hg : gs o = some (b, K)) (cur cur' : Array Value) (ty : TypeId) (hcur : w.heap[b]? = some (.cells cur ty (0, 0))) (x' : AObj)
   (hbox : ∀ ty cells, h o = .box ty cells → ∃ ty' cells', x' = .box ty' cells')
   (hrow : ∀ ty sz n f, h o = .row ty sz n f → ∃ n' f', x' = .row ty sz n' f' ∧ n ≤ n')
   (hx : Later w (w.setRow b cur') (Zf E.Z gs) (Zf E.Z gs) → Refs h gs (upd h o x') gs → RObj (w.setRow b cur') (Zf E.Z gs) (upd h o x') gs o x')
   (hmap : ∀ es c, h o = .map es c → ∃ es' c', x' = .map es' c' := by intros; simp_all)
   (hiter : ∀ m s l t, h o = .iter m s l t → ∃ m' s' l' t', x' = .iter m' s' l' t' := by intros; simp_all) :
   RelG E nt s (upd h o x') gs a (w.setRow b cur') := by
 have e : upd gs o (gs o) = gs := funext fun i => by unfold upd; split <;> simp_all
 have := R.eff (w' := w.setRow b cur') o x' (gs o) rfl rfl rfl (by simp) (fun k _ hk => setRow_other w b k _ fun e => hk K (by rw [e]; exact hg)) (.inl rfl) (fun ty cells e => ⟨hbox ty cells e, rfl⟩) (fun ty sz n f e => by
   obtain ⟨n', f', e1, e2⟩ := hrow ty sz n f e
   exact ⟨n', f', e1, e2, fun _ => rfl⟩) (by rw [e]; exact hx) (fun es c e => ⟨hmap es c e, rfl⟩) (fun m s l t e => ⟨hiter m s l t e, rfl⟩)
 rw [e] at this
 exact this
theorem length_setLC {cs xs : List CV} {off : Nat} (hl : off + xs.length ≤ cs.length) : (setLC cs off xs).length = cs.length := by
 unfold setLC
 simp
 omega
theorem getD_setLC {cs xs : List CV} {off t : Nat} (hl : off + xs.length ≤ cs.length) : (setLC cs off xs).getD t .any = if off ≤ t ∧ t < off + xs.length then xs.getD (t - off) .any else cs.getD t .any := by
 unfold setLC
 simp only [List.getD_eq_getElem?_getD]
 by_cases h1 : t < off
 · rw [if_neg (by omega), List.append_assoc, List.getElem?_append_left (by simp; omega), List.getElem?_take, if_pos h1]
 · by_cases h2 : t < off + xs.length
   · rw [if_pos (by omega), List.append_assoc, List.getElem?_append_right (by simp; omega), List.getElem?_append_left (by simp; omega)]
     simp only [List.length_take]
     rw [Nat.min_eq_left (by omega)]
   · rw [if_neg (by omega), List.getElem?_append_right (by simp; omega), List.getElem?_drop]
     congr 2
     simp
     omega
theorem aop2_store [Glb] (R : RelG E nt s h gs a w) {ty : TypeId} {pos : String} {af : Array Edge} {gd : Option (Nat × Bool)} {d : Option Tmp} {o : Nat} {x' : AObj} {x : AV} (t : TypeId) (y z : Operand)
   (hx : aop2 P (.store t y z) (ev s) h d o x' x) :
   d = none ∧ ∃ w', (execOp a.eval ⟨d, .store t y z, ty, pos, af, gd⟩).run P w = .ok .skip w' ∧ Rel E nt s (upd h o x') a w' := by
 obtain ⟨rfl, i, e1, hwy, hwz, hm⟩ := hx
 refine ⟨rfl, ?_⟩
 have c1 := (ev_ok R y).strip hwy
 have c2 := (ev_ok R z).strip hwz
 generalize hvy : a.eval y = vy at c1
 generalize hvz : a.eval z = vz at c2
 generalize (ev s y).strip = xy at c1 hm
 generalize (ev s z).strip = xz at c2 hm
 obtain ⟨j, dd, t1, t2, t3, -⟩ := tinfo_some e1
 have hs : (sizeOf t).run P w = .ok i.size w := by simp [sizeOf, typeInfo, t1, t3]
 have hrun : ∀ (b off : Nat) (cur : Array Value) (ty' : TypeId), vy = .pointer (some ⟨b, off, none⟩) → w.heap[b]? = some (.cells cur ty' (0, 0)) → vz.cells.size = i.size → off + i.size ≤ cur.size → (∀ v ∈ vz.cells.toList, v.oneCell' = true) →
     (execOp a.eval ⟨none, .store t y z, ty, pos, af, gd⟩).run P w = .ok .skip (w.setRow b (cur.toList.take off ++ vz.cells.toList ++ cur.toList.drop (off + vz.cells.toList.length)).toArray) := by
   intro b off cur ty' hv hcur hsz hfit hone
   subst hv
   have hst := run_storeCells_at P b off ty' vz.cells.toList 0 cur w hcur (by rw [Array.length_toList]; omega) hone
   simp only [Nat.add_zero] at hst
   simp only [execOp, hvy, hvz, Instr.storeAt, Instr.sureAddr, Sem.run_bind, Sem.run_pure, Result.andThen_ok, storeVar, hs]
   rw [if_neg (by omega)]
   simp only [Sem.run_bind, Sem.run_pure, Result.andThen_ok, hst]
 cases c1 with
 | ptr o' off b K ty' cells' ho hg =>
   obtain ⟨rfl, ty2, cells, l, e2, e3, e4, e5, rfl⟩ := hm
   have hob := R.objs o
   rw [e2] at hob
   obtain ⟨b', K', cur, g1, g2, g3, g4, g5⟩ := hob
   rw [hg] at g1
   simp only [Option.some.injEq, Prod.mk.injEq] at g1
   obtain ⟨rfl, rfl⟩ := g1
   obtain ⟨l1, l2, l3⟩ := c2.cells_of e3
   have hone : ∀ v ∈ vz.cells.toList, v.oneCell' = true := by
     intro v hv
     obtain ⟨k, hk, rfl⟩ := List.getElem_of_mem hv
     have hk' : k < vz.cells.size := by simpa using hk
     have := l2 k (by omega)
     rw [← getD_toList, getD_lt hk] at this
     exact this
   have hlen : vz.cells.toList.length = l.length := by rw [Array.length_toList]; exact l1
   refine ⟨_, hrun b off cur ty2 rfl g2 (by omega) (by omega) hone, gs, R.write o b K hg cur _ ty2 g2 _ (fun _ _ _ => ⟨_, _, rfl⟩) (fun ty sz n f e => by rw [e2] at e; cases e) fun hL hr => ?_⟩
   have hsl : (setL cells off l).length = cells.length := length_setL (by omega)
   refine ⟨b, K, _, hg, setRow_heap w b cur _ ty2 _ g2, by rw [size_splice (by omega), hsl, g3], fun k hk => ?_, fun k hk => ?_⟩ <;> rw [hsl] at hk <;> rw [getD_splice (by omega)]
   · split
     · rw [getD_toList]; exact l2 _ (by omega)
     · exact g4 k hk
   · rw [getD_setL (by omega)]
     by_cases h1 : off ≤ k ∧ k < off + l.length
     · rw [if_pos (by omega), if_pos h1, getD_toList]; exact (l3 _ (by omega)).later hL hr
     · rw [if_neg (by omega), if_neg h1]; exact (g5 k hk).later hL hr
 | rp ad o' L k off ty' sz n f ho hL hv =>
   obtain ⟨rfl, ty2, sz2, n2, f2, l, e2, rfl, hk, e3, e4, e5, rfl⟩ := hm
   rw [ho] at e2
   injection e2 with e6 e7 e8 e9
   subst e6; subst e7; subst e8; subst e9
   obtain ⟨b, K, g1, rfl⟩ := hv rfl
   have hob := R.objs o
   rw [ho] at hob
   rcases hob with q1 | ⟨b', K', cur, q1, q2, q3, q4, q5, q6, q7, q8⟩
   · rw [g1] at q1; cases q1
   rw [g1] at q1
   simp only [Option.some.injEq, Prod.mk.injEq] at q1
   obtain ⟨rfl, rfl⟩ := q1
   obtain ⟨l1, l2, l3⟩ := c2.closedCells_of e3
   have hone : ∀ v ∈ vz.cells.toList, v.oneCell' = true := by
     intro v hv
     obtain ⟨k, hk, rfl⟩ := List.getElem_of_mem hv
     have hk' : k < vz.cells.size := by simpa using hk
     have := l2 k (by omega)
     rw [← getD_toList, getD_lt hk] at this
     exact this
   have hlen : vz.cells.toList.length = l.length := by rw [Array.length_toList]; exact l1
   have hkn : k * sz + sz ≤ n * sz := by rw [← Nat.succ_mul]; exact Nat.mul_le_mul_right _ hk
   have hn : n * sz ≤ K * sz := Nat.mul_le_mul_right _ q4
   have hfk := q6 k hk
   refine ⟨_, hrun b (k * sz + off) cur ty' rfl q2 (by omega) (by omega) hone, gs, R.write o b K g1 cur _ ty' q2 _ (fun ty cells e => by rw [ho] at e; cases e) (fun ty sz2 n2 f2 e => by rw [ho] at e; injection e with e1 e2 e3 e4; subst e1; subst e2; subst e3; exact ⟨_, _, rfl, Nat.le_refl _⟩) fun hL hr => ?_⟩
   refine .inr ⟨b, K, _, g1, setRow_heap w b cur _ ty' _ q2, by rw [size_splice (by omega), q3], q4, q5, fun q hq => ?_, fun q hq => ?_, fun q r hq hr' => ?_⟩
   · unfold upd
     split
     · rename_i hqk
       rw [length_setLC (by omega)]
       exact hfk
     · exact q6 q hq
   · rw [getD_splice (by omega)]
     split
     · rw [getD_toList]; exact l2 _ (by omega)
     · exact q7 q hq
   · rw [getD_splice (by omega)]
     by_cases hqk : q = k
     · subst hqk
       rw [upd_same, getD_setLC (by omega)]
       by_cases h1 : off ≤ r ∧ r < off + l.length
       · rw [if_pos (by omega), if_pos h1, getD_toList, show q * sz + r - (q * sz + off) = r - off by omega]
         exact (l3 _ (by omega)).later hL
       · rw [if_neg (by omega), if_neg h1]
         exact (q8 q r hq hr').later hL
     · rw [upd_ne _ _ _ _ hqk]
       rw [if_neg]
       · exact (q8 q r hq hr').later hL
       · intro ⟨h1, h2⟩
         rcases Nat.lt_or_gt_of_ne hqk with h3 | h3
         · have : q * sz + sz ≤ k * sz := by rw [← Nat.succ_mul]; exact Nat.mul_le_mul_right _ h3
           omega
         · have : k * sz + sz ≤ q * sz := by rw [← Nat.succ_mul]; exact Nat.mul_le_mul_right _ h3
           omega
 | _ => exact hm.elim
end
end Go.Am
namespace Go.Am
open Go.RowKit
section
variable {E : Env} {w : World} {nt : Nat} {s : Nat → AV} {h : AH} {gs : Gs} {a : Act} {P : Program}
theorem getD_made {z : Array Value} {n i j : Nat} (hz : 0 < z.size) (hj : j < z.size) (hn : i * z.size + j < n) : (madeCells z n).getD (i * z.size + j) undef = z.getD j undef := by
 have h1 : i * z.size + j < (madeCells z n).size := by rw [size_madeCells]; exact hn
 simp only [Array.getD, h1, hj, dite_true]
 simp only [madeCells, Array.getInternal_eq_getElem, Array.getElem_map, Array.getElem_range]
 rw [Nat.mul_comm, Nat.mul_add_mod, Nat.mod_eq_of_lt hj]
 simp [hj]
theorem aop3_make [Glb] (R : RelG E nt s h gs a w) {ty : TypeId} {pos : String} {af : Array Edge} {gd : Option (Nat × Bool)} {d o : Nat} (hd : d < nt) (ho : h o = .gone) {x' : AObj} {x : AV} (t : TypeId) (y z : Operand)
   (hx : aop3 P (.makeSlice t y z) (ev s) o x' x) :
   ∃ v w', (execOp a.eval ⟨some d, .makeSlice t y z, ty, pos, af, gd⟩).run P w = .ok (.value v) w' ∧ Rel E nt (upd s d x) (upd h o x') (a.put (some d) v) w' := by
 obtain ⟨i, j, k1, k2, n, e1, e2, e3, e4, e40, hw1, hw2, e5, e6, e7, e8, e9, rfl, rfl⟩ := hx
 have c1 := (ev_ok R y).raw_of hw1 e5
 have c2 := (ev_ok R z).raw_of hw2 e6
 obtain ⟨i', dd, t1, t2, -, -, -, t6, t7, -, -⟩ := tinfo_some e1
 obtain ⟨j', dj, u1, u2, u3, u4, -, -, -, -, u9⟩ := tinfo_some e3
 cases dd with
 | slice el =>
   simp only at t6
   rw [t6] at u1
   cases hzz : j'.zero with
   | none =>
     rw [hzz] at u9
     simp only at u9
     rw [u9] at e4
     simp only [List.length_nil] at e4
     omega
   | some zv =>
     rw [hzz] at u9
     simp only at u9
     obtain ⟨z1, z2⟩ := tinfo_zero (by rw [← t6]; exact e3) u1 hzz
     rw [← u3] at z1
     have hzs : zv.cells.size = j.size := z1
     have hr := run_make (P := P) w t el j' zv t2 u1 hzz k1 k2 n n e7 (Int.le_refl _) (by rw [← u4]; exact e9) e8
     rw [← u3] at hr
     obtain ⟨m, rfl⟩ := Int.eq_ofNat_of_zero_le e7
     simp only [Int.toNat_natCast] at hr ⊢
     have R' := R.new o ho (.row i.elem j.size m (fun _ => j.zero.map fun v => (constAV1 v).closed1.getD .any)) m el (madeCells zv.cells (m * j.size)) fun hL _ => by
       have hpos : 0 < zv.cells.size := by omega
       refine .inr ⟨w.heap.size, m, _, upd_same _ _ _, by rw [t6]; exact heap_alloc_new w _, size_madeCells _ _, Nat.le_refl _, by simp only [maxLen]; omega, fun q _ => by simpa using e4, fun q hq => ?_, fun q r hq hr => ?_⟩
       · have h3 := getD_made (z := zv.cells) (n := m * j.size) (i := q / j.size) (j := q % j.size) hpos (by rw [hzs]; exact Nat.mod_lt _ e40) (by rw [hzs, Nat.mul_comm, Nat.div_add_mod]; exact hq)
         rw [hzs, Nat.mul_comm (q / j.size), Nat.div_add_mod] at h3
         rw [h3]
         have hlt : q % j.size < zv.cells.toList.length := by rw [Array.length_toList, hzs]; exact Nat.mod_lt _ e40
         rw [← getD_toList, getD_lt hlt]
         exact z2 _ (List.getElem_mem hlt)
       · have hqr : q * j.size + r < m * j.size := by
           have : q * j.size + j.size ≤ m * j.size := by rw [← Nat.succ_mul]; exact Nat.mul_le_mul_right _ hq
           omega
         have h3 := getD_made (z := zv.cells) (n := m * j.size) (i := q) (j := r) hpos (by omega) (by rw [hzs]; exact hqr)
         rw [hzs] at h3
         rw [h3]
         have hlt : r < zv.cells.toList.length := by rw [Array.length_toList, hzs]; exact hr
         rw [← getD_toList, getD_lt hlt, u9, getD_lt (by simpa using hlt), List.getElem_map]
         have hk := constAV1_ok (w.alloc (.cells (madeCells zv.cells (m * j.size)) el)) (Zf E.Z (upd gs o (some (w.heap.size, m)))) h gs zv.cells.toList[r]
         generalize zv.cells.toList[r] = u at hk
         cases hc : (constAV1 u).closed1 with
         | none => exact .any _
         | some q => exact hk.closed1_of hc
     refine ⟨_, _, ?_, _, R'.put hd (.own (some ⟨w.heap.size, 0, none⟩) m m o m i.elem j.size m _ (upd_same _ _ _) (Nat.le_refl _) fun _ => .inl ⟨w.heap.size, m, upd_same _ _ _, rfl, rfl, rfl⟩)⟩
     simp only [execOp, c1, c2, Sem.run_bind, hr, Result.andThen_ok, Sem.run_pure]
 | _ => simp_all
theorem src_ok [Glb] (R : RelG E nt s h gs a w) {v : Value} {x : AV} {sz m : Nat} {g : Nat → List CV} (hx : RA w (Zf E.Z gs) h gs v x) (hs : srcOf h x = some (sz, m, g)) :
   ∃ (A : Option Addr) (c : Nat), v = .slice A m c ∧ (0 < m → ∃ (ad : Addr) (u : Nat → Value), A = some ad ∧ (∀ j, j < m * sz → w.cell? (ad.add j) = some (u j)) ∧ (∀ j, j < m * sz → (u j).oneCell' = true) ∧
     (∀ i, i < m → (g i).length = sz) ∧ ∀ i j, i < m → j < sz → RC w (Zf E.Z gs) (u (i * sz + j)) ((g i).getD j .any)) := by
 cases hx with
 | c _ y hy =>
   cases y <;> simp only [srcOf, Option.some.injEq, Prod.mk.injEq, reduceCtorEq] at hs
   · obtain ⟨rfl, rfl, rfl⟩ := hs
     obtain ⟨A, c, rfl, hp⟩ := hy.im_inv
     refine ⟨A, c, rfl, fun h0 => ?_⟩
     obtain ⟨ad, u, rfl, _, _, _, hc, ho, hf, hh⟩ := hp h0
     exact ⟨ad, u, rfl, hc, ho, hf, hh⟩
   · obtain ⟨rfl, rfl, rfl⟩ := hs
     cases hy with
     | emp A => exact ⟨A, 0, rfl, fun h0 => by omega⟩
 | emp A =>
   simp only [srcOf, Option.some.injEq, Prod.mk.injEq] at hs
   obtain ⟨rfl, rfl, rfl⟩ := hs
   exact ⟨A, 0, rfl, fun h0 => by omega⟩
 | own A k c o L ty sz' n f ho hL hv =>
   simp only [srcOf, ho] at hs
   split at hs
   · rename_i hl
     simp only [Option.some.injEq, Prod.mk.injEq] at hs
     obtain ⟨rfl, rfl, rfl⟩ := hs
     have hob := R.objs o
     rw [ho] at hob
     rcases hv hl with ⟨b, K, g1, rfl, rfl, rfl⟩ | ⟨g1, rfl, rfl, rfl⟩
     · refine ⟨_, c, rfl, fun h0 => ?_⟩
       rcases hob with q1 | ⟨b', K', cur, q1, q2, q3, q4, q5, q6, q7, q8⟩
       · rw [g1] at q1; cases q1
       rw [g1] at q1
       simp only [Option.some.injEq, Prod.mk.injEq] at q1
       obtain ⟨rfl, rfl⟩ := q1
       have hn : k * sz' ≤ c * sz' := Nat.mul_le_mul_right _ q4
       exact ⟨_, fun j => cur.getD j undef, rfl, fun j hj => by rw [addr_lit, Nat.zero_add]; exact cell_of_heap q2 (by omega), q7, q6, q8⟩
     · exact ⟨A, 0, rfl, fun h0 => by omega⟩
   · cases hs
 | osub A k' c o L off k ty sz' n f ho hL hv =>
   simp only [srcOf, ho] at hs
   split at hs
   · rename_i hl
     simp only [Option.some.injEq, Prod.mk.injEq] at hs
     obtain ⟨rfl, rfl, rfl⟩ := hs
     have hob := R.objs o
     rw [ho] at hob
     obtain ⟨v1, rfl, v3, v4, _⟩ := hv hl
     refine ⟨A, c, rfl, fun h0 => ?_⟩
     obtain ⟨b, K, g1, rfl⟩ := v4 h0
     rcases hob with q1 | ⟨b', K', cur, q1, q2, q3, q4, q5, q6, q7, q8⟩
     · rw [g1] at q1; cases q1
     rw [g1] at q1
     simp only [Option.some.injEq, Prod.mk.injEq] at q1
     obtain ⟨rfl, rfl⟩ := q1
     have hn : n * sz' ≤ K * sz' := Nat.mul_le_mul_right _ q4
     have ho2 : off * sz' + k' * sz' ≤ n * sz' := by rw [← Nat.add_mul]; exact Nat.mul_le_mul_right _ v1
     refine ⟨_, fun j => cur.getD (off * sz' + j) undef, rfl, fun j hj => by rw [addr_lit]; exact cell_of_heap q2 (by omega), fun j hj => q7 _ (by omega), fun i hi => q6 _ (by omega), fun i j hi hj => ?_⟩
     have := q8 (off + i) j (by omega) hj
     rw [Nat.add_mul, Nat.add_assoc] at this
     exact this
   · cases hs
 | _ => simp [srcOf] at hs
theorem run_append_zero {t el ty : TypeId} {j : TypeInfo} (ht : P.underlying t = some (.slice el)) (hj : P.info? el = some j) (B A : Option Addr) (n K c : Nat) (hn : n ≤ K) :
   (Builtin.append_ #[t, t] ty #[.slice B n K, .slice A 0 c]).run P w = .ok (.slice B n K) w := by
 cases A <;> cases B <;> simp [Builtin.append_, run_underlying ht, sizeOf, typeInfo, hj, Builtin.lenOf, hn, Builtin.firstCells, loadCells, loadCellsFrom, storeCells]
theorem grown_block [Glb] (R : RelG E nt s h gs a w) (o n m K0 sz : Nat) (el : TypeId) (olds news : List Value) (zc : Array Value) (f g : Nat → List CV) (hzc : zc.size = sz) (hsz : 0 < sz)
   (hlo : olds.length = n * sz) (hln : news.length = m * sz) (hmax : n + m ≤ maxLen)
   (ho1 : ∀ j, j < n * sz → (olds.getD j undef).oneCell' = true) (ho2 : ∀ j, j < m * sz → (news.getD j undef).oneCell' = true)
   (hf1 : ∀ i, i < n → (f i).length = sz) (hf2 : ∀ i, i < m → (g i).length = sz)
   (hr1 : ∀ i j, i < n → j < sz → RC w (Zf E.Z gs) (olds.getD (i * sz + j) undef) ((f i).getD j .any)) (hr2 : ∀ i j, i < m → j < sz → RC w (Zf E.Z gs) (news.getD (i * sz + j) undef) ((g i).getD j .any))
   (hrow : ∀ ty sz' n' f', h o = .row ty sz' n' f' → ty = el ∧ sz' = sz ∧ n' = n ∧ 0 < m) (hbox : ∀ ty cells, h o ≠ .box ty cells) (hmp : ∀ es c, h o ≠ .map es c) (hit : ∀ m' s l t, h o ≠ .iter m' s l t) :
   let K := grownCap w (n + m) K0 el
   let w' := w.drew.alloc (.cells (olds.toArray ++ news.toArray ++ Builtin.zeroCells zc (K - (n + m))) el)
   let x' := AObj.row el sz (n + m) (fun q => if q < n then f q else g (q - n))
   RelG E nt s (upd h o x') (upd gs o (some (w.heap.size, K))) a w' := by
 intro K w' x'
 have hK : n + m ≤ K := grownCap_ge w (n + m) K0 el
 have hKm : K ≤ maxLen := grownCap_le_maxLen w (n + m) K0 el hmax
 refine R.eff o x' (some (w.heap.size, K)) rfl rfl rfl (by simp [w']) (fun k hk _ => Below.heap_alloc w.drew _ k hk) (.inr ⟨_, _, rfl, Nat.le_refl _, by simp [w']⟩) (fun ty cells e => absurd e (hbox ty cells)) (fun ty sz' n' f' e => ?_) (fun hL _ => ?_) (fun es c e => absurd e (hmp es c)) (fun m' s l t e => absurd e (hit m' s l t))
 · obtain ⟨rfl, rfl, rfl, hm⟩ := hrow ty sz' n' f' e
   exact ⟨n' + m, _, rfl, by omega, fun he => by omega⟩
 · have hsum : n * sz + m * sz = (n + m) * sz := (Nat.add_mul _ _ _).symm
   have hget : ∀ t, t < (n + m) * sz → (olds.toArray ++ news.toArray ++ Builtin.zeroCells zc (K - (n + m))).getD t undef = if t < n * sz then olds.getD t undef else news.getD (t - n * sz) undef := by
     intro t ht
     simp only [Array.getD_eq_getD_getElem?, List.getD_eq_getElem?_getD]
     rw [Array.getElem?_append_left (by simp; omega)]
     by_cases h1 : t < n * sz
     · rw [if_pos h1, Array.getElem?_append_left (by simp; omega)]
       simp
     · rw [if_neg h1, Array.getElem?_append_right (by simp; omega)]
       simp [hlo]
   refine .inr ⟨w.heap.size, K, _, upd_same _ _ _, heap_alloc_new w.drew _, ?_, hK, hKm, fun q hq => ?_, fun q hq => ?_, fun q r hq hr => ?_⟩
   · simp only [Array.size_append, List.size_toArray, size_zeroCells, hzc, hlo, hln]
     rw [← Nat.add_mul, ← Nat.add_mul]
     congr 1
     omega
   · show (if q < n then f q else g (q - n)).length = sz
     split
     · exact hf1 q ‹_›
     · exact hf2 _ (by omega)
   · rw [hget q hq]
     split
     · exact ho1 q ‹_›
     · exact ho2 _ (by omega)
   · have hqr : q * sz + r < (n + m) * sz := by
       have : q * sz + sz ≤ (n + m) * sz := by rw [← Nat.succ_mul]; exact Nat.mul_le_mul_right _ hq
       omega
     rw [hget _ hqr]
     by_cases h1 : q < n
     · have : q * sz + sz ≤ n * sz := by rw [← Nat.succ_mul]; exact Nat.mul_le_mul_right _ h1
       rw [if_pos (by omega)]
       show RC _ _ _ ((if q < n then f q else g (q - n)).getD r .any)
       rw [if_pos h1]
       exact (hr1 q r h1 hr).later hL
     · have h2 : n * sz ≤ q * sz := Nat.mul_le_mul_right _ (by omega)
       rw [if_neg (by omega)]
       show RC _ _ _ ((if q < n then f q else g (q - n)).getD r .any)
       rw [if_neg h1]
       have := hr2 (q - n) r (by omega) hr
       rw [Nat.sub_mul] at this
       rw [show q * sz + r - n * sz = q * sz - n * sz + r by omega]
       exact this.later hL
theorem range_map_getD {n j : Nat} {u : Nat → Value} (hj : j < n) : ((List.range n).map u).getD j undef = u j := by
 rw [getD_lt (by simpa using hj), List.getElem_map, List.getElem_range]
theorem range_map_cells {n : Nat} {u : Nat → Value} {ad : Addr} (hc : ∀ j, j < n → w.cell? (ad.add j) = some (u j)) : ∀ (j : Nat) (v : Value), ((List.range n).map u)[j]? = some v → w.cell? (ad.add j) = some v := by
 intro j v hv
 rw [List.getElem?_map, Option.map_eq_some_iff] at hv
 obtain ⟨k, h1, h2⟩ := hv
 have hk := List.getElem?_eq_some_iff.1 h1
 obtain ⟨h3, h4⟩ := hk
 rw [List.getElem_range] at h4
 subst h4
 subst h2
 exact hc j (by simpa using h3)
theorem range_map_one {n : Nat} {u : Nat → Value} (ho : ∀ j, j < n → (u j).oneCell' = true) : ∀ v ∈ (List.range n).map u, v.oneCell' = true := by
 intro v hv
 rw [List.mem_map] at hv
 obtain ⟨k, h1, rfl⟩ := hv
 exact ho k (by simpa using h1)
theorem RelG.same_row [Glb] (R : RelG E nt s h gs a w) (o : Nat) (ty : TypeId) (sz n : Nat) (f f' : Nat → List CV) (ho : h o = .row ty sz n f) (hf : ∀ i, i < n → f' i = f i) :
   RelG E nt s (upd h o (.row ty sz n f')) gs a w := by
 have e : upd gs o (gs o) = gs := funext fun i => by unfold upd; split <;> simp_all
 have := R.eff (w' := w) o (.row ty sz n f') (gs o) rfl rfl rfl (Nat.le_refl _) (fun _ _ _ => rfl) (.inl rfl) (fun ty cells e => by rw [ho] at e; cases e) (fun ty' sz' n' f'' e => by
   rw [ho] at e; injection e with e1 e2 e3 e4; subst e1; subst e2; subst e3; exact ⟨_, _, rfl, Nat.le_refl _, fun _ => rfl⟩) (fun hL hr => by
     have hob := R.objs o
     rw [ho] at hob
     rw [e] at hL hr ⊢
     rcases hob with q1 | ⟨b', K', cur, q1, q2, q3, q4, q5, q6, q7, q8⟩
     · exact .inl q1
     · exact .inr ⟨b', K', cur, q1, q2, q3, q4, q5, fun i hi => by rw [hf i hi]; exact q6 i hi, q7, fun i j hi hj => by rw [hf i hi]; exact (q8 i j hi hj).later hL⟩)
 rw [e] at this
 exact this
theorem aop2_append [Glb] (R : RelG E nt s h gs a w) {ty : TypeId} {pos : String} {af : Array Edge} {gd : Option (Nat × Bool)} {d : Option Tmp} (hd : ∀ t, d = some t → t < nt) {o : Nat} {x' : AObj} {x : AV} (args : Array Operand) (ats : Array TypeId)
   (hx : aop2 P (.call ⟨.builtin .append, args, ats⟩) (ev s) h d o x' x) :
   ∃ v w', (execOp a.eval ⟨d, .call ⟨.builtin .append, args, ats⟩, ty, pos, af, gd⟩).run P w = .ok (.value v) w' ∧ Rel E nt (updO s d x) (upd h o x') (a.put d v) w' := by
 obtain ⟨y, z, t, i, j, sz, m, g, rfl, rfl, e1, e2, e3, e4, e5, hwy, hwz, hsrc, hszm, hm⟩ := hx
 have c1 := (ev_ok R y).strip hwy
 have c2 := (ev_ok R z).strip hwz
 obtain ⟨A, c, hvz, hpos⟩ := src_ok R c2 hsrc
 generalize hvy : a.eval y = vy at c1
 generalize (ev s y).strip = xy at c1 hm
 obtain ⟨i', dd, t1, t2, -, -, -, t6, t7, -, -⟩ := tinfo_some e1
 obtain ⟨j', dj, u1, u2, u3, u4, -, -, -, -, u9⟩ := tinfo_some e3
 cases dd with
 | slice el =>
   simp only at t6
   rw [t6] at u1
   cases hzz : j'.zero with
   | none =>
     rw [hzz] at u9
     simp only at u9
     rw [u9] at e5
     simp only [List.length_nil] at e5
     omega
   | some zv =>
     obtain ⟨z1, z2⟩ := tinfo_zero (by rw [← t6]; exact e3) u1 hzz
     have hexec : ∀ v w', (Builtin.append_ #[t, t] ty #[vy, .slice A m c]).run P w = .ok v w' → (execOp a.eval ⟨d, .call ⟨.builtin .append, #[y, z], #[t, t]⟩, ty, pos, af, gd⟩).run P w = .ok (.value v) w' := by
       intro v w' hr
       simp [execOp, resolve, invoke, builtin, hvy, hvz, hr]
     cases c1 with
     | own B k cc o' L ty' sz' n f ho hL hv =>
       obtain ⟨rfl, ty2, n2, f2, e6, e7, e8, e9, e10, rfl, rfl⟩ := hm
       rw [ho] at e6
       injection e6 with f1 f2' f3 f4
       subst f1; subst f2'; subst f3; subst f4
       have hob := R.objs o
       rw [ho] at hob
       have hown : ∀ (gs' : Gs) (B' : Option Addr) (k' K : Nat) (h' : AH) (F : Nat → List CV) (w' : World) (Z' : Nat → Prop), h' o = .row ty' j.size (n + m) F → (∃ b, gs' o = some (b, K) ∧ B' = some ⟨b, 0, none⟩ ∧ k' = n + m) ∨ (gs' o = none ∧ k' = 0 ∧ K = 0 ∧ n + m = 0) →
           RA w' Z' h' gs' (.slice B' k' K) (.own o (n + m)) := by
         intro gs' B' k' K h' F w' Z' hh' hor
         refine .own B' k' K o (n + m) ty' j.size (n + m) F hh' (Nat.le_refl _) fun _ => ?_
         rcases hor with ⟨b, q1, q2, q3⟩ | ⟨q1, q2, q3, q4⟩
         · exact .inl ⟨b, K, q1, q2, q3, rfl⟩
         · exact .inr ⟨q1, q2, q3, q4⟩
       rcases Nat.eq_zero_or_pos m with h0 | h0
       · -- nothing is appended
         subst h0
         have hkk : k ≤ cc ∧ ((∃ b K, gs o = some (b, K) ∧ B = some ⟨b, 0, none⟩ ∧ k = n ∧ cc = K) ∨ (gs o = none ∧ k = 0 ∧ cc = 0 ∧ n = 0)) := by
           rcases hv e8 with ⟨b, K, q1, q2, q3, q4⟩ | ⟨q1, q2, q3, q4⟩
           · refine ⟨?_, .inl ⟨b, K, q1, q2, q3, q4⟩⟩
             rcases hob with r1 | ⟨b', K', cur, r1, r2, r3, r4, _⟩
             · rw [q1] at r1; cases r1
             · rw [q1] at r1
               simp only [Option.some.injEq, Prod.mk.injEq] at r1
               omega
           · exact ⟨by omega, .inr ⟨q1, q2, q3, q4⟩⟩
         refine ⟨_, w, hexec _ _ (run_append_zero t2 u1 B A k cc c hkk.1), gs, ?_⟩
         have R' := R.same_row o ty' j.size n f (fun q => if q < n then f q else g (q - n)) ho (fun q hq => if_pos hq)
         refine R'.putO hd (hown gs B k cc _ _ _ _ (upd_same _ _ _) ?_)
         rcases hkk.2 with ⟨b, K, q1, q2, q3, q4⟩ | ⟨q1, q2, q3, q4⟩
         · exact .inl ⟨b, by rw [q4]; exact q1, q2, by omega⟩
         · exact .inr ⟨q1, q2, q3, q4⟩
       · obtain ⟨ad, u, rfl, s1, s2, s3, s4⟩ := hpos h0
         have hsz : sz = j.size := hszm.resolve_left (by omega)
         subst hsz
         have hn1 : ((List.range (m * j.size)).map u).length = m * j'.size := by simp [u3]
         rcases hv e8 with ⟨b, K, q1, rfl, rfl, rfl⟩ | ⟨q1, rfl, rfl, hn0⟩
         · rcases hob with r1 | ⟨b', K', cur, r1, r2, r3, r4, r5, r6, r7, r8⟩
           · rw [q1] at r1; cases r1
           rw [q1] at r1
           simp only [Option.some.injEq, Prod.mk.injEq] at r1
           obtain ⟨rfl, rfl⟩ := r1
           have hkc : k * j.size ≤ cc * j.size := Nat.mul_le_mul_right _ r4
           by_cases hroom : k + m ≤ cc
           · -- in place
             have hfit : (k + m) * j.size ≤ cc * j.size := Nat.mul_le_mul_right _ hroom
             rw [Nat.add_mul] at hfit
             have hr := run_append_room (P := P) w t ty el j' t2 u1 b k cc cur (by rw [← t6, ← e7]; exact r2) ad m c ((List.range (m * j.size)).map u) hn1 (range_map_cells s1) (range_map_one s2) hroom (by rw [hn1, ← u3, r3]; exact hfit)
             rw [← u3] at hr
             have hlen : ((List.range (m * j.size)).map u).length = m * j.size := by simp
             refine ⟨_, _, hexec _ _ hr, gs, ?_⟩
             have R' := R.write o b cc q1 cur (cur.toList.take (k * j.size) ++ (List.range (m * j.size)).map u ++ cur.toList.drop (k * j.size + ((List.range (m * j.size)).map u).length)).toArray ty' r2 (.row ty' j.size (k + m) (fun q => if q < k then f q else g (q - k)))
               (fun ty cells e => by rw [ho] at e; cases e) (fun ty2 sz2 n2 f2 e => by rw [ho] at e; injection e with e1 e2 e3 e4; subst e1; subst e2; subst e3; exact ⟨_, _, rfl, by omega⟩) fun hL _ => by
                 refine .inr ⟨b, cc, (cur.toList.take (k * j.size) ++ (List.range (m * j.size)).map u ++ cur.toList.drop (k * j.size + ((List.range (m * j.size)).map u).length)).toArray, q1, setRow_heap w b cur _ ty' _ r2, by rw [size_splice (by rw [hlen]; omega), r3], hroom, r5, fun q hq => ?_, fun q hq => ?_, fun q r hq hr' => ?_⟩
                 · show (if q < k then f q else g (q - k)).length = j.size
                   split
                   · exact r6 q ‹_›
                   · exact s3 _ (by omega)
                 · rw [Nat.add_mul] at hq
                   rw [getD_splice (by rw [hlen]; omega), hlen]
                   split
                   · rw [range_map_getD (by omega)]; exact s2 _ (by omega)
                   · exact r7 q (by omega)
                 · have hqr : q * j.size + j.size ≤ (k + m) * j.size := by rw [← Nat.succ_mul]; exact Nat.mul_le_mul_right _ hq
                   rw [Nat.add_mul] at hqr
                   rw [getD_splice (by rw [hlen]; omega)]
                   show RC _ _ _ ((if q < k then f q else g (q - k)).getD r .any)
                   by_cases h1 : q < k
                   · have : q * j.size + j.size ≤ k * j.size := by rw [← Nat.succ_mul]; exact Nat.mul_le_mul_right _ h1
                     rw [if_neg (by omega), if_pos h1]
                     exact (r8 q r h1 hr').later hL
                   · have : k * j.size ≤ q * j.size := Nat.mul_le_mul_right _ (by omega)
                     rw [if_pos (by rw [hlen]; omega), if_neg h1, range_map_getD (by omega)]
                     have := s4 (q - k) r (by omega) hr'
                     rw [Nat.sub_mul] at this
                     rw [show q * j.size + r - k * j.size = q * j.size - k * j.size + r by omega]
                     exact this.later hL
             exact R'.putO hd (.own _ _ _ o (k + m) ty' j.size (k + m) _ (upd_same _ _ _) (Nat.le_refl _) fun _ => .inl ⟨b, cc, q1, rfl, rfl, rfl⟩)
           · -- a new block
             have holds : ∀ (q : Nat) (v : Value), ((List.range (k * j.size)).map fun q => cur.getD q undef)[q]? = some v → w.cell? ((⟨b, 0, none⟩ : Addr).add q) = some v := range_map_cells fun q hq => by rw [addr_lit, Nat.zero_add]; exact cell_of_heap r2 (by omega)
             have hr := run_append_grow (P := P) w t ty el j' zv t2 u1 hzz ⟨b, 0, none⟩ k cc ((List.range (k * j.size)).map fun q => cur.getD q undef) (by simp [u3]) holds ad m c ((List.range (m * j.size)).map u) hn1 (range_map_cells s1) (by omega) (by simp only [maxLen] at e9; omega) (growslice_fits (by omega) (by rw [← u4]; exact e10))
             refine ⟨_, _, hexec _ _ hr, upd gs o (some (w.heap.size, grownCap w (k + m) cc el)), ?_⟩
             have hG := grown_block R o k m cc j.size el ((List.range (k * j.size)).map fun q => cur.getD q undef) ((List.range (m * j.size)).map u) zv.cells f g (by omega) e4 (by simp) (by simp) e9 (fun q hq => by rw [range_map_getD hq]; exact r7 q hq) (fun q hq => by rw [range_map_getD hq]; exact s2 q hq) r6 s3 (fun p q hp hq => by
               have : p * j.size + j.size ≤ k * j.size := by rw [← Nat.succ_mul]; exact Nat.mul_le_mul_right _ hp
               rw [range_map_getD (by omega)]; exact r8 p q hp hq) (fun p q hp hq => by
               have : p * j.size + j.size ≤ m * j.size := by rw [← Nat.succ_mul]; exact Nat.mul_le_mul_right _ hp
               rw [range_map_getD (by omega)]; exact s4 p q hp hq) (fun ty2 sz2 n2 f2 e => by rw [ho] at e; injection e with e1 e2 e3 e4; subst e1; subst e2; subst e3; exact ⟨by rw [e7, t6], rfl, rfl, h0⟩) (fun ty cells e => by rw [ho] at e; cases e) (fun es c e => by rw [ho] at e; cases e) (fun m s l t e => by rw [ho] at e; cases e)
             simp only at hG
             rw [e7, t6]
             exact hG.putO hd (by
               refine .own _ _ _ o (k + m) el j.size (k + m) _ (upd_same _ _ _) (Nat.le_refl _) fun _ => .inl ⟨w.heap.size, _, upd_same _ _ _, rfl, rfl, rfl⟩)
         · -- it has no block yet
           subst hn0
           have hr : (Builtin.append_ #[t, t] ty #[.slice B 0 0, .slice (some ad) m c]).run P w = .ok (.slice (some ⟨w.heap.size, 0, none⟩) (0 + m) (grownCap w (0 + m) 0 el)) (w.drew.alloc (.cells (([] : List Value).toArray ++ ((List.range (m * j.size)).map u).toArray ++ Builtin.zeroCells zv.cells (grownCap w (0 + m) 0 el - (0 + m))) el)) := by
             cases B with
             | none =>
               have := run_append_nil (P := P) w t ty el j' zv t2 u1 hzz ad m c ((List.range (m * j.size)).map u) hn1 (range_map_cells s1) h0 (by simp only [maxLen] at e9; omega) (by rw [← u4]; simp only [Nat.zero_add] at e10; omega)
               simp only [Nat.zero_add]
               rw [this]
               simp
             | some bb => exact run_append_grow (P := P) w t ty el j' zv t2 u1 hzz bb 0 0 [] (by simp) (fun q v hq => by simp at hq) ad m c ((List.range (m * j.size)).map u) hn1 (range_map_cells s1) (by omega) (by simp only [maxLen] at e9; omega) (growslice_fits (by omega) (by rw [← u4]; exact e10))
           refine ⟨_, _, hexec _ _ hr, upd gs o (some (w.heap.size, grownCap w (0 + m) 0 el)), ?_⟩
           have hG := grown_block R o 0 m 0 j.size el [] ((List.range (m * j.size)).map u) zv.cells f g (by omega) e4 (by simp) (by simp) e9 (fun q hq => by omega) (fun q hq => by rw [range_map_getD hq]; exact s2 q hq) (fun q hq => by omega) s3 (fun p q hp hq => by omega) (fun p q hp hq => by
               have : p * j.size + j.size ≤ m * j.size := by rw [← Nat.succ_mul]; exact Nat.mul_le_mul_right _ hp
               rw [range_map_getD (by omega)]; exact s4 p q hp hq) (fun ty2 sz2 n2 f2 e => by rw [ho] at e; injection e with e1 e2 e3 e4; subst e1; subst e2; subst e3; exact ⟨by rw [e7, t6], rfl, rfl, h0⟩) (fun ty cells e => by rw [ho] at e; cases e) (fun es c e => by rw [ho] at e; cases e) (fun m s l t e => by rw [ho] at e; cases e)
           simp only at hG
           rw [e7, t6]
           exact hG.putO hd (by
             refine .own _ _ _ o (0 + m) el j.size (0 + m) _ (upd_same _ _ _) (Nat.le_refl _) fun _ => .inl ⟨w.heap.size, _, upd_same _ _ _, rfl, rfl, rfl⟩)
     | emp B =>
       obtain ⟨ho, e9, e10, rfl, rfl⟩ := hm
       rcases Nat.eq_zero_or_pos m with h0 | h0
       · subst h0
         refine ⟨_, w, hexec _ _ (run_append_zero t2 u1 B A 0 0 c (Nat.le_refl _)), upd gs o none, ?_⟩
         have R' := R.eff (w' := w) o (.row i.elem j.size 0 g) none rfl rfl rfl (Nat.le_refl _) (fun _ _ _ => rfl) (.inl (by have := R.objs o; rw [ho] at this; exact this.symm)) (fun ty cells e => by rw [ho] at e; cases e) (fun ty sz n f e => by rw [ho] at e; cases e) fun _ _ => .inl (upd_same _ _ _)
         exact R'.putO hd (.own B 0 0 o 0 i.elem j.size 0 g (upd_same _ _ _) (Nat.le_refl _) fun _ => .inr ⟨upd_same _ _ _, rfl, rfl, rfl⟩)
       · obtain ⟨ad, u, rfl, s1, s2, s3, s4⟩ := hpos h0
         have hsz : sz = j.size := hszm.resolve_left (by omega)
         subst hsz
         have hn1 : ((List.range (m * j.size)).map u).length = m * j'.size := by simp [u3]
         have hr : (Builtin.append_ #[t, t] ty #[.slice B 0 0, .slice (some ad) m c]).run P w = .ok (.slice (some ⟨w.heap.size, 0, none⟩) (0 + m) (grownCap w (0 + m) 0 el)) (w.drew.alloc (.cells (([] : List Value).toArray ++ ((List.range (m * j.size)).map u).toArray ++ Builtin.zeroCells zv.cells (grownCap w (0 + m) 0 el - (0 + m))) el)) := by
           cases B with
           | none =>
             have := run_append_nil (P := P) w t ty el j' zv t2 u1 hzz ad m c ((List.range (m * j.size)).map u) hn1 (range_map_cells s1) h0 (by simp only [maxLen] at e9; omega) (by rw [← u4]; omega)
             simp only [Nat.zero_add]
             rw [this]
             simp
           | some bb => exact run_append_grow (P := P) w t ty el j' zv t2 u1 hzz bb 0 0 [] (by simp) (fun q v hq => by simp at hq) ad m c ((List.range (m * j.size)).map u) hn1 (range_map_cells s1) (by omega) (by simp only [maxLen] at e9; omega) (growslice_fits (by omega) (by rw [Nat.zero_add, ← u4]; exact e10))
         refine ⟨_, _, hexec _ _ hr, upd gs o (some (w.heap.size, grownCap w (0 + m) 0 el)), ?_⟩
         have hG := grown_block R o 0 m 0 j.size el [] ((List.range (m * j.size)).map u) zv.cells (fun _ => []) g (by omega) e4 (by simp) (by simp) (by omega) (fun q hq => by omega) (fun q hq => by rw [range_map_getD hq]; exact s2 q hq) (fun q hq => by omega) s3 (fun p q hp hq => by omega) (fun p q hp hq => by
               have : p * j.size + j.size ≤ m * j.size := by rw [← Nat.succ_mul]; exact Nat.mul_le_mul_right _ hp
               rw [range_map_getD (by omega)]; exact s4 p q hp hq) (fun ty2 sz2 n2 f2 e => by rw [ho] at e; cases e) (fun ty cells e => by rw [ho] at e; cases e) (fun es c e => by rw [ho] at e; cases e) (fun m s l t e => by rw [ho] at e; cases e)
         simp only [Nat.zero_add, Nat.not_lt_zero, if_false, Nat.sub_zero] at hG ⊢
         rw [t6]
         exact hG.putO hd (.own _ _ _ o m el j.size m g (upd_same _ _ _) (Nat.le_refl _) fun _ => .inl ⟨w.heap.size, _, upd_same _ _ _, rfl, rfl, rfl⟩)
     | _ => exact hm.elim
 | _ => simp_all
theorem run_copyN {dT sT ty el : TypeId} {j : TypeInfo} (g o dLen dCap : Nat) (A : Option Addr) (sLen sCap : Nat) (cur : Array Value) (t : TypeId) (cs : List Value)
   (hu : P.underlying dT = some (.slice el)) (hj : P.info? el = some j) (hg : w.heap[g]? = some (.cells cur t (0, 0))) (hn : cs.length = Nat.min sLen dLen * j.size)
   (hA : 0 < Nat.min sLen dLen → ∃ ad, A = some ad ∧ ∀ (q : Nat) (v : Value), cs[q]? = some v → w.cell? (ad.add q) = some v) (hfit : o + cs.length ≤ cur.size) (h1 : ∀ v ∈ cs, v.oneCell' = true) :
   (Builtin.copy_ #[dT, sT] ty #[.slice (some ⟨g, o, none⟩) dLen dCap, .slice A sLen sCap]).run P w = .ok (goInt (Nat.min sLen dLen : Nat)) (w.setRow g (cur.toList.take o ++ cs ++ cur.toList.drop (o + cs.length)).toArray) := by
 have hf : (Builtin.firstCells j.size (Nat.min sLen dLen) (.slice A sLen sCap)).run P w = .ok cs.toArray w := by
   rcases Nat.eq_zero_or_pos (Nat.min sLen dLen) with h0 | h0
   · rw [h0] at hn ⊢
     have : cs = [] := List.eq_nil_of_length_eq_zero (by simpa using hn)
     subst this
     cases A <;> simp [Builtin.firstCells, loadCells, loadCellsFrom]
   · obtain ⟨ad, rfl, hc⟩ := hA h0
     exact run_firstCells_some (P := P) w j.size _ ad sLen sCap cs hn hc
 have hst := run_storeCells_at P g o t cs 0 cur w hg (by simpa using hfit) h1
 simp only [Nat.add_zero] at hst
 simp only [Builtin.copy_, Sem.run_bind, run_underlying hu, Result.andThen_ok, Builtin.lenOf, Sem.run_pure, sizeOf, typeInfo, run_program, hj, List.getElem?_toArray, List.getElem?_cons_zero, List.getElem?_cons_succ, hf, hst]
theorem run_copy0 {dT sT ty el : TypeId} {j : TypeInfo} (hu : P.underlying dT = some (.slice el)) (hj : P.info? el = some j) (B A : Option Addr) (dLen dCap sLen sCap : Nat) (hn : Nat.min sLen dLen = 0) :
   (Builtin.copy_ #[dT, sT] ty #[.slice B dLen dCap, .slice A sLen sCap]).run P w = .ok (goInt 0) w := by
 cases A <;> cases B <;> simp [Builtin.copy_, run_underlying hu, sizeOf, typeInfo, hj, Builtin.lenOf, hn, Builtin.firstCells, loadCells, loadCellsFrom, storeCells]
theorem aop2_copy [Glb] (R : RelG E nt s h gs a w) {ty : TypeId} {pos : String} {af : Array Edge} {gd : Option (Nat × Bool)} {d : Option Tmp} (hd : ∀ t, d = some t → t < nt) {o : Nat} {x' : AObj} {x : AV} (args : Array Operand) (ats : Array TypeId)
   (hx : aop2 P (.call ⟨.builtin .copy, args, ats⟩) (ev s) h d o x' x) :
   ∃ v w', (execOp a.eval ⟨d, .call ⟨.builtin .copy, args, ats⟩, ty, pos, af, gd⟩).run P w = .ok (.value v) w' ∧ Rel E nt (updO s d x) (upd h o x') (a.put d v) w' := by
 obtain ⟨y, z, t, tz, i, j, sz, m, g, rfl, rfl, e1, e2, e3, hwy, hwz, hsrc, hszm, hm⟩ := hx
 have c1 := (ev_ok R y).strip hwy
 have c2 := (ev_ok R z).strip hwz
 obtain ⟨A, c, hvz, hpos⟩ := src_ok R c2 hsrc
 generalize hvy : a.eval y = vy at c1
 generalize (ev s y).strip = xy at c1 hm
 obtain ⟨i', dd, t1, t2, -, -, -, t6, t7, -, -⟩ := tinfo_some e1
 obtain ⟨j', dj, u1, u2, u3, u4, -, -, -, -, u9⟩ := tinfo_some e3
 cases dd with
 | slice el =>
   simp only at t6
   rw [t6] at u1
   have hexec : ∀ v w', (Builtin.copy_ #[t, tz] ty #[vy, .slice A m c]).run P w = .ok v w' → (execOp a.eval ⟨d, .call ⟨.builtin .copy, #[y, z], #[t, tz]⟩, ty, pos, af, gd⟩).run P w = .ok (.value v) w' := by
     intro v w' hr
     simp [execOp, resolve, invoke, builtin, hvy, hvz, hr]
   have road : ∀ (B : Option Addr) (k cc off : Nat) (ty' : TypeId) (n : Nat) (f : Nat → List CV), vy = .slice B k cc → h o = .row ty' j.size n f → off + k ≤ n → (0 < k → ∃ b K, gs o = some (b, K) ∧ B = some ⟨b, off * j.size, none⟩) →
       ∃ v w', (execOp a.eval ⟨d, .call ⟨.builtin .copy, #[y, z], #[t, tz]⟩, ty, pos, af, gd⟩).run P w = .ok (.value v) w' ∧
         Rel E nt (updO s d (.int (Nat.min m k : Nat))) (upd h o (.row ty' j.size n (fun q => if off ≤ q ∧ q < off + Nat.min m k then g (q - off) else f q))) (a.put d v) w' := by
     intro B k cc off ty' n f hv ho hok hB
     subst hv
     have hob := R.objs o
     rw [ho] at hob
     by_cases hp : 0 < Nat.min m k
     · have hk : 0 < k := Nat.lt_of_lt_of_le hp (Nat.min_le_right _ _)
       have hm0 : 0 < m := Nat.lt_of_lt_of_le hp (Nat.min_le_left _ _)
       obtain ⟨b, K, q1, rfl⟩ := hB hk
       obtain ⟨ad, u, rfl, s1, s2, s3, s4⟩ := hpos hm0
       have hsz : sz = j.size := hszm.resolve_left (by omega)
       subst hsz
       rcases hob with r1 | ⟨b', K', cur, r1, r2, r3, r4, r5, r6, r7, r8⟩
       · rw [q1] at r1; cases r1
       rw [q1] at r1
       simp only [Option.some.injEq, Prod.mk.injEq] at r1
       obtain ⟨rfl, rfl⟩ := r1
       have hnK : n * j.size ≤ K * j.size := Nat.mul_le_mul_right _ r4
       have hmk : Nat.min m k ≤ k := Nat.min_le_right _ _
       have hmm : Nat.min m k ≤ m := Nat.min_le_left _ _
       generalize hl : Nat.min m k = l at *
       have hlm : l * j.size ≤ m * j.size := Nat.mul_le_mul_right _ hmm
       have hfit : off * j.size + l * j.size ≤ n * j.size := by rw [← Nat.add_mul]; exact Nat.mul_le_mul_right _ (by omega)
       have hlen : ((List.range (l * j.size)).map u).length = l * j.size := by simp
       have hcp := run_copyN (P := P) (w := w) (dT := t) (sT := tz) (ty := ty) b (off * j.size) k cc (some ad) m c cur ty' ((List.range (l * j.size)).map u) t2 u1 r2 (by rw [hlen, hl, u3]) (fun _ => ⟨ad, rfl, range_map_cells fun q hq => s1 q (by omega)⟩) (by rw [hlen, r3]; omega) (range_map_one fun q hq => s2 q (by omega))
       rw [hl] at hcp
       refine ⟨_, _, hexec _ _ hcp, gs, RelG.putO ?_ hd (.c _ _ (.raw _))⟩
       refine R.write o b K q1 cur _ ty' r2 _ (fun ty cells e => by rw [ho] at e; cases e) (fun ty2 sz2 n2 f2 e => by rw [ho] at e; injection e with e1 e2 e3 e4; subst e1; subst e2; subst e3; exact ⟨_, _, rfl, Nat.le_refl _⟩) fun hL _ => ?_
       refine .inr ⟨b, K, _, q1, setRow_heap w b cur _ ty' _ r2, by rw [size_splice (by rw [hlen]; omega), r3], r4, r5, fun q hq => ?_, fun q hq => ?_, fun q r hq hr' => ?_⟩
       · show (if off ≤ q ∧ q < off + l then g (q - off) else f q).length = j.size
         split
         · exact s3 _ (by omega)
         · exact r6 q hq
       · rw [getD_splice (by rw [hlen]; omega), hlen]
         split
         · rw [range_map_getD (by omega)]; exact s2 _ (by omega)
         · exact r7 q hq
       · have hqr : q * j.size + j.size ≤ n * j.size := by rw [← Nat.succ_mul]; exact Nat.mul_le_mul_right _ hq
         rw [getD_splice (by rw [hlen]; omega)]
         show RC _ _ _ ((if off ≤ q ∧ q < off + l then g (q - off) else f q).getD r .any)
         by_cases h1 : off ≤ q ∧ q < off + l
         · have h2 : off * j.size ≤ q * j.size := Nat.mul_le_mul_right _ h1.1
           have h3 : q * j.size + j.size ≤ (off + l) * j.size := by rw [← Nat.succ_mul]; exact Nat.mul_le_mul_right _ h1.2
           rw [Nat.add_mul] at h3
           rw [if_pos (by rw [hlen]; omega), if_pos h1, range_map_getD (by omega)]
           have := s4 (q - off) r (by omega) hr'
           rw [Nat.sub_mul] at this
           rw [show q * j.size + r - off * j.size = q * j.size - off * j.size + r by omega]
           exact this.later hL
         · have h2 : q < off ∨ off + l ≤ q := by omega
           rw [if_neg, if_neg h1]
           · exact (r8 q r hq hr').later hL
           · rw [hlen]
             rcases h2 with h2 | h2
             · have : q * j.size + j.size ≤ off * j.size := by rw [← Nat.succ_mul]; exact Nat.mul_le_mul_right _ h2
               omega
             · have : (off + l) * j.size ≤ q * j.size := Nat.mul_le_mul_right _ h2
               rw [Nat.add_mul] at this
               omega
     · have h0 : Nat.min m k = 0 := by omega
       refine ⟨_, w, hexec _ _ (run_copy0 t2 u1 B A k cc m c h0), gs, ?_⟩
       rw [h0]
       exact (R.same_row o ty' j.size n f _ ho fun q hq => if_neg (by omega)).putO hd (.c _ _ (.raw _))
   cases c1 with
   | own B k cc o' L ty' sz' n f ho hL hv =>
     obtain ⟨rfl, ty2, n2, f2, e6, e8, rfl, rfl⟩ := hm
     rw [ho] at e6
     injection e6 with f1 f2' f3 f4
     subst f1; subst f2'; subst f3; subst f4
     have hob := R.objs o
     rw [ho] at hob
     have hkn : k = n := by
       rcases hv e8 with ⟨b, K, q1, q2, q3, q4⟩ | ⟨q1, q2, q3, q4⟩
       · exact q3
       · omega
     subst hkn
     obtain ⟨v, w', h1, h2⟩ := road B k cc 0 ty' k f rfl ho (by omega) (fun hk => by
       rcases hv e8 with ⟨b, K, q1, q2, q3, q4⟩ | ⟨q1, q2, q3, q4⟩
       · exact ⟨b, K, q1, by rw [q2]; simp⟩
       · omega)
     refine ⟨v, w', h1, ?_⟩
     simp only [Nat.zero_le, true_and, Nat.zero_add, Nat.sub_zero] at h2
     exact h2
   | osub B k' cc o' L off k ty' sz' n f ho hL hv =>
     obtain ⟨rfl, ty2, n2, f2, e6, e8, rfl, rfl⟩ := hm
     rw [ho] at e6
     injection e6 with f1 f2' f3 f4
     subst f1; subst f2'; subst f3; subst f4
     obtain ⟨v1, rfl, v3, v4, _⟩ := hv e8
     exact road B k' cc off ty' n f rfl ho v1 v4
   | _ => exact hm.elim
 | _ => simp_all
end
end Go.Am
namespace Go.Am
open Go.RowKit
def cls : Op → Nat
 | .load _ _ | .indexAddr _ _ _ | .slice _ _ _ _ _ | .lookup _ _ _ _ => 1
 | .call { callee := .builtin .len, .. } => 1
 | .call { callee := .value _, .. } => 1
 | .store _ _ _ | .mapUpdate _ _ _ _ | .mapEntry _ _ _ | .entryStore _ _ _ _ => 2
 | .call { callee := .builtin .append, .. } => 2
 | .call { callee := .builtin .copy, .. } => 2
 | .box _ _ | .alloc _ | .makeSlice _ _ _ | .makeMap _ _ => 3
 | _ => 0
def appE (h : AH) : Option (Nat × AObj) → AH
 | some (o, x) => upd h o x
 | none => h
def aEx [Glb] (P : Program) (o : Oper) (s : Nat → AV) (h : AH) (x : AV) (eff : Option (Nat × AObj)) : Prop :=
 match cls o.op with
 | 0 => aop0 P o.op (ev s) true x ∧ eff = none
 | 1 => aop1 P o.op (ev s) h true x ∧ eff = none
 | 2 => ∃ ob x', aop2 P o.op (ev s) h o.dst ob x' x ∧ eff = some (ob, x')
 | _ => ∃ ob x', (∃ d, o.dst = some d) ∧ h ob = .gone ∧ aop3 P o.op (ev s) ob x' x ∧ eff = some (ob, x')
section
variable {E : Env} {w : World} {nt : Nat} {s : Nat → AV} {h : AH} {gs : Gs} {a : Act} {P : Program}
theorem wp_value {o : Oper} {v : Value} {w' : World} {K : Act → World → Prop} {Q : Exit → Act → World → Prop} (hr : (execOp a.eval o).run P w = .ok (.value v) w') (hK : K (a.put o.dst v) w') : o.wp P a w K Q := by
 unfold Oper.wp
 rw [hr]
 exact hK
theorem wp_pure [Glb] (R : RelG E nt s h gs a w) {o : Oper} {x : AV} {Q : Exit → Act → World → Prop} (hd : ∀ t, o.dst = some t → t < nt)
   (hr : ∃ v w', (execOp a.eval o).run P w = .ok (.value v) w' ∧ Below w.heap.size w w' ∧ RA w' (Zf E.Z gs) h gs v x) : o.wp P a w (fun a' w' => Rel E nt (updO s o.dst x) h a' w') Q := by
 obtain ⟨v, w', h1, h2, h3⟩ := hr
 exact wp_value h1 ⟨gs, (R.grow h2 fun _ => run_drawn P _ _ _ _ h1).putO hd h3⟩
theorem exec_ok [Glb] (R : RelG E nt s h gs a w) {o : Oper} {x : AV} {eff : Option (Nat × AObj)} {Q : Exit → Act → World → Prop} (hd : ∀ t, o.dst = some t → t < nt) (hx : aEx P o s h x eff) :
   o.wp P a w (fun a' w' => Rel E nt (updO s o.dst x) (appE h eff) a' w') Q := by
 obtain ⟨d, op, ty, pos, af, gd⟩ := o
 cases op with
 | move y => obtain ⟨h1, rfl⟩ := hx; exact wp_pure R hd (aop0_move R _ y (.inl rfl) h1)
 | assign y => obtain ⟨h1, rfl⟩ := hx; exact wp_pure R hd (aop0_move R _ y (.inr rfl) h1)
 | pick c y z => obtain ⟨h1, rfl⟩ := hx; exact wp_pure R hd (aop0_pick R c y z h1)
 | binOp op t y z t2 => obtain ⟨h1, rfl⟩ := hx; exact wp_pure R hd (aop0_binOp R op t t2 y z h1)
 | unOp op t y => obtain ⟨h1, rfl⟩ := hx; exact wp_pure R hd (aop0_unOp R op t y h1)
 | fieldAddr t y f => obtain ⟨h1, rfl⟩ := hx; exact wp_pure R hd (aop0_fieldAddr R t y f h1)
 | extract y i => obtain ⟨h1, rfl⟩ := hx; exact wp_pure R hd (aop0_extract R y i h1)
 | build t parts => obtain ⟨h1, rfl⟩ := hx; exact wp_pure R hd (aop0_build R t parts h1)
 | buildSlice t len parts => obtain ⟨h1, rfl⟩ := hx; exact wp_pure R hd (aop0_buildSlice R t len parts h1)
 | convert t t2 y => obtain ⟨h1, rfl⟩ := hx; exact wp_pure R hd (aop0_convert R t t2 y h1)
 | nilCheck y => obtain ⟨h1, rfl⟩ := hx; exact wp_pure R hd (aop0_nilCheck R y h1)
 | index t y z => obtain ⟨h1, rfl⟩ := hx; exact wp_pure R hd (aop0_index R t y z h1)
 | makeInterface t y => obtain ⟨h1, rfl⟩ := hx; exact wp_pure R hd (aop0_makeInterface R t y h1)
 | makeFunc fn first caps => obtain ⟨h1, rfl⟩ := hx; exact wp_pure R hd (aop0_makeFunc R fn first caps h1)
 | load t y => obtain ⟨h1, rfl⟩ := hx; exact wp_pure R hd (aop1_load R t y h1)
 | indexAddr t y z => obtain ⟨h1, rfl⟩ := hx; exact wp_pure R hd (aop1_indexAddr R t y z h1)
 | slice t y lo hi mx => obtain ⟨h1, rfl⟩ := hx; exact wp_pure R hd (aop1_slice R t y lo hi mx h1)
 | lookup t y z ok => obtain ⟨h1, rfl⟩ := hx; exact wp_pure R hd (aop1_lookup R t y z ok h1)
 | mapUpdate t m k v =>
   obtain ⟨ob, x', h1, rfl⟩ := hx
   obtain ⟨rfl, w', h2, h3⟩ := aop2_mapUpdate R t m k v h1
   unfold Oper.wp
   rw [h2]
   exact h3
 | mapEntry t m k =>
   obtain ⟨ob, x', h1, rfl⟩ := hx
   obtain ⟨v, w', h4, h5⟩ := aop2_mapEntry R hd t m k h1
   exact wp_value h4 h5
 | entryStore t m b v =>
   obtain ⟨ob, x', h1, rfl⟩ := hx
   obtain ⟨rfl, w', h2, h3⟩ := aop2_entryStore R t m b v h1
   unfold Oper.wp
   rw [h2]
   exact h3
 | makeMap t r =>
   obtain ⟨ob, x', ⟨d', h1⟩, h2, h3, rfl⟩ := hx
   simp only at h1
   subst h1
   obtain ⟨v, w', h4, h5⟩ := aop3_makeMap R (hd d' rfl) h2 t r h3
   exact wp_value h4 h5
 | store t y z =>
   obtain ⟨ob, x', h1, rfl⟩ := hx
   obtain ⟨rfl, w', h2, h3⟩ := aop2_store R t y z h1
   unfold Oper.wp
   rw [h2]
   exact h3
 | box t y =>
   obtain ⟨ob, x', ⟨d', h1⟩, h2, h3, rfl⟩ := hx
   simp only at h1
   subst h1
   obtain ⟨v, w', h4, h5⟩ := aop3_box R (hd d' rfl) h2 t y h3
   exact wp_value h4 h5
 | alloc t =>
   obtain ⟨ob, x', ⟨d', h1⟩, h2, h3, rfl⟩ := hx
   simp only at h1
   subst h1
   obtain ⟨v, w', h4, h5⟩ := aop3_alloc R (hd d' rfl) h2 t h3
   exact wp_value h4 h5
 | makeSlice t y z =>
   obtain ⟨ob, x', ⟨d', h1⟩, h2, h3, rfl⟩ := hx
   simp only at h1
   subst h1
   obtain ⟨v, w', h4, h5⟩ := aop3_make R (hd d' rfl) h2 t y z h3
   exact wp_value h4 h5
 | call c =>
   obtain ⟨callee, args, ats⟩ := c
   cases callee with
   | builtin b =>
     cases b with
     | len => obtain ⟨h1, rfl⟩ := hx; exact wp_pure R hd (aop1_len R args ats h1)
     | max => obtain ⟨h1, rfl⟩ := hx; exact wp_pure R hd (aop0_max R args ats h1)
     | min => obtain ⟨h1, rfl⟩ := hx; exact wp_pure R hd (aop0_min R args ats h1)
     | append =>
       obtain ⟨ob, x', h1, rfl⟩ := hx
       obtain ⟨v, w', h4, h5⟩ := aop2_append R hd args ats h1
       exact wp_value h4 h5
     | copy =>
       obtain ⟨ob, x', h1, rfl⟩ := hx
       obtain ⟨v, w', h4, h5⟩ := aop2_copy R hd args ats h1
       exact wp_value h4 h5
     | _ => exact hx.1.elim
   | value f =>
     cases f with
     | func f =>
       obtain ⟨h1, rfl⟩ := hx
       exact aop1_call R f args ats h1 fun v w' hb hr => ⟨gs, (R.grow hb.toBelow hb.drawn).putO hd hr⟩
     | tmp t =>
       obtain ⟨h1, rfl⟩ := hx
       exact aop1_callV R t args ats h1 fun v w' hb hr => ⟨gs, (R.grow hb.toBelow hb.drawn).putO hd hr⟩
     | _ => exact hx.1.elim
   | invoke r m => exact hx.1.elim
 | _ => exact hx.1.elim
end
def aStep [Glb] (P : Program) (ops : Array Oper) (o : Oper) (s : Nat → AV) (h : AH) (x : AV) (eff : Option (Nat × AObj)) : Prop :=
 match o.guard with
 | none => aEx P o s h x eff
 | some (j, want) => eff = none ∧ ∃ t g y, (ops[j]?).bind (·.dst) = some t ∧ (s t).strip = .bool g ∧
     (((s t).wh && g == want) = true → match cls o.op with
      | 0 => aop0 P o.op (ev s) true y
      | 1 => aop1 P o.op (ev s) h true y
      | _ => False) ∧ x = .when ((s t).wh && g == want) y
def aRun [Glb] (P : Program) (ops : Array Oper) (K : (Nat → AV) → AH → Prop) : List Oper → (Nat → AV) → AH → Prop
 | [], s, h => K s h
 | o :: r, s, h => ∃ x eff, aStep P ops o s h x eff ∧ aRun P ops K r (updO s o.dst x) (appE h eff)
section
variable {E : Env} {w : World} {nt : Nat} {s : Nat → AV} {h : AH} {gs : Gs} {a : Act} {P : Program} {ops : Array Oper}
theorem RA.guard {Z : Nat → Prop} {v : Value} {y : AV} {g : Bool} (hx : RA w Z h gs v y) (he : y.strip = .bool g) : v = if y.wh then .bool g else undef := by
 induction hx with
 | when v b x hx hu ih =>
   cases b with
   | false => simp [AV.wh, hu rfl]
   | true => simpa [AV.wh] using ih rfl he
 | c v x hx =>
   have e : x = .raw (.bool g) := by simpa [AV.strip] using he
   subst e
   exact (RA.c (gs := gs) (h := h) v _ hx).raw_inv
 | _ => simp [AV.strip] at he
theorem yielded_of [Glb] (R : RelG E nt s h gs a w) {j t : Nat} {g : Bool} (h1 : (ops[j]?).bind (·.dst) = some t) (h2 : (s t).strip = .bool g) (ht : t < nt) : yielded ops a.tmps j = if (s t).wh then some g else none := by
 have hv := (R.slots t).guard h2
 unfold yielded
 rw [h1]
 have hlt : t < a.tmps.size := by rw [R.size]; exact ht
 simp only [Option.bind_some, Array.getElem?_eq_getElem hlt]
 simp only [Array.getD, hlt, dite_true, Array.getInternal_eq_getElem] at hv
 rw [hv]
 cases (s t).wh <;> rfl
theorem step_ok [Glb] (R : RelG E nt s h gs a w) {o : Oper} {x : AV} {eff : Option (Nat × AObj)} {Q : Exit → Act → World → Prop} (hd : ∀ t, o.dst = some t → t < nt)
   (hg : ∀ j b t, o.guard = some (j, b) → (ops[j]?).bind (·.dst) = some t → t < nt) (hx : aStep P ops o s h x eff) :
   (Region.wanted o (yielded ops a.tmps) = true ∧ o.wp P a w (fun a' w' => Rel E nt (updO s o.dst x) (appE h eff) a' w') Q) ∨
   (Region.wanted o (yielded ops a.tmps) = false ∧ Rel E nt (updO s o.dst x) (appE h eff) (a.put o.dst undef) w) := by
 unfold aStep at hx
 split at hx
 · rename_i hgd
   exact .inl ⟨by simp [Region.wanted, hgd], exec_ok R hd hx⟩
 · rename_i j want hgd
   obtain ⟨rfl, t, g, y, h1, h2, h3, rfl⟩ := hx
   have hy := yielded_of R h1 h2 (hg j want t hgd h1)
   by_cases hw : ((s t).wh && g == want) = true
   · have hw' := hw
     rw [Bool.and_eq_true, beq_iff_eq] at hw'
     rw [if_pos hw'.1] at hy
     refine .inl ⟨by simp [Region.wanted, hgd, hy, hw'.2], ?_⟩
     have hex : aEx P o s h y none := by
       unfold aEx
       have h3 := h3 hw
       split at h3
       · rename_i hc
         simp only [hc]
         exact ⟨h3, trivial⟩
       · rename_i hc
         simp only [hc]
         exact ⟨h3, trivial⟩
       · exact h3.elim
     refine Oper.wp_mono (fun a' w' hR => ?_) (exec_ok R hd hex)
     obtain ⟨gs', R'⟩ := hR
     refine ⟨gs', { R' with slots := fun t' => ?_ }⟩
     have := R'.slots t'
     unfold updO at this ⊢
     cases hdst : o.dst with
     | none => rw [hdst] at this; exact this
     | some d =>
       rw [hdst] at this
       simp only [upd] at this ⊢
       split
       · rename_i he
         rw [if_pos he] at this
         exact .when _ _ _ (fun _ => this) fun e => by rw [hw] at e; cases e
       · rename_i he
         rw [if_neg he] at this
         exact this
   · refine .inr ⟨?_, gs, R.putO hd (.when _ _ _ (fun e => absurd e hw) fun _ => rfl)⟩
     cases hwh : (s t).wh with
     | false => rw [hwh] at hy; simp [Region.wanted, hgd, hy]
     | true =>
       rw [hwh] at hy hw
       simp only [Bool.true_and, beq_iff_eq] at hw
       simp [Region.wanted, hgd, hy, hw]
def slotsOk (nt : Nat) (ops : List Oper) : Bool := ops.all fun o => (match o.dst with | some d => decide (d < nt) | none => true)
theorem slotsOk_dst {l : List Oper} (hs : slotsOk nt l = true) {o : Oper} (ho : o ∈ l) : ∀ t, o.dst = some t → t < nt := by
 intro t ht
 simp only [slotsOk, List.all_eq_true] at hs
 have := hs o ho
 rw [ht] at this
 simpa using this
theorem slotsOk_guard {ops : Array Oper} (hs : slotsOk nt ops.toList = true) {j t : Nat} (ht : (ops[j]?).bind (·.dst) = some t) : t < nt := by
 rw [Option.bind_eq_some_iff] at ht
 obtain ⟨o, h1, h2⟩ := ht
 exact slotsOk_dst hs (Array.mem_toList_iff.2 (Array.mem_of_getElem? h1)) t h2
theorem run_ok [Glb] (hs : slotsOk nt ops.toList = true) {Q : Exit → Act → World → Prop} {K : (Nat → AV) → AH → Prop} : ∀ (l : List Oper) (s : Nat → AV) (h : AH) (a : Act) (w : World), (∀ o ∈ l, o ∈ ops.toList) → Rel E nt s h a w →
   aRun P ops K l s h → (∀ s' h' a' w', K s' h' → Rel E nt s' h' a' w' → Q .normal a' w') → wpList P ops Q l a w
 | [], s, h, a, w, _, R, hr, hQ => hQ s h a w hr R
 | o :: l, s, h, a, w, hm, ⟨gs, R⟩, hr, hQ => by
   obtain ⟨x, eff, h1, h2⟩ := hr
   have hd := slotsOk_dst hs (hm o (by simp))
   unfold wpList
   rcases step_ok (Q := Q) R hd (fun j b t _ e => slotsOk_guard hs e) h1 with ⟨hw, hp⟩ | ⟨hw, hp⟩
   · rw [if_pos hw]
     exact .inl (Oper.wp_mono (fun a' w' R' => run_ok hs l _ _ a' w' (fun o ho => hm o (by simp [ho])) R' h2 hQ) hp)
   · rw [if_neg (by simp [hw])]
     exact run_ok hs l _ _ _ w (fun o ho => hm o (by simp [ho])) hp h2 hQ
end
end Go.Am
