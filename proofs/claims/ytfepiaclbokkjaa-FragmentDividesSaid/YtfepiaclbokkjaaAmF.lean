/- The abstract machine, part 15: what comes in at a law's parameters reads as trees. Generic over the program; no condition. -/
import Derived.Test.YtfepiaclbokkjaaAmE
import Derived.Below
import Derived.Carry
import Derived.ChangeSame
import Derived.ProofKit
import Derived.OpenShut
namespace Go.Am
open Go.RowKit Go.WideShapes Go.ChangeShapes

section
variable {H : Type} {enc : TypeId × Value → H} {P : Program} {w : World} {base : Nat} {spare : Nat → Bool} {held : Bool}

/-- The cells of a value read as trees. -/
def RCs (w : World) (Z : Nat → Prop) (vs : List Value) (xs : List CV) : Prop := vs.length = xs.length ∧ ∀ i, i < xs.length → (vs.getD i undef).oneCell' = true ∧ RC w Z (vs.getD i undef) (xs.getD i .any)

theorem RCs.one {Z : Nat → Prop} {v : Value} {x : CV} (h1 : v.oneCell' = true) (h2 : RC w Z v x) : RCs w Z [v] [x] := by
  refine ⟨rfl, fun i hi => ?_⟩
  have : i = 0 := by simpa using hi
  subst this
  exact ⟨h1, h2⟩

theorem RCs.nil {Z : Nat → Prop} : RCs w Z [] [] := ⟨rfl, fun i hi => by simp at hi⟩

theorem RCs.append {Z : Nat → Prop} {vs us : List Value} {xs ys : List CV} (h : RCs w Z vs xs) (k : RCs w Z us ys) : RCs w Z (vs ++ us) (xs ++ ys) := by
  refine ⟨by simp [h.1, k.1], fun i hi => ?_⟩
  have hl := h.1
  by_cases hi' : i < xs.length
  · have := h.2 i hi'
    simp only [List.getD_eq_getElem?_getD] at this ⊢
    rw [List.getElem?_append_left (by omega), List.getElem?_append_left hi']
    exact this
  · have := k.2 (i - xs.length) (by simp at hi; omega)
    simp only [List.getD_eq_getElem?_getD] at this ⊢
    rw [List.getElem?_append_right (by omega), List.getElem?_append_right (by omega), hl]
    exact this

theorem mapM_get {α β : Type} {f : α → Option β} : ∀ {l : List α} {r : List β}, l.mapM f = some r → r.length = l.length ∧ ∀ i (h : i < l.length), ∃ y, f l[i] = some y ∧ r[i]? = some y
  | [], r, h => by
    simp at h
    subst h
    exact ⟨rfl, fun i h => by simp at h⟩
  | x :: l, r, h => by
    rw [List.mapM_cons] at h
    simp only [Option.bind_eq_bind, Option.bind_eq_some_iff, Option.pure_def, Option.some.injEq] at h
    obtain ⟨y, hy, q, hq, rfl⟩ := h
    obtain ⟨h1, h2⟩ := mapM_get hq
    refine ⟨by simp [h1], fun i hi => ?_⟩
    cases i with
    | zero => exact ⟨y, hy, rfl⟩
    | succ i =>
      obtain ⟨z, hz, hr⟩ := h2 i (by simpa using hi)
      exact ⟨z, by simpa using hz, by simpa using hr⟩

theorem mapM_mem {α β : Type} {f : α → Option β} {l : List α} {r : List β} (h : l.mapM f = some r) {x : α} (hx : x ∈ l) : ∃ y, f x = some y := by
  obtain ⟨i, hi, rfl⟩ := List.getElem_of_mem hx
  obtain ⟨y, hy, _⟩ := (mapM_get h).2 i hi
  exact ⟨y, hy⟩

theorem trod_int {fuel : Nat} {t : TypeId} {k : IntKind} {cs : List Value} {x : DataW H × List MemPlace} (h : DataW.trod enc P w base spare held fuel t cs = some x) (hu : P.underlying t = some (.int k)) : ∃ n, cs = [.int k n] ∧ (Lit.int k n).wf = true := by
  cases fuel with
  | zero => simp [DataW.trod] at h
  | succ fuel =>
    unfold DataW.trod at h
    rw [hu] at h
    split at h <;> simp_all

theorem trod_bool {fuel : Nat} {t : TypeId} {cs : List Value} {x : DataW H × List MemPlace} (h : DataW.trod enc P w base spare held fuel t cs = some x) (hu : P.underlying t = some .bool) : ∃ b, cs = [.bool b] := by
  cases fuel with
  | zero => simp [DataW.trod] at h
  | succ fuel =>
    unfold DataW.trod at h
    rw [hu] at h
    split at h <;> simp_all

theorem trod_str {fuel : Nat} {t : TypeId} {cs : List Value} {x : DataW H × List MemPlace} (h : DataW.trod enc P w base spare held fuel t cs = some x) (hu : P.underlying t = some .string) : ∃ s, cs = [.string s] ∧ s.size ≤ maxLen := by
  cases fuel with
  | zero => simp [DataW.trod] at h
  | succ fuel =>
    unfold DataW.trod at h
    rw [hu] at h
    split at h <;> simp_all

theorem trod_struct {fuel : Nat} {t : TypeId} {cs : List Value} {x : DataW H × List MemPlace} {fs : Array Field} (h : DataW.trod enc P w base spare held fuel t cs = some x) (hu : P.underlying t = some (.struct fs)) :
    ∃ n, fuel = n + 1 ∧ cs.length = P.cellsOf t ∧ ∀ f ∈ fs.toList, ∃ y, DataW.trod enc P w base spare held n f.type ((cs.drop f.offset).take (P.cellsOf f.type)) = some y := by
  cases fuel with
  | zero => simp [DataW.trod] at h
  | succ fuel =>
    unfold DataW.trod at h
    simp only [hu] at h
    split at h
    · rename_i hl
      rw [Option.map_eq_some_iff] at h
      obtain ⟨r, hr, _⟩ := h
      exact ⟨fuel, rfl, hl, fun f hf => mapM_mem hr hf⟩
    · cases h

theorem trod_slice {fuel : Nat} {t e : TypeId} {cs : List Value} {x : DataW H × List MemPlace} (h : DataW.trod enc P w base spare held fuel t cs = some x) (hu : P.underlying t = some (.slice e)) :
    ∃ n, fuel = n + 1 ∧ (cs = [.slice none 0 0] ∨ ∃ a len cap, cs = [.slice (some a) len cap] ∧ len ≤ cap ∧ cap ≤ maxLen ∧
      ∀ i, i < len → ∃ vs y, w.cells? base (a.add (i * P.cellsOf e)) (P.cellsOf e) = some vs ∧ DataW.trod enc P w base spare held n e vs = some y) := by
  cases fuel with
  | zero => simp [DataW.trod] at h
  | succ fuel =>
    refine ⟨fuel, rfl, ?_⟩
    unfold DataW.trod at h
    rw [hu] at h
    split at h <;> simp_all only [reduceCtorEq, Option.some.injEq, TypeDesc.slice.injEq]
    · exact .inl trivial
    · refine .inr ⟨_, _, _, rfl, ?_⟩
      rename_i a len cap
      split at h
      · rename_i hl
        refine ⟨hl.2.1, hl.2.2, fun i hi => ?_⟩
        rw [Option.bind_eq_some_iff] at h
        obtain ⟨r, hr, _⟩ := h
        obtain ⟨y, hy⟩ := mapM_mem hr (List.mem_range.2 hi)
        rw [Option.bind_eq_some_iff] at hy
        obtain ⟨vs, h1, h2⟩ := hy
        subst_vars
        exact ⟨vs, y, h1, h2⟩
      · cases h

theorem cells_get {a : Addr} {n : Nat} {vs : List Value} (h : w.cells? base a n = some vs) : vs.length = n ∧ ∀ i, i < n → w.cell? (a.add i) = some (vs.getD i undef) := by
  unfold World.cells? at h
  split at h
  · obtain ⟨h1, h2⟩ := mapM_get h
    refine ⟨by simpa using h1, fun i hi => ?_⟩
    obtain ⟨y, hy, hr⟩ := h2 i (by simpa using hi)
    rw [List.getElem_range] at hy
    rw [hy, List.getD_eq_getElem?_getD, hr]
    rfl
  · cases h

theorem cell_lt {a : Addr} {v : Value} (h : w.cell? a = some v) : a.block < w.heap.size := by
  unfold World.cell? at h
  by_cases hl : a.block < w.heap.size
  · exact hl
  · rw [Array.getElem?_eq_none (by omega)] at h
    cases h

/-- A slice of elements that read as trees reads as a tree. -/
theorem open_slice {X : Type} [Inhabited X] (f : X → List CV) (sz : Nat) (hsz : ∀ x, (f x).length = sz) {fuel : Nat} {t e : TypeId} {cs : List Value} {x : DataW H × List MemPlace} (h : DataW.trod enc P w base spare held fuel t cs = some x)
    (hu : P.underlying t = some (.slice e)) (hc : P.cellsOf e = sz) (hp : 0 < sz) (he : ∀ n, n < fuel → ∀ vs y, DataW.trod enc P w base spare held n e vs = some y → ∃ x, RCs w (fun _ => False) vs (f x)) :
    ∃ l : List X, RCs w (fun _ => False) cs [.im sz l.length fun i => f (l.getD i default)] ∧ l.length ≤ maxLen := by
  obtain ⟨n, rfl, rfl | ⟨a, len, cap, rfl, hl, hm, hel⟩⟩ := trod_slice h hu
  · exact ⟨[], .one rfl (.nul _ _ _ _), Nat.zero_le _⟩
  · rw [hc] at hel
    have hx : ∀ i, i < len → ∃ x, ∀ j, j < sz → ∃ v, w.cell? (a.add (i * sz + j)) = some v ∧ v.oneCell' = true ∧ RC w (fun _ => False) v ((f x).getD j .any) := by
      intro i hi
      obtain ⟨vs, y, h1, h2⟩ := hel i hi
      obtain ⟨x, hx⟩ := he n (Nat.lt_succ_self _) vs y h2
      obtain ⟨h3, h4⟩ := cells_get h1
      refine ⟨x, fun j hj => ⟨vs.getD j undef, ?_, hx.2 j (by rw [hsz]; exact hj)⟩⟩
      have := h4 j hj
      rwa [add_add] at this
    have hl2 : ∃ l : List X, l.length = len ∧ ∀ i, i < len → ∀ j, j < sz → ∃ v, w.cell? (a.add (i * sz + j)) = some v ∧ v.oneCell' = true ∧ RC w (fun _ => False) v ((f (l.getD i default)).getD j .any) := by
      clear hel hl hm h
      induction len with
      | zero => exact ⟨[], rfl, fun i hi => by omega⟩
      | succ len ih =>
        obtain ⟨l, h1, h2⟩ := ih (fun i hi => hx i (by omega))
        obtain ⟨x, h3⟩ := hx len (by omega)
        refine ⟨l ++ [x], by simp [h1], fun i hi => ?_⟩
        by_cases e : i < len
        · have := h2 i e
          rw [List.getD_eq_getElem?_getD, List.getElem?_append_left (by omega), ← List.getD_eq_getElem?_getD]
          exact this
        · have : i = len := by omega
          subst this
          rw [List.getD_eq_getElem?_getD, List.getElem?_append_right (by omega), h1, Nat.sub_self]
          exact h3
    obtain ⟨l, h1, h2⟩ := hl2
    refine ⟨l, .one rfl ?_, by omega⟩
    rw [h1]
    cases Nat.eq_zero_or_pos len with
    | inl e => subst e; exact .nul _ _ _ _
    | inr e =>
      have hg : ∀ j, j < len * sz → ∃ v, w.cell? (a.add j) = some v ∧ v.oneCell' = true := by
        intro j hj
        obtain ⟨v, q1, q2, _⟩ := h2 (j / sz) (Nat.div_lt_of_lt_mul (by rw [Nat.mul_comm]; exact hj)) (j % sz) (Nat.mod_lt _ hp)
        rw [Nat.mul_comm, Nat.div_add_mod] at q1
        exact ⟨v, q1, q2⟩
      refine .im a len cap sz _ (fun j => (w.cell? (a.add j)).getD undef) (fun h => h) ?_ hl (fun j hj => ?_) (fun j hj => ?_) (fun i _ => hsz _) fun i j hi hj => ?_
      · obtain ⟨v, q1, _⟩ := hg 0 (Nat.mul_pos e hp)
        have := cell_lt q1
        rwa [block_add] at this
      · obtain ⟨v, q1, _⟩ := hg j hj
        rw [q1]
        rfl
      · obtain ⟨v, q1, q2⟩ := hg j hj
        rw [q1]
        exact q2
      · obtain ⟨v, q1, _, q3⟩ := h2 i hi j hj
        rw [q1]
        exact q3
end

theorem wf_i64 {n : Int} (h : (Lit.int .i64 n).wf = true) : -9223372036854775808 ≤ n ∧ n ≤ 9223372036854775807 := by
  simp only [Lit.wf, Bool.and_eq_true, decide_eq_true_eq] at h
  exact h
theorem wf_u8 {n : Int} (h : (Lit.int .u8 n).wf = true) : 0 ≤ n ∧ n ≤ 255 := by
  simp only [Lit.wf, Bool.and_eq_true, decide_eq_true_eq] at h
  exact h

section
variable {H : Type} {enc : TypeId × Value → H} {P : Program}

/-- All arguments read behind the call as before it. -/
theorem trodAll_stays (hl : laidOutB P = true) {W W' : World} (hb : Below W.heap.size W W') {sp : Nat → Bool} : ∀ {ts : List TypeId} {vs : List Value} {ds : List (DataW H)} {ps : List MemPlace}, (∀ t ∈ ts, P.readableRec t = true ∧ t < P.types.size) →
    DataW.TrodAll enc P W 0 (fun _ => true) true ts vs ds ps → (∀ x ∈ ps, x.block < W.heap.size) → (∀ x ∈ ps, sp x.block = true) → DataW.TrodAll enc P W' 0 sp true ts vs ds ps
  | [], [], [], ps, _, h, _, _ => h
  | t :: ts, v :: vs, d :: ds, ps, hr, h, hlt, hs => by
    obtain ⟨p, q, h1, h2, rfl⟩ := h
    have ht := hr t (List.mem_cons_self ..)
    exact ⟨p, q, WideElems.Trod_stays hl ht.1 ht.2 h1 (fun x hx => hb.same (hlt x (List.mem_append_left _ hx))) (fun x hx => hs x (List.mem_append_left _ hx)),
      trodAll_stays hl hb (fun t ht => hr t (List.mem_cons_of_mem _ ht)) h2 (fun x hx => hlt x (List.mem_append_right _ hx)) (fun x hx => hs x (List.mem_append_right _ hx)), rfl⟩
  | [], [], _ :: _, _, _, h, _, _ => h.elim
  | [], _ :: _, _, _, _, h, _, _ => h.elim
  | _ :: _, [], _, _, _, h, _, _ => h.elim
  | _ :: _, _ :: _, [], _, _, h, _, _ => h.elim

/-- THE END OF A LAW: it returned true, and nothing that was there has changed. -/
theorem law_post {f : Func} {s : ChangeSpec} {apart fresh handsOn again : Bool} {W W' : World} {args : Array Value} {ds : List (DataW H)} {before : List MemPlace} {tb : TypeId}
    (hl : laidOutB P = true) (hr : ∀ t ∈ f.params.toList, P.readableRec t = true ∧ t < P.types.size) (hv : s.vars = []) (hrt : f.resultTypes = #[tb]) (hub : P.underlying tb = some .bool)
    (hW : DataW.Whole enc P f.params.toList s.vars apart W args.toList ds [] before) (hf : s.fn H (ds ++ []) = { results := [.lit (.bool true)], args := ds }) (hb : Below W.heap.size W W') :
    s.post enc P f apart fresh handsOn again W args (.bool true) W' := by
  have hlt : ∀ p ∈ before, p.block < W.heap.size := fun p hp => hW.lt p hp
  have hW' := hW
  obtain ⟨pa, pv, hA, hV, hps, hz, hn⟩ := hW
  rw [hv] at hV
  have hpv : pv = [] := hV
  subst hpv
  rw [List.append_nil] at hps
  subst hps
  have hres : ∀ (b : Nat) (sp : Nat → Bool) (hd : Bool), DataW.TrodAll enc P W' b sp hd f.resultTypes.toList ((Value.bool true).resultList f.resultTypes.size) (s.fn H (ds ++ [])).results [] := by
    intro b sp hd
    rw [hf, hrt]
    exact ⟨[], [], shut_bool hub true, rfl, rfl⟩
  have hargs : ∀ sp : Nat → Bool, (∀ p ∈ before, sp p.block = true) → DataW.TrodAll enc P W' 0 sp true f.params.toList args.toList (s.fn H (ds ++ [])).args before := by
    intro sp hs
    rw [hf]
    exact trodAll_stays hl hb hr hA hlt hs
  have hold : ∀ p ∈ before, (fun b => decide (b < W.heap.size)) p.block = true := fun p hp => by simpa using hlt p hp
  refine ⟨ds, [], before, [], before, [], hW', hres _ _ _, hargs _ hold, ?_, World.keptBut_mono (fun p hp => ⟨hp, ?_⟩) (hb.frame (· ∈ before)), fun _ => ?_⟩
  · rw [hv, hf]; exact rfl
  · exact Or.inr (by simpa using hp)
  · refine ⟨?_, _, ([] : List (DataW H)), ([] ++ before) ++ [], ⟨[] ++ before, [], trodAll_append (hargs _ (fun _ _ => rfl)) (hres _ _ _), ?_, rfl, ?_, ?_⟩, ?_⟩
    · exact ok_one hrt rfl (okWide_bool_mk hub true)
    · rw [hv]; exact rfl
    · intro b off hp
      have hin : MemPlace.cell b off ∈ before := by simpa using hp
      rw [hb.frozen (hlt _ hin)]
      exact hz b off hin
    · intro ha
      simpa using hn ha
    · intro p hp _
      simpa using hp
end
end Go.Am
