/- Merged texts: D18 BmU BmV D19 BmW BmX D20 D21 P3 P4 D24 P7 D25 D26 BmY BmZ. -/
import Derived.Test.YtfgklagkpfhlkaaGreatDoorG3
import Derived.Defers
import Derived.Recover
import Derived.Below
import Derived.Carry
import Derived.ChangeSame
import Derived.ProofKit
import Derived.OpenShut
set_option linter.unusedVariables false
set_option linter.unusedSimpArgs false
/- What the parser reads: plain. No condition. -/
namespace Go.Am
open Go.Proofs

inductive PR (α : Type) where
  | ok (x : α) (k : Nat)
  | err (e : Int)

def numS (s : ByteArray) (k : Nat) : PR Int :=
  if (numTo s k).2 = false then .err 8 else if (numTo s k).1 = numFst s k then .err (failAt s (numFst s k)) else .ok (numB (s.extract k (numTo s k).1)).1 (numTo s k).1
/-- The name's beginning behind a bracket. -/
def nameAt (s : ByteArray) (k : Nat) : Nat := if isAt s (k + 1) 43 then k + 2 else k + 1
/-- Lexical or not, the name, from, to. -/
def headS (s : ByteArray) (k : Nat) : PR (Bool × ByteArray × Int × Int) :=
  if isAt s k 40 = false then .err (failAt s k) else
  if nameTo s (nameAt s k) = nameAt s k then .err (failAt s (nameAt s k)) else
  if isAt s (nameTo s (nameAt s k)) 32 = false then .err (failAt s (nameTo s (nameAt s k))) else
  match numS s (nameTo s (nameAt s k) + 1) with
  | .err e => .err e
  | .ok f k3 => if isAt s k3 32 = false then .err (failAt s k3) else
    match numS s (k3 + 1) with
    | .err e => .err e
    | .ok t k4 => .ok (isAt s (k + 1) 43, s.extract (nameAt s k) (nameTo s (nameAt s k)), f, t) k4
def kidsS (rd : Nat → PR Dv) (s : ByteArray) (lex : Bool) : Nat → List Dv → Nat → PR (List Dv)
  | 0, acc, k => .ok acc k
  | n + 1, acc, k => if isAt s k 32 && (!lex || acc.isEmpty) then (match rd (k + 1) with
      | .err e => .err e
      | .ok d k' => kidsS rd s lex n (acc ++ [d]) k') else .ok acc k
def kindS (lex : Bool) (ks : List Dv) : Int := if lex then 1 else if ks.isEmpty then 0 else 2
/-- The bracket at the end. -/
def tailS (s : ByteArray) (h : Bool × ByteArray × Int × Int) (ks : List Dv) (k : Nat) : PR Dv :=
  if (h.1 && ks.isEmpty) = true then .err (failAt s k) else if isAt s k 41 = false then .err (failAt s k) else .ok (.mk (kindS h.1 ks) h.2.1 h.2.2.1 h.2.2.2 ks) (k + 1)
def nodeS (s : ByteArray) : Nat → Nat → PR Dv
  | 0, k => if isAt s k 40 then .err 7 else .err (failAt s k)
  | deep + 1, k => match headS s k with
    | .err e => .err e
    | .ok h k4 => match kidsS (nodeS s deep) s h.1 (s.size - k4) [] k4 with
      | .err e => .err e
      | .ok ks k5 => tailS s h ks k5
/-- What Parse answers: the derivation, or the error. -/
def parseS (s : ByteArray) : Dv × Int := match nodeS s 64 0 with
  | .err e => (default, e)
  | .ok d k => if k < s.size then (default, 8) else (d, 0)

theorem isAt_lt {s : ByteArray} {k : Nat} {c : UInt8} (h : isAt s k c = true) : k < s.size := by
  simp only [isAt, Bool.and_eq_true, decide_eq_true_eq] at h
  exact h.1
theorem numEnd_le (s : ByteArray) (a : Nat) : ∀ n k, k ≤ s.size → k ≤ (numEnd s a n k).1 ∧ (numEnd s a n k).1 ≤ s.size
  | 0, k, h => ⟨Nat.le_refl _, h⟩
  | n + 1, k, h => by
    rw [numEnd]
    split
    · rename_i hd
      have hk : k < s.size := by
        simp only [digAt, Bool.and_eq_true, decide_eq_true_eq] at hd
        exact hd.1.1
      split
      · exact ⟨by dsimp only; omega, by dsimp only; omega⟩
      · have := numEnd_le s a n (k + 1) (by omega)
        omega
    · exact ⟨Nat.le_refl _, h⟩
theorem numFst_le {s : ByteArray} {k : Nat} (h : k ≤ s.size) : k ≤ numFst s k ∧ numFst s k ≤ s.size := by
  unfold numFst
  split
  · rename_i hi
    have := isAt_lt hi
    omega
  · omega
theorem numTo_le {s : ByteArray} {k : Nat} (h : k ≤ s.size) : numFst s k ≤ (numTo s k).1 ∧ (numTo s k).1 ≤ s.size := numEnd_le _ _ _ _ (numFst_le h).2
theorem numS_le {s : ByteArray} {k k' : Nat} {v : Int} (hk : k ≤ s.size) (h : numS s k = .ok v k') : k < k' ∧ k' ≤ s.size := by
  have h1 := numFst_le hk
  have h2 := numTo_le hk
  unfold numS at h
  split at h
  · cases h
  · split at h
    · cases h
    · rename_i h3
      injection h with h4 h5
      omega
theorem nameAt_le {s : ByteArray} {k : Nat} (h : isAt s k 40 = true) : k < nameAt s k ∧ nameAt s k ≤ s.size := by
  have := isAt_lt h
  unfold nameAt
  split
  · rename_i hi
    have := isAt_lt hi
    omega
  · omega
theorem nameTo_le {s : ByteArray} {k : Nat} (h : k ≤ s.size) : k ≤ nameTo s k ∧ nameTo s k ≤ s.size := by
  have := nameEnd_le s k (s.size - k) k
  exact ⟨this.1, this.2 h⟩
theorem headS_le {s : ByteArray} {k k' : Nat} {x : Bool × ByteArray × Int × Int} (h : headS s k = .ok x k') : k < k' ∧ k' ≤ s.size := by
  unfold headS at h
  split at h
  · cases h
  · rename_i h1
    have h1 : isAt s k 40 = true := by simpa using h1
    have n1 := nameAt_le h1
    have n2 := nameTo_le n1.2
    split at h
    · cases h
    · split at h
      · cases h
      · rename_i h3
        have h3 := isAt_lt (by simpa using h3 : isAt s (nameTo s (nameAt s k)) 32 = true)
        split at h
        · cases h
        · rename_i f k3 e3
          have n3 := numS_le (by omega) e3
          split at h
          · cases h
          · rename_i h4
            have h4 := isAt_lt (by simpa using h4 : isAt s k3 32 = true)
            split at h
            · cases h
            · rename_i t k4 e4
              have n4 := numS_le (by omega) e4
              injection h with _ h
              omega
theorem kidsS_le {rd : Nat → PR Dv} {s : ByteArray} {lex : Bool} (hrd : ∀ k d k', rd k = .ok d k' → k < k' ∧ k' ≤ s.size) : ∀ (n : Nat) (acc : List Dv) (k : Nat) (ks : List Dv) (k' : Nat), k ≤ s.size → kidsS rd s lex n acc k = .ok ks k' → k ≤ k' ∧ k' ≤ s.size
  | 0, acc, k, ks, k', hk, h => by
    simp only [kidsS, PR.ok.injEq] at h
    omega
  | n + 1, acc, k, ks, k', hk, h => by
    rw [kidsS] at h
    split at h
    · split at h
      · cases h
      · rename_i d k1 e1
        have h1 := hrd _ _ _ e1
        have := kidsS_le hrd n _ _ _ _ h1.2 h
        omega
    · simp only [PR.ok.injEq] at h
      omega
theorem tailS_le {s : ByteArray} {x : Bool × ByteArray × Int × Int} {ks : List Dv} {k k' : Nat} {d : Dv} (h : tailS s x ks k = .ok d k') : k' = k + 1 ∧ k < s.size := by
  unfold tailS at h
  split at h
  · cases h
  · split at h
    · cases h
    · rename_i h1
      injection h with _ h
      exact ⟨h.symm, isAt_lt (by simpa using h1)⟩
theorem nodeS_le {s : ByteArray} : ∀ (deep k : Nat) (d : Dv) (k' : Nat), nodeS s deep k = .ok d k' → k < k' ∧ k' ≤ s.size
  | 0, k, d, k', h => by
    rw [nodeS] at h
    split at h <;> cases h
  | deep + 1, k, d, k', h => by
    rw [nodeS] at h
    split at h
    · cases h
    · rename_i x k4 e1
      have h1 := headS_le e1
      split at h
      · cases h
      · rename_i ks k5 e2
        have h2 := kidsS_le (nodeS_le deep) _ _ _ _ _ h1.2 e2
        have h3 := tailS_le h
        omega
/-- The loop's fuel is enough: one more round. -/
theorem kidsS_step {rd : Nat → PR Dv} {s : ByteArray} {lex : Bool} {acc : List Dv} {k : Nat} (hk : k < s.size) : kidsS rd s lex (s.size - k) acc k = if isAt s k 32 && (!lex || acc.isEmpty) then (match rd (k + 1) with
      | .err e => .err e
      | .ok d k' => kidsS rd s lex (s.size - k - 1) (acc ++ [d]) k') else .ok acc k := by
  rw [show s.size - k = (s.size - k - 1) + 1 by omega, kidsS]
  rfl
/-- More fuel than bytes is of no use. -/
theorem kidsS_fuel {rd : Nat → PR Dv} {s : ByteArray} {lex : Bool} (hrd : ∀ k d k', rd k = .ok d k' → k < k' ∧ k' ≤ s.size) : ∀ (n m : Nat) (acc : List Dv) (k : Nat), s.size - k ≤ n → s.size - k ≤ m → kidsS rd s lex n acc k = kidsS rd s lex m acc k
  | 0, m, acc, k, h1, h2 => by
    cases m with
    | zero => rfl
    | succ m =>
      have h : isAt s k 32 = false := by
        cases h : isAt s k 32 with
        | false => rfl
        | true => have := isAt_lt h; omega
      simp [kidsS, h]
  | n + 1, 0, acc, k, h1, h2 => by
    have h : isAt s k 32 = false := by
      cases h : isAt s k 32 with
      | false => rfl
      | true => have := isAt_lt h; omega
    simp [kidsS, h]
  | n + 1, m + 1, acc, k, h1, h2 => by
    rw [kidsS, kidsS]
    split
    · split
      · rfl
      · rename_i d k' e
        have := hrd _ _ _ e
        exact kidsS_fuel hrd n m _ _ (by omega) (by omega)
    · rfl
end Go.Am

/- The abstract machine, part 30: a drawn region, order by order: a region may hold calls that are handed objects anywhere. Generic over the program; no condition. -/
namespace Go.Am
open Go.RowKit

/-- The rest of a drawn region: what is listed has been carried out. -/
def AAny [Glb] (P : Program) (nt : Nat) (fo : List Nat) (ops : Array Oper) (Q : APost) (fuel : Nat) (listed : Array Bool) (s : Slots) (h : AH) : Prop :=
  ∀ (E : Env) (a : Act) (w : World), E.In fo → Rel E nt s h a w → wpAny P .any ops (fun e a' w' => ∃ s' h', Q e s' h' ∧ Rel E nt s' h' a' w') fuel listed a w

/-- Each of these operations may come next. -/
def AAll [Glb] (P : Program) (nt : Nat) (fo : List Nat) (ops : Array Oper) (Q : APost) (fuel : Nat) (listed : Array Bool) (s : Slots) (h : AH) : List Nat → Prop
  | [] => True
  | i :: r => (∃ o, ops[i]? = some o ∧ AWpL P nt fo ops [o] (thenQ (AAny P nt fo ops Q fuel (listed.setIfInBounds i true)) Q) s h) ∧ AAll P nt fo ops Q fuel listed s h r

section
variable {P : Program} {nt : Nat} {fo : List Nat} {ops : Array Oper} {Q : APost} {s : Slots} {h : AH} {listed : Array Bool} {fuel : Nat}

theorem aall_mem [Glb] : ∀ {l : List Nat}, AAll P nt fo ops Q fuel listed s h l → ∀ i ∈ l, ∃ o, ops[i]? = some o ∧ AWpL P nt fo ops [o] (thenQ (AAny P nt fo ops Q fuel (listed.setIfInBounds i true)) Q) s h
  | [], _, i, hi => by cases hi
  | j :: r, ⟨h1, h2⟩, i, hi => by
    rcases List.mem_cons.1 hi with rfl | hi
    · exact h1
    · exact aall_mem h2 i hi

theorem aany_step [Glb] (l : List Nat) (hr : Region.ready .any ops listed = l) (hne : l ≠ []) (ha : AAll P nt fo ops Q fuel listed s h l) : AAny P nt fo ops Q (fuel + 1) listed s h := by
  intro E a w I R
  refine ⟨fun he => absurd (hr.symm.trans he) hne, fun i hi => ?_⟩
  rw [hr] at hi
  obtain ⟨o, ho, hw⟩ := aall_mem ha i hi
  have := hw E a w I R
  unfold wpList at this
  unfold wpOp
  rw [ho]
  simp only
  split at this
  · rename_i hc
    rw [if_pos hc]
    rcases this with q | q
    · refine .inl (wp_change (Q1 := fun e a' w' => ∃ s' h', thenQ (AAny P nt fo ops Q fuel (listed.setIfInBounds i true)) Q e s' h' ∧ Rel E nt s' h' a' w') (fun a' w' q => ?_) (fun c a' w' q => q) (fun ⟨a', w', q⟩ => ⟨a', w', q⟩) q)
      obtain ⟨s', h', q1, R'⟩ := q
      exact q1 E a' w' I R'
    · exact .inr ⟨q.1, q.2⟩
  · rename_i hc
    rw [if_neg hc]
    obtain ⟨s', h', q1, R'⟩ := this
    exact q1 E _ w I R'

theorem aany_end [Glb] (hr : Region.ready .any ops listed = []) (hq : Q .normal s h) : AAny P nt fo ops Q fuel listed s h := by
  intro E a w I R
  cases fuel with
  | zero => exact ⟨hr, s, h, hq, R⟩
  | succ fuel => exact ⟨fun _ => ⟨s, h, hq, R⟩, fun i hi => by rw [hr] at hi; cases hi⟩

theorem awp_any [Glb] (hf : P.follows .mixedOrders = true) {id : Nat} {ops : List Oper} (hr : AAny P nt fo ops.toArray Q ops.length (Array.replicate ops.length false) s h) : AWp P nt fo (.region id ops.toArray true) Q s h := by
  intro E a w I ⟨gs, R⟩
  refine wp_region_any hf ?_
  have := hr E a { w with drawn := w.drawn + 1 } I ⟨gs, R.grow ⟨rfl, rfl, rfl, Nat.le_refl _, fun _ _ => rfl⟩⟩
  simpa using this

theorem awp_seq_any [Glb] (hf : P.follows .mixedOrders = true) {id : Nat} {ops : List Oper} {y : Code} (hr : AAny P nt fo ops.toArray (thenQ (AWp P nt fo y Q) Q) ops.length (Array.replicate ops.length false) s h) : AWp P nt fo (.seq (.region id ops.toArray true) y) Q s h := awp_seq (awp_any hf hr)
end
end Go.Am

/- The abstract machine, part 31: a drawn region by one obligation for each operation, whatever has been carried out before it. Calls that are handed objects may stand anywhere; one that never returns ('dead') too. Generic over the program; no condition. -/
namespace Go.Am
open Go.RowKit

def upEdges (ops : Array Oper) : Bool := ops.toList.zipIdx.all fun p => p.1.after.toList.all fun e => !Region.binds .any e || decide (e.on < p.2)
def dstsOk (ops : Array Oper) : Bool := (List.range ops.size).all fun i => (List.range ops.size).all fun j => i == j || (match dstAt ops i, dstAt ops j with
  | some a, some b => a != b
  | _, _ => true)

/-- What has been carried out (L) when operation i comes next. -/
structure Fam (ops : Array Oper) (dead : Nat → Bool) (L : Nat → Bool) (i : Nat) : Prop where
  out : L i = false
  ready : ∀ o e, ops[i]? = some o → e ∈ o.after.toList → Region.binds .any e = true → L e.on = true
  closed : ∀ j o e, ops[j]? = some o → L j = true → e ∈ o.after.toList → Region.binds .any e = true → L e.on = true
  alive : ∀ j, dead j = true → L j = false

section
variable {ops : Array Oper} {xs : Nat → AV} {es : Nat → Option (Nat × AObj)} {s0 : Nat → AV} {h0 : AH} {dead : Nat → Bool} {L : Nat → Bool}

theorem dstsOk_spec (hd : dstsOk ops = true) {i j : Nat} {t : Tmp} (hi : dstAt ops i = some t) (hj : dstAt ops j = some t) : i = j := by
  have lt : ∀ i, dstAt ops i = some t → i < ops.size := fun i h => by
    unfold dstAt at h
    rcases Nat.lt_or_ge i ops.size with q | q
    · exact q
    · rw [Array.getElem?_eq_none q] at h; cases h
  unfold dstsOk at hd
  rw [List.all_eq_true] at hd
  have h1 := hd i (List.mem_range.2 (lt i hi))
  rw [List.all_eq_true] at h1
  have h2 := h1 j (List.mem_range.2 (lt j hj))
  rw [hi, hj] at h2
  simpa using h2

theorem SL_get (hd : dstsOk ops = true) {j t : Nat} (hj : dstAt ops j = some t) : ∀ k, SL ops xs s0 L k t = if j < k ∧ L j = true then xs j else s0 t
  | 0 => by simp [SL]
  | k + 1 => by
    have ih := SL_get hd hj k
    simp only [SL]
    by_cases hk : k = j
    · subst hk
      rw [if_neg (by omega)] at ih
      cases hl : L k with
      | true => simp [updO, hj, upd]
      | false => simpa using ih
    · have hne : ¬ dstAt ops k = some t := fun e => hk (dstsOk_spec hd e hj)
      have e : ∀ q : Prop, (j < k + 1 ∧ q) = (j < k ∧ q) := fun q => by
        have : (j < k + 1) = (j < k) := propext ⟨fun _ => by omega, fun _ => by omega⟩
        rw [this]
      simp only [e]
      split
      · rw [updO_ne hne]; exact ih
      · exact ih
theorem SL_no {t : Nat} (h : ((List.range ops.size).all fun j => dstAt ops j != some t) = true) : ∀ k, k ≤ ops.size → SL ops xs s0 L k t = s0 t
  | 0, _ => rfl
  | k + 1, hk => by
    have ih := SL_no h k (by omega)
    rw [List.all_eq_true] at h
    have hne : ¬ dstAt ops k = some t := by
      have := h k (List.mem_range.2 (by omega))
      simpa using this
    simp only [SL]
    split
    · rw [updO_ne hne]; exact ih
    · exact ih
/-- A slot of an operation that has been carried out. -/
theorem sl_in (hd : dstsOk ops = true) (j : Nat) {t : Nat} (hj : dstAt ops j = some t) (hl : L j = true) : SL ops xs s0 L ops.size t = xs j := by
  have lt : j < ops.size := by
    unfold dstAt at hj
    rcases Nat.lt_or_ge j ops.size with q | q
    · exact q
    · rw [Array.getElem?_eq_none q] at hj; cases hj
  rw [SL_get hd hj, if_pos ⟨lt, hl⟩]
theorem sl_out {t : Nat} (h : ((List.range ops.size).all fun j => dstAt ops j != some t) = true) : SL ops xs s0 L ops.size t = s0 t := SL_no h _ (Nat.le_refl _)

theorem HL_get (he : ∀ i j ob, effOn es i ob → effOn es j ob → i = j) {j ob : Nat} {x' : AObj} (hj : es j = some (ob, x')) : ∀ k, HL es h0 L k ob = if j < k ∧ L j = true then x' else h0 ob
  | 0 => by simp [HL]
  | k + 1 => by
    have ih := HL_get he hj k
    simp only [HL]
    by_cases hk : k = j
    · subst hk
      rw [if_neg (by omega)] at ih
      cases hl : L k with
      | true => simp [appE, hj, upd]
      | false => simpa using ih
    · have hne : ¬ effOn es k ob := fun e => hk (he _ _ _ e ⟨x', hj⟩)
      have e : ∀ q : Prop, (j < k + 1 ∧ q) = (j < k ∧ q) := fun q => by
        have : (j < k + 1) = (j < k) := propext ⟨fun _ => by omega, fun _ => by omega⟩
        rw [this]
      simp only [e]
      split
      · rw [appE_other hne]; exact ih
      · exact ih
end

section
variable {P : Program} {nt : Nat} {fo : List Nat} {Q : APost} {s : Slots} {h : AH}

def FamAll [Glb] (P : Program) (nt : Nat) (fo : List Nat) (ops : Array Oper) (Q : APost) (dead : Nat → Bool) (xs : Nat → AV) (es : Nat → Option (Nat × AObj)) (s : Slots) (h : AH) : Nat → List Oper → Prop
  | _, [] => True
  | i, o :: r => (∀ L, Fam ops dead L i → AWpL P nt fo ops [o] (thenQ (fun s' h' => dead i = false ∧ s' = updO (SL ops xs s L ops.size) o.dst (xs i) ∧ h' = appE (HL es h L ops.size) (es i)) Q) (SL ops xs s L ops.size) (HL es h L ops.size)) ∧ FamAll P nt fo ops Q dead xs es s h (i + 1) r

theorem famAll_get [Glb] {ops : Array Oper} {dead : Nat → Bool} {xs : Nat → AV} {es : Nat → Option (Nat × AObj)} : ∀ {l : List Oper} {k : Nat}, FamAll P nt fo ops Q dead xs es s h k l → ∀ i o, l[i]? = some o → ∀ L, Fam ops dead L (k + i) →
    AWpL P nt fo ops [o] (thenQ (fun s' h' => dead (k + i) = false ∧ s' = updO (SL ops xs s L ops.size) o.dst (xs (k + i)) ∧ h' = appE (HL es h L ops.size) (es (k + i))) Q) (SL ops xs s L ops.size) (HL es h L ops.size)
  | [], k, _, i, o, hi, _, _ => by simp at hi
  | o' :: r, k, hf, 0, o, hi, L, F => by
    simp only [List.getElem?_cons_zero, Option.some.injEq] at hi
    subst hi
    exact hf.1 L F
  | o' :: r, k, hf, i + 1, o, hi, L, F => by
    have := famAll_get hf.2 i o (by simpa using hi) L (by rw [show k + 1 + i = k + (i + 1) by omega]; exact F)
    rw [show k + 1 + i = k + (i + 1) by omega] at this
    exact this

theorem aany_fam [Glb] {ops : Array Oper} {xs : Nat → AV} {es : Nat → Option (Nat × AObj)} (dead : Nat → Bool) (hu : upEdges ops = true) (hd : dstsOk ops = true) (he : ∀ i j ob, effOn es i ob → effOn es j ob → i = j)
    (step : FamAll P nt fo ops Q dead xs es s h 0 ops.toList) (fin : (∀ i, i < ops.size → dead i = false) → Q .normal (SL ops xs s (fun _ => true) ops.size) (HL es h (fun _ => true) ops.size)) :
    AAny P nt fo ops Q ops.size (Array.replicate ops.size false) s h := by
  have up : ∀ i o e, ops[i]? = some o → e ∈ o.after.toList → Region.binds .any e = true → e.on < i := by
    intro i o e ho hm hb
    unfold upEdges at hu
    rw [List.all_eq_true] at hu
    have h1 := hu (o, i) (by rw [List.mem_zipIdx_iff_getElem?]; simpa using ho)
    rw [List.all_eq_true] at h1
    have h2 := h1 e hm
    rw [hb] at h2
    simpa using h2
  have allL : ∀ {listed : Array Bool}, listed.size = ops.size → Region.ready .any ops listed = [] → ∀ j, j < ops.size → lset listed j = true := by
    intro listed hsz hr j
    induction j using Nat.strongRecOn with
    | _ j ih =>
      intro hj
      cases hl : lset listed j with
      | true => rfl
      | false =>
        exfalso
        have hm : j ∈ Region.ready .any ops listed := by
          unfold Region.ready
          rw [List.mem_filter]
          refine ⟨by simpa using hj, ?_⟩
          have hl' : listed.getD j true = false := by
            unfold lset at hl
            have : j < listed.size := by omega
            simp only [Array.getD, this, dite_true] at hl ⊢
            exact hl
          simp only [Bool.and_eq_true, Bool.not_eq_true', hl', Array.getElem?_eq_getElem hj, Option.map_some, Option.getD_some, Array.all_eq_true_iff_forall_mem, Bool.or_eq_true, true_and]
          intro e he'
          cases hb : Region.binds .any e with
          | false => exact .inl rfl
          | true =>
            have hlt := up j _ e (Array.getElem?_eq_getElem hj) (Array.mem_toList_iff.2 he') hb
            exact .inr (ih e.on hlt (by omega))
        rw [hr] at hm
        cases hm
  have main : ∀ (fuel : Nat) (listed : Array Bool), listed.size = ops.size → listed.toList.count false ≤ fuel →
      (∀ i o e, ops[i]? = some o → lset listed i = true → e ∈ o.after.toList → Region.binds .any e = true → lset listed e.on = true) → (∀ j, dead j = true → lset listed j = false) →
      AAny P nt fo ops Q fuel listed (SL ops xs s (lset listed) ops.size) (HL es h (lset listed) ops.size) := by
    have done : ∀ (fuel : Nat) (listed : Array Bool), listed.size = ops.size → (∀ j, dead j = true → lset listed j = false) → Region.ready .any ops listed = [] → AAny P nt fo ops Q fuel listed (SL ops xs s (lset listed) ops.size) (HL es h (lset listed) ops.size) := by
      intro fuel listed hsz hal hr
      have hall := allL hsz hr
      have e1 : SL ops xs s (lset listed) ops.size = SL ops xs s (fun _ => true) ops.size := funext fun t => by
        have := SL_agree (ops := ops) (xs := xs) (s0 := s) (L := lset listed) (i := ops.size) (t := t) ops.size fun j hj _ => by rw [hall j hj]; simp [hj]
        rwa [Nat.min_self] at this
      have e2 : HL es h (lset listed) ops.size = HL es h (fun _ => true) ops.size := funext fun o => by
        have := HL_agree (es := es) (h0 := h) (L := lset listed) (i := ops.size) (o := o) ops.size fun j hj _ => by rw [hall j hj]; simp [hj]
        rwa [Nat.min_self] at this
      refine aany_end hr ?_
      rw [e1, e2]
      refine fin fun i hi => ?_
      cases hdi : dead i with
      | false => rfl
      | true =>
        have := hal i hdi
        rw [hall i hi] at this
        cases this
    intro fuel
    induction fuel with
    | zero =>
      intro listed hsz hcount hcl hal
      refine done 0 listed hsz hal ?_
      cases hr : Region.ready .any ops listed with
      | nil => rfl
      | cons i l =>
        exfalso
        obtain ⟨o, h1, h2, h3, h4⟩ := ready_spec (listed := listed) (i := i) (by rw [hr]; simp)
        have hi : i < listed.size := by omega
        have : listed.toList.count false ≠ 0 := by
          have hm : false ∈ listed.toList := by
            simp only [Array.getD, hi, dite_true, Array.getInternal_eq_getElem] at h3
            rw [← h3]
            exact Array.mem_toList_iff.2 (Array.getElem_mem hi)
          exact Nat.ne_of_gt (List.count_pos_iff.2 hm)
        omega
    | succ fuel ih =>
      intro listed hsz hcount hcl hal
      by_cases hr : Region.ready .any ops listed = []
      · exact done _ listed hsz hal hr
      refine aany_step _ rfl hr ?_
      have key : ∀ i ∈ Region.ready .any ops listed, ∃ o, ops[i]? = some o ∧ AWpL P nt fo ops [o] (thenQ (AAny P nt fo ops Q fuel (listed.setIfInBounds i true)) Q) (SL ops xs s (lset listed) ops.size) (HL es h (lset listed) ops.size) := by
        intro i hi
        obtain ⟨o, ho, hlt, h3, h4⟩ := ready_spec hi
        have hil : i < listed.size := by omega
        have hLi : lset listed i = false := by
          unfold lset
          simp only [Array.getD, hil, dite_true, Array.getInternal_eq_getElem] at h3 ⊢
          exact h3
        have hset : lset (listed.setIfInBounds i true) = fun j => decide (j = i) || lset listed j := funext fun j => by
          unfold lset
          simp only [Array.getD_eq_getD_getElem?]
          by_cases hji : j = i
          · subst hji
            simp [hil]
          · rw [Array.getElem?_setIfInBounds_ne (Ne.symm hji)]
            simp [hji]
        have F : Fam ops dead (lset listed) i := ⟨hLi, fun o' e ho' hm hb => by
          rw [ho] at ho'
          injection ho' with ho'
          subst ho'
          exact h4 e hm hb, hcl, hal⟩
        have hs := famAll_get step i o (by simpa using ho) (lset listed) (by rw [Nat.zero_add]; exact F)
        rw [Nat.zero_add] at hs
        refine ⟨o, ho, fun E a w I R => ?_⟩
        have hw := hs E a w I R
        have go : ∀ (a' : Act) (w' : World), (∃ s' h', (dead i = false ∧ s' = updO (SL ops xs s (lset listed) ops.size) o.dst (xs i) ∧ h' = appE (HL es h (lset listed) ops.size) (es i)) ∧ Rel E nt s' h' a' w') → ∃ s' h', AAny P nt fo ops Q fuel (listed.setIfInBounds i true) s' h' ∧ Rel E nt s' h' a' w' := by
          rintro a' w' ⟨s', h', ⟨hdi, rfl, rfl⟩, R'⟩
          refine ⟨_, _, ?_, R'⟩
          have hal' : ∀ j, dead j = true → lset (listed.setIfInBounds i true) j = false := fun j hj => by
            rw [hset]
            simp only [Bool.or_eq_false_iff, decide_eq_false_iff_not]
            exact ⟨fun e => (by subst e; rw [hdi] at hj; cases hj), hal j hj⟩
          have hcnt : (listed.setIfInBounds i true).toList.count false ≤ fuel := by
            have h5 : listed.toList[i]'(by simpa using hil) = false := by
              simp only [Array.getD, hil, dite_true, Array.getInternal_eq_getElem] at h3
              simpa using h3
            rw [Array.toList_setIfInBounds, List.count_set (by simpa using hil)]
            simp only [h5]
            have : (if (false == false) = true then 1 else 0) = 1 := rfl
            rw [this]
            have : (if (true == false) = true then 1 else 0) = 0 := rfl
            rw [this]
            omega
          have hcl' : ∀ i' o' e, ops[i']? = some o' → lset (listed.setIfInBounds i true) i' = true → e ∈ o'.after.toList → Region.binds .any e = true → lset (listed.setIfInBounds i true) e.on = true := by
            intro i' o' e g1 h2 h5 h6
            rw [hset] at h2 ⊢
            simp only [Bool.or_eq_true, decide_eq_true_eq] at h2 ⊢
            rcases h2 with rfl | h2
            · rw [ho] at g1
              injection g1 with g1
              subst g1
              exact .inr (h4 e h5 h6)
            · exact .inr (hcl i' o' e g1 h2 h5 h6)
          have := ih (listed.setIfInBounds i true) (by simpa using hsz) hcnt hcl' hal'
          rw [hset] at this
          rw [SL_join ops.size (fun j h1 h2 t h5 h6 => absurd (dstsOk_spec hd h5 h6) (by omega)) hLi, if_pos hlt, HL_join ops.size (fun j h1 h2 ob h5 h6 => absurd (he _ _ _ h5 h6) (by omega)) hLi, if_pos hlt] at this
          have e : dstAt ops i = o.dst := by simp [dstAt, ho]
          rw [e] at this
          exact this
        unfold wpList at hw ⊢
        split at hw
        · rename_i hc
          rw [if_pos hc]
          rcases hw with q | q
          · exact .inl (wp_change (Q1 := fun e a' w' => ∃ s' h', thenQ (fun s' h' => dead i = false ∧ s' = updO (SL ops xs s (lset listed) ops.size) o.dst (xs i) ∧ h' = appE (HL es h (lset listed) ops.size) (es i)) Q e s' h' ∧ Rel E nt s' h' a' w') (fun a' w' q => go a' w' q) (fun c a' w' q => q) (fun ⟨a', w', q⟩ => ⟨a', w', q⟩) q)
          · exact .inr ⟨q.1, q.2⟩
        · rename_i hc
          rw [if_neg hc]
          exact go _ _ hw
      revert key
      generalize Region.ready .any ops listed = l
      intro key
      induction l with
      | nil => trivial
      | cons i r ihl => exact ⟨key i (List.mem_cons_self ..), ihl fun j hj => key j (List.mem_cons_of_mem _ hj)⟩
  have hno : ∀ j, lset (Array.replicate ops.size false) j = false := fun j => by
    unfold lset
    simp only [Array.getD_eq_getD_getElem?]
    by_cases hj : j < ops.size <;> simp [hj]
  have := main ops.size (Array.replicate ops.size false) (by simp) (by simp) (fun i o e _ hl => by rw [hno] at hl; cases hl) (fun j _ => hno j)
  have f1 : ∀ k, SL ops xs s (lset (Array.replicate ops.size false)) k = s := by
    intro k
    induction k with
    | zero => rfl
    | succ k ih => simp only [SL, hno, Bool.false_eq_true, if_false, ih]
  have f2 : ∀ k, HL es h (lset (Array.replicate ops.size false)) k = h := by
    intro k
    induction k with
    | zero => rfl
    | succ k ih => simp only [HL, hno, Bool.false_eq_true, if_false, ih]
  rw [f1, f2] at this
  exact this

theorem awp_seq_fam [Glb] (hf : P.follows .mixedOrders = true) {id : Nat} {ops : List Oper} {y : Code} (xs : Nat → AV) (es : Nat → Option (Nat × AObj)) (dead : Nat → Bool) (hu : upEdges ops.toArray = true) (hd : dstsOk ops.toArray = true) (he : ∀ i j ob, effOn es i ob → effOn es j ob → i = j)
    (step : FamAll P nt fo ops.toArray (thenQ (AWp P nt fo y Q) Q) dead xs es s h 0 ops) (fin : (∀ i, i < ops.length → dead i = false) → AWp P nt fo y Q (SL ops.toArray xs s (fun _ => true) ops.length) (HL es h (fun _ => true) ops.length)) : AWp P nt fo (.seq (.region id ops.toArray true) y) Q s h := by
  refine awp_seq_any hf ?_
  have := aany_fam (P := P) (nt := nt) (fo := fo) (Q := thenQ (AWp P nt fo y Q) Q) (s := s) (h := h) (ops := ops.toArray) dead hu hd he (by simpa using step) (fun hh => by simpa [thenQ] using fin (by simpa using hh))
  simpa using this
end

section
variable {ops : Array Oper} {dead : Nat → Bool} {L : Nat → Bool} {i : Nat}
/-- What operation i waits for has been carried out. -/
theorem Fam.dep (F : Fam ops dead L i) (j : Nat) {o : Oper} (ho : ops[i]? = some o) (hj : (o.after.toList.any fun e => Region.binds .any e && e.on == j) = true) : L j = true := by
  rw [List.any_eq_true] at hj
  obtain ⟨e, he, hb⟩ := hj
  rw [Bool.and_eq_true, beq_iff_eq] at hb
  rw [← hb.2]
  exact F.ready o e ho he hb.1
/-- What waits for operation i has not. -/
theorem Fam.aft (F : Fam ops dead L i) (j : Nat) {o : Oper} (ho : ops[j]? = some o) (hj : (o.after.toList.any fun e => Region.binds .any e && e.on == i) = true) : L j = false := by
  rw [List.any_eq_true] at hj
  obtain ⟨e, he, hb⟩ := hj
  rw [Bool.and_eq_true, beq_iff_eq] at hb
  cases hl : L j with
  | false => rfl
  | true =>
    have := F.closed j o e ho hl he hb.1
    rw [hb.2, F.out] at this
    cases this

/-- Effects as a list: operation, object, what it is made. -/
def effL (l : List (Nat × Nat × AObj)) (k : Nat) : Option (Nat × AObj) := (l.find? (fun p => p.1 == k)).map fun p => p.2
def effOk : List (Nat × Nat × AObj) → Bool
  | [] => true
  | p :: r => (r.all fun q => q.2.1 != p.2.1) && effOk r
theorem effOk_inj : ∀ {l : List (Nat × Nat × AObj)}, effOk l = true → ∀ p ∈ l, ∀ q ∈ l, p.2.1 = q.2.1 → p = q
  | [], _, p, hp, _, _, _ => by cases hp
  | a :: r, h, p, hp, q, hq, e => by
    rw [effOk, Bool.and_eq_true, List.all_eq_true] at h
    rcases List.mem_cons.1 hp with rfl | hp' <;> rcases List.mem_cons.1 hq with rfl | hq'
    · rfl
    · have := h.1 q hq'
      rw [e] at this
      simp at this
    · have := h.1 p hp'
      rw [e] at this
      simp at this
    · exact effOk_inj h.2 p hp' q hq' e
theorem effL_uniq {l : List (Nat × Nat × AObj)} (h : effOk l = true) : ∀ i j ob, effOn (effL l) i ob → effOn (effL l) j ob → i = j := by
  rintro i j ob ⟨x, hx⟩ ⟨y, hy⟩
  unfold effL at hx hy
  rw [Option.map_eq_some_iff] at hx hy
  obtain ⟨p, hp, ep⟩ := hx
  obtain ⟨q, hq, eq⟩ := hy
  have e := effOk_inj h p (List.mem_of_find?_eq_some hp) q (List.mem_of_find?_eq_some hq) (by rw [ep, eq])
  have h1 := List.find?_some hp
  have h2 := List.find?_some hq
  simp only [beq_iff_eq] at h1 h2
  rw [← h1, ← h2, e]
theorem Fam.slot {xs s0 : Nat → AV} (_ : Fam ops dead L i) (j : Nat) {t : Nat} (hd : dstsOk ops = true) (hj : dstAt ops j = some t) (hl : L j = true) : SL ops xs s0 L ops.size t = xs j := sl_in hd j hj hl
theorem Fam.old {xs s0 : Nat → AV} (_ : Fam ops dead L i) (t : Nat) (h : ((List.range ops.size).all fun j => dstAt ops j != some t) = true) : SL ops xs s0 L ops.size t = s0 t := sl_out h
variable {es : Nat → Option (Nat × AObj)} {h0 : AH}
theorem hl_out {n : Nat} (he : ∀ i j ob, effOn es i ob → effOn es j ob → i = j) (j : Nat) {ob : Nat} {x' : AObj} (hj : es j = some (ob, x')) (hl : L j = false) : HL es h0 L n ob = h0 ob := by
  rw [HL_get he hj, if_neg (by rw [hl]; simp)]
theorem hl_nil {n ob : Nat} : HL (effL []) h0 L n ob = h0 ob := HL_none n fun j _ _ hx => by
  obtain ⟨x, hx⟩ := hx
  cases hx
theorem hl_in {n : Nat} (he : ∀ i j ob, effOn es i ob → effOn es j ob → i = j) (j : Nat) {ob : Nat} {x' : AObj} (hj : es j = some (ob, x')) (hn : j < n) (hl : L j = true) : HL es h0 L n ob = x' := by
  rw [HL_get he hj, if_pos ⟨hn, hl⟩]
theorem Fam.obj (_ : Fam ops dead L i) (he : ∀ i j ob, effOn es i ob → effOn es j ob → i = j) (j : Nat) {ob : Nat} {x' : AObj} (hj : es j = some (ob, x')) (hl : L j = false) : HL es h0 L ops.size ob = h0 ob := hl_out he j hj hl
theorem Fam.objNil (_ : Fam ops dead L i) {ob : Nat} : HL (effL []) h0 L ops.size ob = h0 ob := hl_nil
end
end Go.Am

/- Contracts: the parser reads a derivation. No condition. -/
namespace Go.Am
open Go.Proofs
attribute [local go_sem ↓] ofL_cons ofH_cons upd_apply
set_option maxHeartbeats 4000000
set_option linter.unusedSimpArgs false
-- @APPL

theorem keep_prs {s : ByteArray} {j : Nat} {h : AH} (hh : h 0 = .box 38 [.str s, .int j]) : keepH [0] h = prsH s j := by
  refine keepH_eq (l := [(0, .box 38 [.str s, .int j])]) fun p hp => ?_
  simp only [List.mem_cons, List.not_mem_nil, or_false] at hp
  rcases hp with rfl
  exact hh

/-- What is read, or that the parser is left. -/
def PRQ (s : ByteArray) (r : PR Dv) (out : Out) (h' : AH) : Prop := match r with
  | .ok d k' => out = .ret (.c (.agg (cellsD d))) ∧ h' = prsH s k'
  | .err e => out = .pan (failE e) ∧ ∃ j, h' = prsH s j
theorem prq_err {s : ByteArray} {r : PR Dv} {e : Int} {j : Nat} {h : AH} (hr : r = .err e) (hh : h 0 = .box 38 [.str s, .int j]) : PRQ s r (.pan (failE e)) (keepH [0] h) := by
  subst hr
  exact ⟨rfl, j, keep_prs hh⟩

theorem cond_kids (x lex : Bool) (acc : List Dv) : (x && (kindS lex acc != 1 || ((acc.length : Nat) : Int) == 0)) = (x && (!lex || acc.isEmpty)) := by
  have h1 : (kindS lex acc != 1) = !lex := by unfold kindS; cases lex <;> cases acc <;> simp
  have h2 : (((acc.length : Nat) : Int) == 0) = acc.isEmpty := by cases acc <;> simp; omega
  rw [h1, h2]

theorem cond_tail (lex : Bool) (acc : List Dv) : (kindS lex acc == 1 && ((acc.length : Nat) : Int) == 0) = (lex && acc.isEmpty) := by
  have h1 : (kindS lex acc == 1) = lex := by unfold kindS; cases lex <;> cases acc <;> simp
  have h2 : (((acc.length : Nat) : Int) == 0) = acc.isEmpty := by cases acc <;> simp; omega
  rw [h1, h2]
theorem kind_zero {lex : Bool} {acc : List Dv} {d : Dv} (h : kindS lex acc = 0) : kindS lex (acc ++ [d]) = 2 := by
  unfold kindS at h ⊢
  cases lex <;> cases acc <;> simp_all
theorem kind_same {lex : Bool} {acc : List Dv} {d : Dv} (h : ¬ kindS lex acc = 0) : kindS lex (acc ++ [d]) = kindS lex acc := by
  unfold kindS at h ⊢
  cases lex <;> cases acc <;> simp_all
abbrev zeroD : AObj := .box 25 [.int 0, .str ⟨#[]⟩, .int 0, .int 0, .emp]
/-- The slots and objects where a kid is read, and what the region's operations give. -/
def nS (m : Nat) : Slots := ofL [(0, .ptr 0 0), (1, .int (65 - (m + 1 : Nat) : Int)), (4, .ptr 4 0), (5, .ptr 5 0)]
def nH (s : ByteArray) (lex : Bool) (name : ByteArray) (f t : Int) (acc : List Dv) (e : Nat) : AH := ofH [(0, .box 38 [.str s, .int (e : Nat)]), (4, zeroD), (5, .box 25 [.int (kindS lex acc), .str name, .int f, .int t, .own 100 acc.length]), (100, .row 25 5 acc.length (fun q => (encDs acc).getD q []))]
def nX (m : Nat) (acc : List Dv) (d : Dv) (k : Nat) : AV := [.ptr 5 4, .own 100 acc.length, .ptr 0 0, .int (65 - (m + 1 : Nat) : Int), .int (65 - m : Int), .c (.agg (cellsD d)), .c (.im 5 1 fun i => [cellsD d].getD i []), .own 100 (acc.length + 1), .ptr 5 4].getD k default
def nE (s : ByteArray) (lex : Bool) (name : ByteArray) (f t : Int) (acc : List Dv) (d : Dv) (k' : Nat) : List (Nat × Nat × AObj) := [(5, 0, .box 38 [.str s, .int (k' : Nat)]), (7, 100, .row 25 5 (acc.length + 1) (fun q => if q < acc.length then (encDs acc).getD q [] else [cellsD d].getD (q - acc.length) [])), (9, 5, .box 25 [.int (kindS lex acc), .str name, .int f, .int t, .own 100 (acc.length + 1)])]
theorem nE_ok (s : ByteArray) (lex : Bool) (name : ByteArray) (f t : Int) (acc : List Dv) (d : Dv) (k' : Nat) : effOk (nE s lex name f t acc d k') = true := rfl
variable [Glb]

theorem take_yes (s : ByteArray) (k : Nat) (c : UInt8) (hk : k ≤ 1000000000) (h : isAt s k c = true) : AFun Tryz.prog 23 [.ptr 0 0, .c (.raw (.int .u8 c.toNat))] (prsH s k) fun out h' => out = .ret (.c (.tup [])) ∧ h' = prsH s (k + 1) :=
  (take_ok s k c hk).mono fun out h' q => by
    rcases q with ⟨_, q⟩ | ⟨q, _⟩
    · exact q
    · rw [h] at q; cases q
theorem take_no (s : ByteArray) (k : Nat) (c : UInt8) (hk : k ≤ 1000000000) (h : isAt s k c = false) : AFun Tryz.prog 23 [.ptr 0 0, .c (.raw (.int .u8 c.toNat))] (prsH s k) fun out h' => out = .pan (failE (failAt s k)) ∧ h' = prsH s k :=
  (take_ok s k c hk).mono fun out h' q => by
    rcases q with ⟨q, _⟩ | ⟨_, q⟩
    · rw [h] at q; cases q
    · exact q
theorem name_yes (s : ByteArray) (k : Nat) (hs : s.size ≤ 100000) (hk : k ≤ s.size) (h : ¬ nameTo s k = k) : AFun Tryz.prog 24 [.ptr 0 0] (prsH s k) fun out h' => out = .ret (.c (.str (s.extract k (nameTo s k)))) ∧ h' = prsH s (nameTo s k) :=
  (name_ok s k hs hk).mono fun out h' q => by
    rcases q with ⟨_, q⟩ | ⟨q, _⟩
    · exact q
    · exact absurd q h
theorem name_no (s : ByteArray) (k : Nat) (hs : s.size ≤ 100000) (hk : k ≤ s.size) (h : nameTo s k = k) : AFun Tryz.prog 24 [.ptr 0 0] (prsH s k) fun out h' => out = .pan (failE (failAt s k)) ∧ h' = prsH s k :=
  (name_ok s k hs hk).mono fun out h' q => by
    rcases q with ⟨q, _⟩ | ⟨_, q⟩
    · omega
    · exact q
theorem number_yes [Tabs] (s : ByteArray) (k : Nat) (hs : s.size ≤ 100000) (hk : k ≤ s.size) {v : Int} {k' : Nat} (h : numS s k = .ok v k') : AFun Tryz.prog 25 [.ptr 0 0] (prsH s k) fun out h' => out = .ret (.c (.int v)) ∧ h' = prsH s k' :=
  (pnumber_ok s k hs hk).mono fun out h' q => by
    unfold numS at h
    rcases q with ⟨q1, q2, q3, rfl, rfl⟩ | ⟨q1, q2, q3⟩ | ⟨q1, q3⟩
    · rw [if_neg (by rw [q1]; decide), if_neg (by omega)] at h
      injection h with h1 h2
      rw [h1, h2]
      exact ⟨rfl, rfl⟩
    · rw [if_neg (by rw [q1]; decide), if_pos q2] at h
      cases h
    · rw [if_pos q1] at h
      cases h
theorem number_no [Tabs] (s : ByteArray) (k : Nat) (hs : s.size ≤ 100000) (hk : k ≤ s.size) {e : Int} (h : numS s k = .err e) : AFun Tryz.prog 25 [.ptr 0 0] (prsH s k) fun out h' => out = .pan (failE e) ∧ ∃ j, h' = prsH s j :=
  (pnumber_ok s k hs hk).mono fun out h' q => by
    unfold numS at h
    rcases q with ⟨q1, q2, q3, rfl, rfl⟩ | ⟨q1, q2, q3, q4⟩ | ⟨q1, q3, q4⟩
    · rw [if_neg (by rw [q1]; decide), if_neg (by omega)] at h
      cases h
    · rw [if_neg (by rw [q1]; decide), if_pos q2] at h
      injection h with h
      rw [← h]
      exact ⟨q3, _, q4⟩
    · rw [if_pos q1] at h
      injection h with h
      rw [← h]
      exact ⟨q3, q4⟩

theorem node_step [Tabs] (s : ByteArray) (hs : s.size ≤ 100000) (deep k : Nat) (hdp : deep ≤ 64) (hk : k ≤ s.size)
    (ih : ∀ m, deep = m + 1 → ∀ k, k ≤ s.size → AFun Tryz.prog 12 [.ptr 0 0, .c (.int (65 - m : Int))] (prsH s k) (PRQ s (nodeS s m k))) :
    AFun Tryz.prog 12 [.ptr 0 0, .c (.int (65 - deep : Int))] (prsH s k) (PRQ s (nodeS s deep k)) := by
  refine afun_of Tryz.func12 rfl (by kernel_rfl) (by simp [Tryz.ntmps12]) (fo := [0]) (fun o ho => ?_) ?_
  · exact Classical.byContradiction fun hm => ho ((prs_foot s k).out o hm)
  have FF : True := trivial
  rw [Tryz.ntmps12]
  refine m_cut [(0, .ptr 0 0), (1, .int (65 - deep : Int))] [(0, .box 38 [.str s, .int k])] ?_
  refine awp_rseq (by decide) fun KK hKK => ?_
  refine m_alloc ?_
  refine hKK _ _ ?_
  clear hKK KK
  refine m_join (ι := Unit) (fun i => [(0, .ptr 0 0), (1, .int (65 - deep : Int)), (4, .ptr 4 0)]) (fun i => [(0, .box 38 [.str s, .int k]), (4, zeroD)]) (fun i => ¬ (isAt s k 40 = true ∧ deep = 0)) ?_ ?_
  · refine awp_seqL ?_
    refine awpl_op (by rfl) (by rfl) ?_
    refine m_move ?_
    refine run_nil ?_
    refine awpl_callI [0] ((next_ok s k 40).mono fun out h1 q => CallI.of_eq q (by simp [AV.refsw, AV.ref1w]) (prs_foot s k) ?_) (by rfl) (by simp only [List.map, go_sem, reduceIte, Nat.reduceEqDiff, FF] <;> rfl) (prs_foot s k) (by simp only [List.forall_mem_cons, List.forall_mem_nil, go_sem, reduceIte, Nat.reduceEqDiff, FF]; all_goals ((repeat' apply And.intro) <;> first | trivial | rfl)) (by simp [AV.refsw, AV.ref1w])
    dsimp only [updO, appL, id, prsH]
    refine awpl_op (by rfl) (by rfl) ?_
    refine m_move ?_
    refine run_nil ?_
    refine awpl_op (by rfl) (by rfl) ?_
    refine g_move ?_
    refine run_nil ?_
    refine awpl_op (by rfl) (by rfl) ?_
    refine g_bin ?_
    refine run_nil ?_
    refine awpl_op (by rfl) (by rfl) ?_
    refine m_pick ?_
    refine run_nil ?_
    refine awpl_end ?_
    rw [thenQ_normal]
    refine m_cond (fun hc => ?_) (fun hc => ?_)
    · have hc' : isAt s k 40 = true ∧ deep = 0 := by
        simp only [Bool.and_eq_true, decide_eq_true_eq] at hc
        exact ⟨hc.1, by omega⟩
      refine awp_regL ?_
      refine awpl_op (by rfl) (by rfl) ?_
      refine m_build ?_
      refine run_nil ?_
      refine awpl_op (by rfl) (by rfl) ?_
      first | refine m_mkI ?_ | refine m_mkA ?_
      refine run_nil ?_
      refine awpl_panic (u := 34) (x := .agg #[.int .i64 7]) (by simp only [go_sem, reduceIte, Nat.reduceEqDiff] <;> rfl) ?_
      refine ⟨rfl, prq_err ?_ rfl⟩
      rw [hc'.2, nodeS, if_pos hc'.1]
    · refine awp_skip ?_
      try rw [thenQ_normal]
      refine ⟨(), ?_, (by simp only [List.forall_mem_cons, List.forall_mem_nil, go_sem, reduceIte, Nat.reduceEqDiff, FF]; all_goals ((repeat' apply And.intro) <;> first | trivial | rfl | exact objLe_refl _ | (intro _ _; exact Subs.refl _))), (by simp only [List.forall_mem_cons, List.forall_mem_nil, go_sem, reduceIte, Nat.reduceEqDiff, FF]; all_goals ((repeat' apply And.intro) <;> first | trivial | rfl | exact objLe_refl _ | (intro _ _; exact Subs.refl _)))⟩
      rintro ⟨h1, h2⟩
      rw [h1, h2] at hc
      simp at hc
  rintro - hnt
  cases hi : isAt s k 40 with
  | false =>
    have hn : nodeS s deep k = .err (failAt s k) := by
      cases deep with
      | zero => rw [nodeS, if_neg (by rw [hi]; decide)]
      | succ m => rw [nodeS, headS, if_pos hi]
    refine awp_seqL ?_
    refine awpl_op (by rfl) (by rfl) ?_
    refine m_move ?_
    refine run_nil ?_
    refine awpl_callI [0] ((take_no s k 40 (by omega) hi).mono fun out h1 q => ?_) (by rfl) (by simp only [List.map, go_sem, reduceIte, Nat.reduceEqDiff, FF] <;> rfl) (prs_foot s k) (by simp only [List.forall_mem_cons, List.forall_mem_nil, go_sem, reduceIte, Nat.reduceEqDiff, FF]; all_goals ((repeat' apply And.intro) <;> first | trivial | rfl)) (by simp [AV.refsw, AV.ref1w])
    obtain ⟨rfl, rfl⟩ := q
    exact ⟨prs_foot s k, rfl, prq_err hn rfl⟩
  | true =>
  obtain ⟨m, rfl⟩ : ∃ m, deep = m + 1 := ⟨deep - 1, by have : deep ≠ 0 := fun e => hnt ⟨hi, e⟩; omega⟩
  have hk1 := isAt_lt hi
  clear hnt
  refine awp_seqL ?_
  refine awpl_op (by rfl) (by rfl) ?_
  refine m_move ?_
  refine run_nil ?_
  refine awpl_callI [0] ((take_yes s k 40 (by omega) hi).mono fun out h1 q => CallI.of_eq q (by simp [AV.refsw, AV.ref1w]) (prs_foot s (k + 1)) ?_) (by rfl) (by simp only [List.map, go_sem, reduceIte, Nat.reduceEqDiff, FF] <;> rfl) (prs_foot s k) (by simp only [List.forall_mem_cons, List.forall_mem_nil, go_sem, reduceIte, Nat.reduceEqDiff, FF]; all_goals ((repeat' apply And.intro) <;> first | trivial | rfl)) (by simp [AV.refsw, AV.ref1w])
  refine awpl_end ?_
  rw [thenQ_normal]
  refine m_cut [(0, .ptr 0 0), (1, .int (65 - (m + 1 : Nat) : Int)), (4, .ptr 4 0)] [(0, .box 38 [.str s, .int (k + 1 : Nat)]), (4, zeroD)] ?_
  refine awp_rseq (by decide) fun KK hKK => ?_
  refine m_build ?_
  refine m_alloc ?_
  first | refine m_stPtr ?_ | refine m_stRp ?_
  refine hKK _ _ ?_
  clear hKK KK
  refine m_join (ι := Unit) (fun i => [(0, .ptr 0 0), (1, .int (65 - (m + 1 : Nat) : Int)), (4, .ptr 4 0), (5, .ptr 5 0)]) (fun i => [(0, .box 38 [.str s, .int (nameAt s k : Nat)]), (4, zeroD), (5, .box 25 [.int (kindS (isAt s (k + 1) 43) []), .str ⟨#[]⟩, .int 0, .int 0, .emp])]) (fun i => True) ?_ ?_
  · refine m_cut [(0, .ptr 0 0), (1, .int (65 - (m + 1 : Nat) : Int)), (4, .ptr 4 0), (5, .ptr 5 0)] [(0, .box 38 [.str s, .int (k + 1 : Nat)]), (4, zeroD), (5, zeroD)] ?_
    refine awp_seqL ?_
    refine awpl_op (by rfl) (by rfl) ?_
    refine m_move ?_
    refine run_nil ?_
    refine awpl_callI [0] ((next_ok s (k + 1) 43).mono fun out h1 q => CallI.of_eq q (by simp [AV.refsw, AV.ref1w]) (prs_foot s (k + 1)) ?_) (by rfl) (by simp only [List.map, go_sem, reduceIte, Nat.reduceEqDiff, FF] <;> rfl) (prs_foot s (k + 1)) (by simp only [List.forall_mem_cons, List.forall_mem_nil, go_sem, reduceIte, Nat.reduceEqDiff, FF]; all_goals ((repeat' apply And.intro) <;> first | trivial | rfl)) (by simp [AV.refsw, AV.ref1w])
    refine awpl_end ?_
    rw [thenQ_normal]
    refine m_cond (fun hc => ?_) (fun hc => ?_)
    · have hlt := isAt_lt hc
      have w3 : IntKind.i64.wrap (((k + 1 : Nat) : Int) + 1) = ((k + 2 : Nat) : Int) := wrap_in (by omega)
      have e1 : nameAt s k = k + 2 := by rw [nameAt, if_pos hc]
      have e2 : kindS (isAt s (k + 1) 43) [] = 1 := by rw [hc]; rfl
      rw [e1, e2]
      refine m_cut [(0, .ptr 0 0), (1, .int (65 - (m + 1 : Nat) : Int)), (4, .ptr 4 0), (5, .ptr 5 0)] [(0, .box 38 [.str s, .int (k + 1 : Nat)]), (4, zeroD), (5, zeroD)] ?_
      have FF := And.intro w3 FF
      refine awp_rseq (by decide) fun KK hKK => ?_
      refine m_move ?_
      refine m_nil ?_
      refine m_field ?_
      refine m_load ?_
      refine m_bin ?_
      refine m_nil ?_
      refine m_field ?_
      first | refine m_stPtr ?_ | refine m_stRp ?_
      refine hKK _ _ ?_
      clear hKK KK
      refine awp_rlast (by decide) fun KK hKK => ?_
      refine m_field ?_
      first | refine m_stPtr ?_ | refine m_stRp ?_
      refine hKK _ _ ?_
      clear hKK KK
      try rw [thenQ_normal]
      refine ⟨(), ?_, (by simp only [List.forall_mem_cons, List.forall_mem_nil, go_sem, reduceIte, Nat.reduceEqDiff, FF]; all_goals ((repeat' apply And.intro) <;> first | trivial | rfl | exact objLe_refl _ | (intro _ _; exact Subs.refl _))), (by simp only [List.forall_mem_cons, List.forall_mem_nil, go_sem, reduceIte, Nat.reduceEqDiff, FF]; all_goals ((repeat' apply And.intro) <;> first | trivial | rfl | exact objLe_refl _ | (intro _ _; exact Subs.refl _)))⟩
      trivial
    · have e1 : nameAt s k = k + 1 := by rw [nameAt, if_neg (by rw [hc]; decide)]
      have e2 : kindS (isAt s (k + 1) 43) [] = 0 := by rw [hc]; rfl
      rw [e1, e2]
      refine awp_skip ?_
      try rw [thenQ_normal]
      refine ⟨(), ?_, (by simp only [List.forall_mem_cons, List.forall_mem_nil, go_sem, reduceIte, Nat.reduceEqDiff, FF]; all_goals ((repeat' apply And.intro) <;> first | trivial | rfl | exact objLe_refl _ | (intro _ _; exact Subs.refl _))), (by simp only [List.forall_mem_cons, List.forall_mem_nil, go_sem, reduceIte, Nat.reduceEqDiff, FF]; all_goals ((repeat' apply And.intro) <;> first | trivial | rfl | exact objLe_refl _ | (intro _ _; exact Subs.refl _)))⟩
      trivial
  rintro - -
  have hi' : ¬ isAt s k 40 = false := by rw [hi]; decide
  have na := nameAt_le hi
  have nt := nameTo_le na.2
  have hN : nodeS s (m + 1) k = match headS s k with
    | .err e => .err e
    | .ok h k4 => match kidsS (nodeS s m) s h.1 (s.size - k4) [] k4 with
      | .err e => .err e
      | .ok ks k5 => tailS s h ks k5 := by rw [nodeS] <;> rfl
  have hH : headS s k = headS s k := rfl
  conv at hH => rhs; rw [headS, if_neg hi']
  generalize nodeS s (m + 1) k = R at hN ⊢
  generalize hlx : isAt s (k + 1) 43 = lex at hH ⊢
  generalize nameAt s k = a at *
  generalize hb : nameTo s a = b at *
  clear hi hi' hk1 hk
  by_cases hnm : b = a
  · rw [if_pos hnm] at hH
    rw [hH] at hN
    refine awp_seqL ?_
    refine awpl_op (by rfl) (by rfl) ?_
    refine m_move ?_
    refine run_nil ?_
    refine awpl_callI [0] ((name_no s a hs na.2 (hb.trans hnm)).mono fun out h1 q => ?_) (by rfl) (by simp only [List.map, go_sem, reduceIte, Nat.reduceEqDiff, FF] <;> rfl) (prs_foot s a) (by simp only [List.forall_mem_cons, List.forall_mem_nil, go_sem, reduceIte, Nat.reduceEqDiff, FF]; all_goals ((repeat' apply And.intro) <;> first | trivial | rfl)) (by simp [AV.refsw, AV.ref1w])
    obtain ⟨rfl, rfl⟩ := q
    exact ⟨prs_foot s a, rfl, prq_err hN rfl⟩
  rw [if_neg hnm] at hH
  refine awp_seqL ?_
  refine awpl_op (by rfl) (by rfl) ?_
  refine m_move ?_
  refine run_nil ?_
  refine awpl_callI [0] ((name_yes s a hs na.2 (fun e => hnm (hb.symm.trans e))).mono fun out h1 q => CallI.of_eq q (by simp [AV.refsw, AV.ref1w]) (prs_foot s (nameTo s a)) ?_) (by rfl) (by simp only [List.map, go_sem, reduceIte, Nat.reduceEqDiff, FF] <;> rfl) (prs_foot s a) (by simp only [List.forall_mem_cons, List.forall_mem_nil, go_sem, reduceIte, Nat.reduceEqDiff, FF]; all_goals ((repeat' apply And.intro) <;> first | trivial | rfl)) (by simp [AV.refsw, AV.ref1w])
  dsimp only [updO, appL, id, prsH]
  refine awpl_op (by rfl) (by rfl) ?_
  refine m_field ?_
  refine run_nil ?_
  refine awpl_op (by rfl) (by rfl) ?_
  first | refine m_stPtr ?_ | refine m_stRp ?_
  refine run_nil ?_
  refine awpl_end ?_
  rw [thenQ_normal]
  rw [hb]
  generalize hnn : s.extract a b = name at *
  refine m_cut [(0, .ptr 0 0), (1, .int (65 - (m + 1 : Nat) : Int)), (4, .ptr 4 0), (5, .ptr 5 0)] [(0, .box 38 [.str s, .int (b : Nat)]), (4, zeroD), (5, .box 25 [.int (kindS lex []), .str name, .int 0, .int 0, .emp])] ?_
  cases hi1 : isAt s b 32 with
  | false =>
    rw [if_pos hi1] at hH
    rw [hH] at hN
    refine awp_seqL ?_
    refine awpl_op (by rfl) (by rfl) ?_
    refine m_move ?_
    refine run_nil ?_
    refine awpl_callI [0] ((take_no s b 32 (by omega) hi1).mono fun out h1 q => ?_) (by rfl) (by simp only [List.map, go_sem, reduceIte, Nat.reduceEqDiff, FF] <;> rfl) (prs_foot s b) (by simp only [List.forall_mem_cons, List.forall_mem_nil, go_sem, reduceIte, Nat.reduceEqDiff, FF]; all_goals ((repeat' apply And.intro) <;> first | trivial | rfl)) (by simp [AV.refsw, AV.ref1w])
    obtain ⟨rfl, rfl⟩ := q
    exact ⟨prs_foot s b, rfl, prq_err hN rfl⟩
  | true =>
  rw [if_neg (by rw [hi1]; decide)] at hH
  have hb1 := isAt_lt hi1
  refine awp_seqL ?_
  refine awpl_op (by rfl) (by rfl) ?_
  refine m_move ?_
  refine run_nil ?_
  refine awpl_callI [0] ((take_yes s b 32 (by omega) hi1).mono fun out h1 q => CallI.of_eq q (by simp [AV.refsw, AV.ref1w]) (prs_foot s (b + 1)) ?_) (by rfl) (by simp only [List.map, go_sem, reduceIte, Nat.reduceEqDiff, FF] <;> rfl) (prs_foot s b) (by simp only [List.forall_mem_cons, List.forall_mem_nil, go_sem, reduceIte, Nat.reduceEqDiff, FF]; all_goals ((repeat' apply And.intro) <;> first | trivial | rfl)) (by simp [AV.refsw, AV.ref1w])
  refine awpl_end ?_
  rw [thenQ_normal]
  refine m_cut [(0, .ptr 0 0), (1, .int (65 - (m + 1 : Nat) : Int)), (4, .ptr 4 0), (5, .ptr 5 0)] [(0, .box 38 [.str s, .int (b + 1 : Nat)]), (4, zeroD), (5, .box 25 [.int (kindS lex []), .str name, .int 0, .int 0, .emp])] ?_
  cases hn1 : numS s (b + 1) with
  | err e =>
    rw [hn1] at hH
    rw [hH] at hN
    refine awp_seqL ?_
    refine awpl_op (by rfl) (by rfl) ?_
    refine m_move ?_
    refine run_nil ?_
    refine awpl_callI [0] ((number_no s (b + 1) hs (by omega) hn1).mono fun out h1 q => ?_) (by rfl) (by simp only [List.map, go_sem, reduceIte, Nat.reduceEqDiff, FF] <;> rfl) (prs_foot s (b + 1)) (by simp only [List.forall_mem_cons, List.forall_mem_nil, go_sem, reduceIte, Nat.reduceEqDiff, FF]; all_goals ((repeat' apply And.intro) <;> first | trivial | rfl)) (by simp [AV.refsw, AV.ref1w])
    obtain ⟨rfl, j, rfl⟩ := q
    exact ⟨prs_foot s j, rfl, prq_err hN rfl⟩
  | ok f k3 =>
  rw [hn1] at hH
  have l3 := numS_le (by omega) hn1
  refine awp_seqL ?_
  refine awpl_op (by rfl) (by rfl) ?_
  refine m_move ?_
  refine run_nil ?_
  refine awpl_callI [0] ((number_yes s (b + 1) hs (by omega) hn1).mono fun out h1 q => CallI.of_eq q (by simp [AV.refsw, AV.ref1w]) (prs_foot s k3) ?_) (by rfl) (by simp only [List.map, go_sem, reduceIte, Nat.reduceEqDiff, FF] <;> rfl) (prs_foot s (b + 1)) (by simp only [List.forall_mem_cons, List.forall_mem_nil, go_sem, reduceIte, Nat.reduceEqDiff, FF]; all_goals ((repeat' apply And.intro) <;> first | trivial | rfl)) (by simp [AV.refsw, AV.ref1w])
  dsimp only [updO, appL, id, prsH]
  refine awpl_op (by rfl) (by rfl) ?_
  refine m_field ?_
  refine run_nil ?_
  refine awpl_op (by rfl) (by rfl) ?_
  first | refine m_stPtr ?_ | refine m_stRp ?_
  refine run_nil ?_
  refine awpl_end ?_
  rw [thenQ_normal]
  refine m_cut [(0, .ptr 0 0), (1, .int (65 - (m + 1 : Nat) : Int)), (4, .ptr 4 0), (5, .ptr 5 0)] [(0, .box 38 [.str s, .int (k3 : Nat)]), (4, zeroD), (5, .box 25 [.int (kindS lex []), .str name, .int f, .int 0, .emp])] ?_
  cases hi2 : isAt s k3 32 with
  | false =>
    simp only at hH
    rw [if_pos hi2] at hH
    rw [hH] at hN
    refine awp_seqL ?_
    refine awpl_op (by rfl) (by rfl) ?_
    refine m_move ?_
    refine run_nil ?_
    refine awpl_callI [0] ((take_no s k3 32 (by omega) hi2).mono fun out h1 q => ?_) (by rfl) (by simp only [List.map, go_sem, reduceIte, Nat.reduceEqDiff, FF] <;> rfl) (prs_foot s k3) (by simp only [List.forall_mem_cons, List.forall_mem_nil, go_sem, reduceIte, Nat.reduceEqDiff, FF]; all_goals ((repeat' apply And.intro) <;> first | trivial | rfl)) (by simp [AV.refsw, AV.ref1w])
    obtain ⟨rfl, rfl⟩ := q
    exact ⟨prs_foot s k3, rfl, prq_err hN rfl⟩
  | true =>
  simp only at hH
  rw [if_neg (by rw [hi2]; decide)] at hH
  have hb2 := isAt_lt hi2
  refine awp_seqL ?_
  refine awpl_op (by rfl) (by rfl) ?_
  refine m_move ?_
  refine run_nil ?_
  refine awpl_callI [0] ((take_yes s k3 32 (by omega) hi2).mono fun out h1 q => CallI.of_eq q (by simp [AV.refsw, AV.ref1w]) (prs_foot s (k3 + 1)) ?_) (by rfl) (by simp only [List.map, go_sem, reduceIte, Nat.reduceEqDiff, FF] <;> rfl) (prs_foot s k3) (by simp only [List.forall_mem_cons, List.forall_mem_nil, go_sem, reduceIte, Nat.reduceEqDiff, FF]; all_goals ((repeat' apply And.intro) <;> first | trivial | rfl)) (by simp [AV.refsw, AV.ref1w])
  refine awpl_end ?_
  rw [thenQ_normal]
  refine m_cut [(0, .ptr 0 0), (1, .int (65 - (m + 1 : Nat) : Int)), (4, .ptr 4 0), (5, .ptr 5 0)] [(0, .box 38 [.str s, .int (k3 + 1 : Nat)]), (4, zeroD), (5, .box 25 [.int (kindS lex []), .str name, .int f, .int 0, .emp])] ?_
  cases hn2 : numS s (k3 + 1) with
  | err e =>
    rw [hn2] at hH
    rw [hH] at hN
    refine awp_seqL ?_
    refine awpl_op (by rfl) (by rfl) ?_
    refine m_move ?_
    refine run_nil ?_
    refine awpl_callI [0] ((number_no s (k3 + 1) hs (by omega) hn2).mono fun out h1 q => ?_) (by rfl) (by simp only [List.map, go_sem, reduceIte, Nat.reduceEqDiff, FF] <;> rfl) (prs_foot s (k3 + 1)) (by simp only [List.forall_mem_cons, List.forall_mem_nil, go_sem, reduceIte, Nat.reduceEqDiff, FF]; all_goals ((repeat' apply And.intro) <;> first | trivial | rfl)) (by simp [AV.refsw, AV.ref1w])
    obtain ⟨rfl, j, rfl⟩ := q
    exact ⟨prs_foot s j, rfl, prq_err hN rfl⟩
  | ok t k4 =>
  rw [hn2] at hH
  have l4 := numS_le (by omega) hn2
  rw [hH] at hN
  simp only at hN
  refine awp_seqL ?_
  refine awpl_op (by rfl) (by rfl) ?_
  refine m_move ?_
  refine run_nil ?_
  refine awpl_callI [0] ((number_yes s (k3 + 1) hs (by omega) hn2).mono fun out h1 q => CallI.of_eq q (by simp [AV.refsw, AV.ref1w]) (prs_foot s k4) ?_) (by rfl) (by simp only [List.map, go_sem, reduceIte, Nat.reduceEqDiff, FF] <;> rfl) (prs_foot s (k3 + 1)) (by simp only [List.forall_mem_cons, List.forall_mem_nil, go_sem, reduceIte, Nat.reduceEqDiff, FF]; all_goals ((repeat' apply And.intro) <;> first | trivial | rfl)) (by simp [AV.refsw, AV.ref1w])
  dsimp only [updO, appL, id, prsH]
  refine awpl_op (by rfl) (by rfl) ?_
  refine m_field ?_
  refine run_nil ?_
  refine awpl_op (by rfl) (by rfl) ?_
  first | refine m_stPtr ?_ | refine m_stRp ?_
  refine run_nil ?_
  refine awpl_end ?_
  rw [thenQ_normal]
  refine m_cut [(0, .ptr 0 0), (1, .int (65 - (m + 1 : Nat) : Int)), (4, .ptr 4 0), (5, .ptr 5 0)] [(0, .box 38 [.str s, .int (k4 : Nat)]), (4, zeroD), (5, .box 25 [.int (kindS lex []), .str name, .int f, .int t, .emp])] ?_
  have hk4 := l4.2
  clear hH hb1 l3 hb2 l4 hi1 hi2 hn1 hn2 hnm na nt hb hnn
  generalize hK : kidsS (nodeS s m) s lex (s.size - k4) [] k4 = KR at hN
  refine AWp.weak (weak_adoptB 5 4 100 _ _ 25 5 (fun q => (encDs []).getD q []) (by simp only [go_sem, reduceIte, Nat.reduceEqDiff, FF] <;> rfl) (by rfl) (by simp only [go_sem, reduceIte, Nat.reduceEqDiff, FF])) ?_
  refine m_join (ι := (List Dv × Nat)) (fun p => [(0, .ptr 0 0), (1, .int (65 - (m + 1 : Nat) : Int)), (4, .ptr 4 0), (5, .ptr 5 0)]) (fun p => [(0, .box 38 [.str s, .int (p.2 : Nat)]), (4, zeroD), (5, .box 25 [.int (kindS lex p.1), .str name, .int f, .int t, .own 100 p.1.length]), (100, .row 25 5 p.1.length (fun q => (encDs p.1).getD q []))]) (fun p => KR = .ok p.1 p.2 ∧ p.2 ≤ s.size) ?_ ?_
  · refine awp_block ?_
    refine m_for (ι := (List Dv × Nat)) (fun p => [(0, .ptr 0 0), (1, .int (65 - (m + 1 : Nat) : Int)), (4, .ptr 4 0), (5, .ptr 5 0)]) (fun p => [(0, .box 38 [.str s, .int (p.2 : Nat)]), (4, zeroD), (5, .box 25 [.int (kindS lex p.1), .str name, .int f, .int t, .own 100 p.1.length]), (100, .row 25 5 p.1.length (fun q => (encDs p.1).getD q []))]) (fun p => s.size - p.2) (fun p => p.2 ≤ s.size ∧ p.1.length ≤ p.2 ∧ kidsS (nodeS s m) s lex (s.size - p.2) p.1 p.2 = KR) (([], k4)) ?_ ?_
    · exact ⟨hk4, Nat.zero_le _, hK⟩
    rintro ⟨acc, e⟩ ⟨he1, he2, hres⟩
    dsimp only at he1 he2 hres ⊢
    refine awp_seq ?_
    refine awp_seqL ?_
    refine awpl_op (by rfl) (by rfl) ?_
    refine m_move ?_
    refine run_nil ?_
    refine awpl_callI [0] ((next_ok s e 32).mono fun out h1 q => CallI.of_eq q (by simp [AV.refsw, AV.ref1w]) (prs_foot s e) ?_) (by rfl) (by simp only [List.map, go_sem, reduceIte, Nat.reduceEqDiff, FF] <;> rfl) (prs_foot s e) (by simp only [List.forall_mem_cons, List.forall_mem_nil, go_sem, reduceIte, Nat.reduceEqDiff, FF]; all_goals ((repeat' apply And.intro) <;> first | trivial | rfl)) (by simp [AV.refsw, AV.ref1w])
    dsimp only [updO, appL, id, prsH]
    refine awpl_op (by rfl) (by rfl) ?_
    refine m_move ?_
    refine run_nil ?_
    refine awpl_op (by rfl) (by rfl) ?_
    refine g_field ?_
    refine run_nil ?_
    refine awpl_op (by rfl) (by rfl) ?_
    refine g_load ?_
    refine run_nil ?_
    refine awpl_op (by rfl) (by rfl) ?_
    refine g_bin ?_
    refine run_nil ?_
    refine awpl_op (by rfl) (by rfl) ?_
    refine g_move ?_
    refine run_nil ?_
    refine awpl_op (by rfl) (by rfl) ?_
    refine g_field ?_
    refine run_nil ?_
    refine awpl_op (by rfl) (by rfl) ?_
    refine g_load ?_
    refine run_nil ?_
    refine awpl_op (by rfl) (by rfl) ?_
    refine g_len ?_
    refine run_nil ?_
    refine awpl_op (by rfl) (by rfl) ?_
    refine g_bin ?_
    refine run_nil ?_
    refine awpl_op (by rfl) (by rfl) ?_
    refine g_pick ?_
    refine run_nil ?_
    refine awpl_op (by rfl) (by rfl) ?_
    refine m_pick ?_
    refine run_nil ?_
    refine awpl_end ?_
    rw [thenQ_normal]
    refine m_cond (fun hc => ?_) (fun hc => ?_)
    · have hc' : (isAt s e 32 && (!lex || acc.isEmpty)) = true := by
        rw [← cond_kids]
        exact hc
      rw [Bool.and_eq_true] at hc'
      have hlt := isAt_lt hc'.1
      have w3 : IntKind.i64.wrap ((e : Int) + 1) = ((e + 1 : Nat) : Int) := wrap_in (by omega)
      have w4 : IntKind.i64.wrap ((65 - ((m + 1 : Nat) : Int)) + 1) = (65 - (m : Int)) := by rw [wrap_in (by omega)]; omega
      rw [kidsS_step hlt, if_pos (by rw [Bool.and_eq_true]; exact hc')] at hres
      refine awp_skip ?_
      first | rw [thenQ_normal] | rw [blockQ_normal, thenQ_normal]
      refine awp_block ?_
      refine m_cut [(0, .ptr 0 0), (1, .int (65 - (m + 1 : Nat) : Int)), (4, .ptr 4 0), (5, .ptr 5 0)] [(0, .box 38 [.str s, .int (e : Nat)]), (4, zeroD), (5, .box 25 [.int (kindS lex acc), .str name, .int f, .int t, .own 100 acc.length]), (100, .row 25 5 acc.length (fun q => (encDs acc).getD q []))] ?_
      have FF := And.intro w3 FF
      refine awp_rseq (by decide) fun KK hKK => ?_
      refine m_move ?_
      refine m_nil ?_
      refine m_field ?_
      refine m_load ?_
      refine m_bin ?_
      refine m_nil ?_
      refine m_field ?_
      first | refine m_stPtr ?_ | refine m_stRp ?_
      refine hKK _ _ ?_
      clear hKK KK
      refine m_cut [(0, .ptr 0 0), (1, .int (65 - (m + 1 : Nat) : Int)), (4, .ptr 4 0), (5, .ptr 5 0)] [(0, .box 38 [.str s, .int (e + 1 : Nat)]), (4, zeroD), (5, .box 25 [.int (kindS lex acc), .str name, .int f, .int t, .own 100 acc.length]), (100, .row 25 5 acc.length (fun q => (encDs acc).getD q []))] ?_
      show AWp _ _ _ _ _ (nS m) (nH s lex name f t acc (e + 1))
      cases hr : nodeS s m (e + 1) with
      | err er =>
        rw [hr] at hres
        simp only at hres
        rw [← hres] at hN
        simp only at hN
        refine awp_seq_fam Tryz.mixed (nX m acc default) (effL []) (fun k => k == 5) (by kernel_rfl) (by kernel_rfl) (effL_uniq rfl) ⟨
        fun L F => by
          have f5 : SL _ (nX m acc default) (nS m) L _ 5 = .ptr 5 0 := F.old 5 rfl
          generalize SL _ (nX m acc default) (nS m) L _ = s' at f5 ⊢
          generalize HL (effL []) (nH s lex name f t acc (e + 1)) L _ = h' at ⊢
          have FF := And.intro f5 FF
          refine awpl_op (by rfl) (by rfl) ?_
          refine m_field ?_
          refine run_nil ?_
          refine awpl_end ?_
          exact ⟨rfl, rfl, rfl⟩,
        fun L F => by
          have f60 : SL _ (nX m acc default) (nS m) L _ 60 = .ptr 5 4 := F.slot 0 rfl rfl (F.dep 0 rfl rfl)
          have o5 : HL (effL []) (nH s lex name f t acc (e + 1)) L _ 5 = .box 25 [.int (kindS lex acc), .str name, .int f, .int t, .own 100 acc.length] := F.objNil
          generalize SL _ (nX m acc default) (nS m) L _ = s' at f60 ⊢
          generalize HL (effL []) (nH s lex name f t acc (e + 1)) L _ = h' at o5 ⊢
          have FF := And.intro f60 (And.intro o5 FF)
          refine awpl_op (by rfl) (by rfl) ?_
          refine m_load ?_
          refine run_nil ?_
          refine awpl_end ?_
          exact ⟨rfl, rfl, rfl⟩,
        fun L F => by
          have f0 : SL _ (nX m acc default) (nS m) L _ 0 = .ptr 0 0 := F.old 0 rfl
          generalize SL _ (nX m acc default) (nS m) L _ = s' at f0 ⊢
          generalize HL (effL []) (nH s lex name f t acc (e + 1)) L _ = h' at ⊢
          have FF := And.intro f0 FF
          refine awpl_op (by rfl) (by rfl) ?_
          refine m_move ?_
          refine run_nil ?_
          refine awpl_end ?_
          exact ⟨rfl, rfl, rfl⟩,
        fun L F => by
          have f1 : SL _ (nX m acc default) (nS m) L _ 1 = .int (65 - (m + 1 : Nat) : Int) := F.old 1 rfl
          generalize SL _ (nX m acc default) (nS m) L _ = s' at f1 ⊢
          generalize HL (effL []) (nH s lex name f t acc (e + 1)) L _ = h' at ⊢
          have FF := And.intro f1 FF
          refine awpl_op (by rfl) (by rfl) ?_
          refine m_move ?_
          refine run_nil ?_
          refine awpl_end ?_
          exact ⟨rfl, rfl, rfl⟩,
        fun L F => by
          have f63 : SL _ (nX m acc default) (nS m) L _ 63 = .int (65 - (m + 1 : Nat) : Int) := F.slot 3 rfl rfl (F.dep 3 rfl rfl)
          generalize SL _ (nX m acc default) (nS m) L _ = s' at f63 ⊢
          generalize HL (effL []) (nH s lex name f t acc (e + 1)) L _ = h' at ⊢
          have FF := And.intro f63 FF
          have FF := And.intro w4 FF
          refine awpl_op (by rfl) (by rfl) ?_
          refine m_bin ?_
          refine run_nil ?_
          refine awpl_end ?_
          exact ⟨rfl, rfl, rfl⟩,
        fun L F => by
          have f62 : SL _ (nX m acc default) (nS m) L _ 62 = .ptr 0 0 := F.slot 2 rfl rfl (F.dep 2 rfl rfl)
          have f64 : SL _ (nX m acc default) (nS m) L _ 64 = .int (65 - m : Int) := F.slot 4 rfl rfl (F.dep 4 rfl rfl)
          have o0 : HL (effL []) (nH s lex name f t acc (e + 1)) L _ 0 = .box 38 [.str s, .int ((e + 1 : Nat) : Nat)] := F.objNil
          generalize SL _ (nX m acc default) (nS m) L _ = s' at f62 f64 ⊢
          generalize HL (effL []) (nH s lex name f t acc (e + 1)) L _ = h' at o0 ⊢
          have FF := And.intro f62 (And.intro f64 (And.intro o0 FF))
          refine awpl_callI [0] ((ih m rfl (e + 1) (by omega)).mono fun out h1 q => ?_) (by rfl) (by simp only [List.map, go_sem, reduceIte, Nat.reduceEqDiff, FF] <;> rfl) (prs_foot s (e + 1)) (by simp only [List.forall_mem_cons, List.forall_mem_nil, FF]; exact ⟨rfl, fun _ h => by cases h⟩) (by simp [AV.refsw, AV.ref1w])
          rw [hr] at q
          obtain ⟨rfl, j, rfl⟩ := q
          exact ⟨prs_foot s j, rfl, prq_err hN rfl⟩,
        fun L F => absurd ((F.dep 5 rfl rfl).symm.trans (F.alive 5 rfl)) (by decide),
        fun L F => absurd ((F.dep 5 rfl rfl).symm.trans (F.alive 5 rfl)) (by decide),
        fun L F => absurd ((F.dep 5 rfl rfl).symm.trans (F.alive 5 rfl)) (by decide),
        fun L F => absurd ((F.dep 5 rfl rfl).symm.trans (F.alive 5 rfl)) (by decide), trivial⟩ (fun hh => absurd (hh 5 (by decide)) (by decide))
      | ok d k' =>
        rw [hr] at hres
        simp only at hres
        have lk := nodeS_le m (e + 1) d k' hr
        refine awp_seq_fam Tryz.mixed (nX m acc d) (effL (nE s lex name f t acc d k')) (fun _ => false) (by kernel_rfl) (by kernel_rfl) (effL_uniq (nE_ok ..)) ⟨
        fun L F => by
          have f5 : SL _ (nX m acc d) (nS m) L _ 5 = .ptr 5 0 := F.old 5 rfl
          generalize SL _ (nX m acc d) (nS m) L _ = s' at f5 ⊢
          generalize HL (effL (nE s lex name f t acc d k')) (nH s lex name f t acc (e + 1)) L _ = h' at ⊢
          have FF := And.intro f5 FF
          refine awpl_op (by rfl) (by rfl) ?_
          refine m_field ?_
          refine run_nil ?_
          refine awpl_end ?_
          exact ⟨rfl, rfl, rfl⟩,
        fun L F => by
          have f60 : SL _ (nX m acc d) (nS m) L _ 60 = .ptr 5 4 := F.slot 0 rfl rfl (F.dep 0 rfl rfl)
          have o5 : HL (effL (nE s lex name f t acc d k')) (nH s lex name f t acc (e + 1)) L _ 5 = .box 25 [.int (kindS lex acc), .str name, .int f, .int t, .own 100 acc.length] := F.obj (effL_uniq (nE_ok ..)) 9 rfl (F.aft 9 rfl rfl)
          generalize SL _ (nX m acc d) (nS m) L _ = s' at f60 ⊢
          generalize HL (effL (nE s lex name f t acc d k')) (nH s lex name f t acc (e + 1)) L _ = h' at o5 ⊢
          have FF := And.intro f60 (And.intro o5 FF)
          refine awpl_op (by rfl) (by rfl) ?_
          refine m_load ?_
          refine run_nil ?_
          refine awpl_end ?_
          exact ⟨rfl, rfl, rfl⟩,
        fun L F => by
          have f0 : SL _ (nX m acc d) (nS m) L _ 0 = .ptr 0 0 := F.old 0 rfl
          generalize SL _ (nX m acc d) (nS m) L _ = s' at f0 ⊢
          generalize HL (effL (nE s lex name f t acc d k')) (nH s lex name f t acc (e + 1)) L _ = h' at ⊢
          have FF := And.intro f0 FF
          refine awpl_op (by rfl) (by rfl) ?_
          refine m_move ?_
          refine run_nil ?_
          refine awpl_end ?_
          exact ⟨rfl, rfl, rfl⟩,
        fun L F => by
          have f1 : SL _ (nX m acc d) (nS m) L _ 1 = .int (65 - (m + 1 : Nat) : Int) := F.old 1 rfl
          generalize SL _ (nX m acc d) (nS m) L _ = s' at f1 ⊢
          generalize HL (effL (nE s lex name f t acc d k')) (nH s lex name f t acc (e + 1)) L _ = h' at ⊢
          have FF := And.intro f1 FF
          refine awpl_op (by rfl) (by rfl) ?_
          refine m_move ?_
          refine run_nil ?_
          refine awpl_end ?_
          exact ⟨rfl, rfl, rfl⟩,
        fun L F => by
          have f63 : SL _ (nX m acc d) (nS m) L _ 63 = .int (65 - (m + 1 : Nat) : Int) := F.slot 3 rfl rfl (F.dep 3 rfl rfl)
          generalize SL _ (nX m acc d) (nS m) L _ = s' at f63 ⊢
          generalize HL (effL (nE s lex name f t acc d k')) (nH s lex name f t acc (e + 1)) L _ = h' at ⊢
          have FF := And.intro f63 FF
          have FF := And.intro w4 FF
          refine awpl_op (by rfl) (by rfl) ?_
          refine m_bin ?_
          refine run_nil ?_
          refine awpl_end ?_
          exact ⟨rfl, rfl, rfl⟩,
        fun L F => by
          have f62 : SL _ (nX m acc d) (nS m) L _ 62 = .ptr 0 0 := F.slot 2 rfl rfl (F.dep 2 rfl rfl)
          have f64 : SL _ (nX m acc d) (nS m) L _ 64 = .int (65 - m : Int) := F.slot 4 rfl rfl (F.dep 4 rfl rfl)
          have o0 : HL (effL (nE s lex name f t acc d k')) (nH s lex name f t acc (e + 1)) L _ 0 = .box 38 [.str s, .int ((e + 1 : Nat) : Nat)] := F.obj (effL_uniq (nE_ok ..)) 5 rfl F.out
          generalize SL _ (nX m acc d) (nS m) L _ = s' at f62 f64 ⊢
          generalize HL (effL (nE s lex name f t acc d k')) (nH s lex name f t acc (e + 1)) L _ = h' at o0 ⊢
          have FF := And.intro f62 (And.intro f64 (And.intro o0 FF))
          refine awpl_callI [0] ((ih m rfl (e + 1) (by omega)).mono fun out h1 q => ?_) (by rfl) (by simp only [List.map, go_sem, reduceIte, Nat.reduceEqDiff, FF] <;> rfl) (prs_foot s (e + 1)) (by simp only [List.forall_mem_cons, List.forall_mem_nil, FF]; exact ⟨rfl, fun _ h => by cases h⟩) (by simp [AV.refsw, AV.ref1w])
          rw [hr] at q
          obtain ⟨rfl, rfl⟩ := q
          refine ⟨by simp [AV.refsw, AV.ref1w], prs_foot s k', ?_⟩
          refine awpl_end ?_
          exact ⟨rfl, rfl, rfl⟩,
        fun L F => by
          have f65 : SL _ (nX m acc d) (nS m) L _ 65 = .c (.agg (cellsD d)) := F.slot 5 rfl rfl (F.dep 5 rfl rfl)
          generalize SL _ (nX m acc d) (nS m) L _ = s' at f65 ⊢
          generalize HL (effL (nE s lex name f t acc d k')) (nH s lex name f t acc (e + 1)) L _ = h' at ⊢
          have FF := And.intro f65 FF
          refine awpl_op (by rfl) (by rfl) ?_
          refine m_sliceN ?_
          refine run_nil ?_
          refine awpl_end ?_
          exact ⟨rfl, rfl, rfl⟩,
        fun L F => by
          have f61 : SL _ (nX m acc d) (nS m) L _ 61 = .own 100 acc.length := F.slot 1 rfl rfl (F.dep 1 rfl rfl)
          have f66 : SL _ (nX m acc d) (nS m) L _ 66 = .c (.im 5 1 fun i => [cellsD d].getD i []) := F.slot 6 rfl rfl (F.dep 6 rfl rfl)
          have o100 : HL (effL (nE s lex name f t acc d k')) (nH s lex name f t acc (e + 1)) L _ 100 = .row 25 5 acc.length (fun q => (encDs acc).getD q []) := F.obj (effL_uniq (nE_ok ..)) 7 rfl F.out
          generalize SL _ (nX m acc d) (nS m) L _ = s' at f61 f66 ⊢
          generalize HL (effL (nE s lex name f t acc d k')) (nH s lex name f t acc (e + 1)) L _ = h' at o100 ⊢
          have FF := And.intro f61 (And.intro f66 (And.intro o100 FF))
          refine awpl_op (by rfl) (by rfl) ?_
          refine m_appOwn ?_
          refine run_nil ?_
          refine awpl_end ?_
          exact ⟨rfl, rfl, rfl⟩,
        fun L F => by
          have f5 : SL _ (nX m acc d) (nS m) L _ 5 = .ptr 5 0 := F.old 5 rfl
          generalize SL _ (nX m acc d) (nS m) L _ = s' at f5 ⊢
          generalize HL (effL (nE s lex name f t acc d k')) (nH s lex name f t acc (e + 1)) L _ = h' at ⊢
          have FF := And.intro f5 FF
          refine awpl_op (by rfl) (by rfl) ?_
          refine m_field ?_
          refine run_nil ?_
          refine awpl_end ?_
          exact ⟨rfl, rfl, rfl⟩,
        fun L F => by
          have f68 : SL _ (nX m acc d) (nS m) L _ 68 = .ptr 5 4 := F.slot 8 rfl rfl (F.dep 8 rfl rfl)
          have f67 : SL _ (nX m acc d) (nS m) L _ 67 = .own 100 (acc.length + 1) := F.slot 7 rfl rfl (F.dep 7 rfl rfl)
          have o5 : HL (effL (nE s lex name f t acc d k')) (nH s lex name f t acc (e + 1)) L _ 5 = .box 25 [.int (kindS lex acc), .str name, .int f, .int t, .own 100 acc.length] := F.obj (effL_uniq (nE_ok ..)) 9 rfl F.out
          generalize SL _ (nX m acc d) (nS m) L _ = s' at f68 f67 ⊢
          generalize HL (effL (nE s lex name f t acc d k')) (nH s lex name f t acc (e + 1)) L _ = h' at o5 ⊢
          have FF := And.intro f68 (And.intro f67 (And.intro o5 FF))
          refine awpl_op (by rfl) (by rfl) ?_
          refine m_stPtr ?_
          refine run_nil ?_
          refine awpl_end ?_
          exact ⟨rfl, rfl, rfl⟩, trivial⟩ fun _ => ?_
        have hlen : (acc ++ [d]).length = acc.length + 1 := by simp
        have hnext : kidsS (nodeS s m) s lex (s.size - k') (acc ++ [d]) k' = KR := by
          rw [← hres]
          exact kidsS_fuel (nodeS_le m) _ _ _ _ (Nat.le_refl _) (by omega)
        refine m_cut [(0, .ptr 0 0), (1, .int (65 - (m + 1 : Nat) : Int)), (4, .ptr 4 0), (5, .ptr 5 0)] [(0, .box 38 [.str s, .int (k' : Nat)]), (4, zeroD), (5, .box 25 [.int (kindS lex acc), .str name, .int f, .int t, .own 100 (acc.length + 1)]), (100, .row 25 5 (acc.length + 1) (fun q => if q < acc.length then (encDs acc).getD q [] else [cellsD d].getD (q - acc.length) []))] ?_
        clear ih hres
        refine awp_rseq (by decide) fun KK hKK => ?_
        refine m_field ?_
        refine m_load ?_
        refine m_bin ?_
        refine hKK _ _ ?_
        clear hKK KK
        refine m_cond (fun hc => ?_) (fun hc => ?_)
        · have hkd : kindS lex (acc ++ [d]) = 2 := kind_zero (by simpa using hc)
          refine awp_rlast (by decide) fun KK hKK => ?_
          refine m_field ?_
          first | refine m_stPtr ?_ | refine m_stRp ?_
          refine hKK _ _ ?_
          clear hKK KK
          rw [blockQ_normal]
          try rw [thenQ_normal]
          refine m_nextH ((acc ++ [d], k')) ?_ ?_ ?_
          · exact ⟨lk.2, by dsimp only; omega, hnext⟩
          · dsimp only; omega
          · dsimp only
            rw [hkd, hlen]
            exact List.forall_mem_cons.2 ⟨objLe_refl _, List.forall_mem_cons.2 ⟨objLe_refl _, List.forall_mem_cons.2 ⟨objLe_refl _, List.forall_mem_cons.2 ⟨hlen ▸ snocD_row acc d, List.forall_mem_nil _⟩⟩⟩⟩
        · have hkd : kindS lex (acc ++ [d]) = kindS lex acc := kind_same (by simpa using hc)
          refine awp_skip ?_
          rw [blockQ_normal]
          try rw [thenQ_normal]
          refine m_nextH ((acc ++ [d], k')) ?_ ?_ ?_
          · exact ⟨lk.2, by dsimp only; omega, hnext⟩
          · dsimp only; omega
          · dsimp only
            rw [hkd, hlen]
            exact List.forall_mem_cons.2 ⟨objLe_refl _, List.forall_mem_cons.2 ⟨objLe_refl _, List.forall_mem_cons.2 ⟨objLe_refl _, List.forall_mem_cons.2 ⟨hlen ▸ snocD_row acc d, List.forall_mem_nil _⟩⟩⟩⟩
    · have hc' : (isAt s e 32 && (!lex || acc.isEmpty)) = false := by
        rw [← cond_kids]
        exact hc
      have hend : KR = .ok acc e := by
        rw [← hres]
        cases hz : s.size - e with
        | zero => rfl
        | succ n => rw [kidsS, if_neg (by rw [hc']; decide)]
      refine awp_exit ?_
      simp only [thenQ_exit, blockQ_exit, reduceIte, Nat.reduceEqDiff]
      try rw [thenQ_normal]
      try rw [thenQ_normal]
      refine ⟨(acc, e), ?_, (by simp only [List.forall_mem_cons, List.forall_mem_nil, go_sem, reduceIte, Nat.reduceEqDiff, FF]; all_goals ((repeat' apply And.intro) <;> first | trivial | rfl | exact objLe_refl _ | (intro _ _; exact Subs.refl _))), (by simp only [List.forall_mem_cons, List.forall_mem_nil, go_sem, reduceIte, Nat.reduceEqDiff, FF]; all_goals ((repeat' apply And.intro) <;> first | trivial | rfl | exact objLe_refl _ | (intro _ _; exact Subs.refl _)))⟩
      exact ⟨hend, he1⟩
  rintro ⟨ks, k5⟩ ⟨hKR, hk5⟩
  dsimp only at hKR hk5 ⊢
  rw [hKR] at hN
  simp only at hN
  clear hK hKR ih
  refine awp_seq ?_
  refine awp_rseq (by decide) fun KK hKK => ?_
  refine m_field ?_
  refine m_load ?_
  refine m_bin ?_
  refine m_move ?_
  refine g_field ?_
  refine g_load ?_
  refine g_len ?_
  refine g_bin ?_
  refine m_pick ?_
  refine hKK _ _ ?_
  clear hKK KK
  refine m_cond (fun hc => ?_) (fun hc => ?_)
  · have hc' : (lex && ks.isEmpty) = true := by
      rw [← cond_tail]
      exact hc
    rw [tailS, if_pos hc'] at hN
    refine awp_regL ?_
    refine awpl_op (by rfl) (by rfl) ?_
    refine m_move ?_
    refine run_nil ?_
    refine awpl_callI [0] ((fail_ok s k5).mono fun out h1 q => ?_) (by rfl) (by simp only [List.map, go_sem, reduceIte, Nat.reduceEqDiff, FF] <;> rfl) (prs_foot s k5) (by simp only [List.forall_mem_cons, List.forall_mem_nil, go_sem, reduceIte, Nat.reduceEqDiff, FF]; all_goals ((repeat' apply And.intro) <;> first | trivial | rfl)) (by simp [AV.refsw, AV.ref1w])
    obtain ⟨rfl, rfl⟩ := q
    exact ⟨prs_foot s k5, rfl, prq_err hN rfl⟩
  have hc' : (lex && ks.isEmpty) = false := by
    rw [← cond_tail]
    exact hc
  rw [tailS, if_neg (by rw [hc']; decide)] at hN
  refine awp_skip ?_
  first | rw [thenQ_normal] | rw [blockQ_normal, thenQ_normal]
  refine m_cut [(0, .ptr 0 0), (4, .ptr 4 0), (5, .ptr 5 0)] [(0, .box 38 [.str s, .int (k5 : Nat)]), (4, zeroD), (5, .box 25 [.int (kindS lex ks), .str name, .int f, .int t, .own 100 ks.length]), (100, .row 25 5 ks.length (fun q => (encDs ks).getD q []))] ?_
  cases hi5 : isAt s k5 41 with
  | false =>
    rw [if_pos hi5] at hN
    refine awp_seqL ?_
    refine awpl_op (by rfl) (by rfl) ?_
    refine m_move ?_
    refine run_nil ?_
    refine awpl_callI [0] ((take_no s k5 41 (by omega) hi5).mono fun out h1 q => ?_) (by rfl) (by simp only [List.map, go_sem, reduceIte, Nat.reduceEqDiff, FF] <;> rfl) (prs_foot s k5) (by simp only [List.forall_mem_cons, List.forall_mem_nil, go_sem, reduceIte, Nat.reduceEqDiff, FF]; all_goals ((repeat' apply And.intro) <;> first | trivial | rfl)) (by simp [AV.refsw, AV.ref1w])
    obtain ⟨rfl, rfl⟩ := q
    exact ⟨prs_foot s k5, rfl, prq_err hN rfl⟩
  | true =>
  rw [if_neg (by rw [hi5]; decide)] at hN
  refine awp_seqL ?_
  refine awpl_op (by rfl) (by rfl) ?_
  refine m_move ?_
  refine run_nil ?_
  refine awpl_callI [0] ((take_yes s k5 41 (by omega) hi5).mono fun out h1 q => CallI.of_eq q (by simp [AV.refsw, AV.ref1w]) (prs_foot s (k5 + 1)) ?_) (by rfl) (by simp only [List.map, go_sem, reduceIte, Nat.reduceEqDiff, FF] <;> rfl) (prs_foot s k5) (by simp only [List.forall_mem_cons, List.forall_mem_nil, go_sem, reduceIte, Nat.reduceEqDiff, FF]; all_goals ((repeat' apply And.intro) <;> first | trivial | rfl)) (by simp [AV.refsw, AV.ref1w])
  refine awpl_end ?_
  rw [thenQ_normal]
  refine m_cut [(0, .ptr 0 0), (4, .ptr 4 0), (5, .ptr 5 0)] [(0, .box 38 [.str s, .int (k5 + 1 : Nat)]), (4, zeroD), (5, .box 25 [.int (kindS lex ks), .str name, .int f, .int t, .own 100 ks.length]), (100, .row 25 5 ks.length (fun q => (encDs ks).getD q []))] ?_
  refine m_frz 100 [(0, .ptr 0 0), (4, .ptr 4 0), (5, .ptr 5 0)] [(0, .box 38 [.str s, .int (k5 + 1 : Nat)]), (4, zeroD), (5, .box 25 [.int (kindS lex ks), .str name, .int f, .int t, .c (encKids ks)])] ?_
  refine awp_rseq (by decide) fun KK hKK => ?_
  refine m_load ?_
  first | refine m_stPtr ?_ | refine m_stRp ?_
  refine hKK _ _ ?_
  clear hKK KK
  refine awp_ret ⟨rfl, [_], ⟨k_load (by simp only [go_sem, reduceIte, Nat.reduceEqDiff, FF] <;> rfl) (by simp only [go_sem] <;> rfl) (by rfl) (by intro hG; simp only [go_sem]) (by exact lm_ptr (by simp only [go_sem, reduceIte, Nat.reduceEqDiff, FF] <;> rfl) (by simp only [go_sem, reduceIte, Nat.reduceEqDiff, FF] <;> rfl) (fun _ => Nat.le_of_ble_eq_true rfl)), trivial⟩, .inl ⟨.agg (cellsD (.mk (kindS lex ks) name f t ks)), ?_, CV.Sub.refl _, ?_⟩⟩
  · simp [AV.refsw, AV.ref1w]
  · rw [hN]
    exact ⟨rfl, keep_prs rfl⟩

theorem node_ok [Tabs] (s : ByteArray) (hs : s.size ≤ 100000) : ∀ (deep k : Nat), deep ≤ 64 → k ≤ s.size → AFun Tryz.prog 12 [.ptr 0 0, .c (.int (65 - deep : Int))] (prsH s k) (PRQ s (nodeS s deep k))
  | 0, k, hd, hk => node_step s hs 0 k hd hk fun m e => by omega
  | deep + 1, k, hd, hk => node_step s hs (deep + 1) k hd hk fun m e k' hk' => by
    have : m = deep := by omega
    subst this
    exact node_ok s hs m k' (by omega) hk'
end Go.Am

/- The abstract machine, part 32: deferred closures that recover. Generic over the program; no condition. -/
namespace Go.Am
open Go.RowKit

/-- The contract of a deferred call that is handed objects, from a frame in the mode u. -/
def AFunD [Glb] (P : Program) (f : FuncId) (u : FrameMode) (xs : List AV) (h : AH) (Q : Out → FrameMode → AH → Prop) : Prop :=
  ∀ (Z : Nat → Prop) (w : World) (gs : Gs) (vs : List Value), (∀ b, Z b → b < w.heap.size) → (∀ b, Glb.A b → Z b ∧ w.heap[b]? = Glb.M b) → HeapOk w Z h gs → vs.length = xs.length → (∀ i, i < xs.length → RA w (Zf Z gs) h gs (vs.getD i undef) (xs.getD i default)) →
    CallsD P f vs.toArray u w fun e u' w' => FEnd Z w h gs (fun out h' => Q out u' h') e w'

/-- The first thing that the closure does is to recover. -/
def recOps (r q : Tmp) (t1 t2 : TypeId) (p1 p2 : String) (a1 a2 : Array Edge) : Array Oper := #[⟨some r, .call ⟨.builtin .recover, #[], #[]⟩, t1, p1, a1, none⟩, ⟨some q, .assign (.tmp r), t2, p2, a2, none⟩]

/-- What recover finds, and the mode that it leaves. -/
def recV : FrameMode → Option (Value × FrameMode)
  | .panicking ({ v, recovered := false, goexit := false } :: older) => some (v, .panicking ({ v, recovered := true } :: older))
  | .returning => some (.nilIface, .returning)
  | _ => none

theorem entry_rel [Glb] {fn : Func} {xs : List AV} {h : AH} {Z : Nat → Prop} {w : World} {gs : Gs} {vs : List Value} (hl : xs.length ≤ fn.ntmps) (hz : ∀ b, Z b → b < w.heap.size) (hgl : ∀ b, Glb.A b → Z b ∧ w.heap[b]? = Glb.M b) (hok : HeapOk w Z h gs) (hlen : vs.length = xs.length) (hx : ∀ i, i < xs.length → RA w (Zf Z gs) h gs (vs.getD i undef) (xs.getD i default)) :
    RelG ⟨w, Z, h, gs, []⟩ fn.ntmps (entryA xs) h gs { tmps := vs.toArray ++ Array.replicate (fn.ntmps - vs.toArray.size) undef, defers := [] } w := by
  refine ⟨BelowX.refl _ _, hz, fun b hb => (by obtain ⟨o, K, e⟩ := hb; exact ⟨(hok.fresh o b K e).2, (hok.fresh o b K e).1⟩), hgl, fun o b K e => ⟨.inr ⟨o, K, e⟩, (hok.fresh o b K e).1⟩, hok.inj, hok.objs, fun t => ?_, by simp; omega, rfl, Refs.refl _ _⟩
  by_cases ht : t < xs.length
  · have e : (vs.toArray ++ Array.replicate (fn.ntmps - vs.toArray.size) undef).getD t undef = vs.getD t undef := by
      simp only [Array.getD_eq_getD_getElem?, List.getD_eq_getElem?_getD]
      rw [Array.getElem?_append_left (by simp; omega)]
      simp
    have e2 : entryA xs t = xs.getD t default := by unfold entryA; rw [getD_lt ht, getD_lt ht]
    simp only [e, e2]
    exact hx t ht
  · have : entryA xs t = .c .any := by
      unfold entryA
      rw [List.getD_eq_getElem?_getD, List.getElem?_eq_none (by omega)]
      rfl
    rw [this]
    exact .c _ _ (.any _)

/-- THE CONTRACT OF A DEFERRED CLOSURE that recovers at its beginning, from its body. -/
theorem afunD_of [Glb] {P : Program} {f : FuncId} {fn : Func} {id : Nat} {rest : Code} {r q : Tmp} {t1 t2 : TypeId} {p1 p2 : String} {a1 a2 : Array Edge} {xs : List AV} {h : AH} {fo : List Nat} {Q : Out → AH → Prop} {u u' : FrameMode} {V : Value}
    (hf : P.funcs[f]? = some fn) (hb : fn.body = some (.seq (.region id (recOps r q t1 t2 p1 p2 a1 a2) false) rest)) (hl : xs.length ≤ fn.ntmps) (hr : r < fn.ntmps) (hq : q < fn.ntmps) (hrec : recV u = some (V, u'))
    (hfo : ∀ o, h o ≠ .gone → o ∈ fo) (hc : AWp P fn.ntmps fo rest (FRetQ P fn fo Q) (upd (upd (entryA xs) r (.c (.raw V))) q (.c (.raw V))) h) : AFunD P f u xs h (fun out u2 h' => u2 = u' ∧ Q out h') := by
  intro Z w gs vs hz hgl hok hlen hx
  have hR := entry_rel (fn := fn) hl hz hgl hok hlen hx
  refine callsD_of_wpS hf hb fun c₀ cs hu => ?_
  apply wpS_seq
  apply wpS_region
  have hcs : ∃ cs', (∀ (a : Act), wpOpsS P (recOps r q t1 t2 p1 p2 a1 a2) (Exit.thenS (rest.wpS P (bodyPostS P fn c₀ cs fun e u2 w' => FEnd Z w h gs (fun out h' => u2 = u' ∧ Q out h') e w')) (bodyPostS P fn c₀ cs fun e u2 w' => FEnd Z w h gs (fun out h' => u2 = u' ∧ Q out h') e w')) (List.range (recOps r q t1 t2 p1 p2 a1 a2).size) a (c₀ :: cs) w =
      rest.wpS P (bodyPostS P fn c₀ cs fun e u2 w' => FEnd Z w h gs (fun out h' => u2 = u' ∧ Q out h') e w') ((a.put (some r) V).put (some q) ((a.put (some r) V).tmps.getD r undef)) cs' w) ∧ cs' = { c₀ with mode := u' } :: cs := by
    refine ⟨_, fun a => ?_, rfl⟩
    unfold recV at hrec
    split at hrec
    · simp only [Option.some.injEq, Prod.mk.injEq] at hrec
      obtain ⟨rfl, rfl⟩ := hrec
      simp [wpOpsS, recOps, go_sem, recoverD, hu, Exit.thenS, Region.wanted, List.range, List.range.loop]
    · simp only [Option.some.injEq, Prod.mk.injEq] at hrec
      obtain ⟨rfl, rfl⟩ := hrec
      have e0 : ({ c₀ with mode := FrameMode.returning } : Frame) = c₀ := by cases c₀; simp_all
      rw [e0]
      simp [wpOpsS, recOps, go_sem, recoverD, hu, Exit.thenS, Region.wanted, List.range, List.range.loop]
    · cases hrec
  obtain ⟨cs', hcs, rfl⟩ := hcs
  rw [hcs]
  refine wpS_of_wp ?_
  have R1 := (hR.put (d := r) hr (v := V) (x := .c (.raw V)) (.c _ _ (.raw _)))
  have e1 : (({ tmps := vs.toArray ++ Array.replicate (fn.ntmps - vs.toArray.size) undef, defers := [] } : Act).put (some r) V).tmps.getD r undef = V := by
    have := put_getD (a := { tmps := vs.toArray ++ Array.replicate (fn.ntmps - vs.toArray.size) undef, defers := [] }) (d := r) (t := r) (v := V) (by rw [hR.size]; exact hr)
    rw [this, if_pos rfl]
  rw [e1]
  have R2 := R1.put (d := q) hq (v := V) (x := .c (.raw V)) (.c _ _ (.raw _))
  refine wp_mono (frame_wp hfo hc ⟨_, R2⟩) fun e a' w' b => ?_
  have lift : ∀ en, FEnd Z w h gs Q en w' → FEnd Z w h gs (fun out h' => u' = u' ∧ Q out h') en w' := fun en ⟨out, h', gs', q, r⟩ => ⟨out, h', gs', ⟨rfl, q⟩, r⟩
  cases e with
  | normal => obtain ⟨b1, v, b2, b3⟩ := b; exact ⟨b1, u', rfl, v, b2, lift _ b3⟩
  | ret => obtain ⟨b1, v, b2, b3⟩ := b; exact ⟨b1, u', rfl, v, b2, lift _ b3⟩
  | panic ch => obtain ⟨b1, b3⟩ := b; exact ⟨b1, u', rfl, lift _ b3⟩
  | outgrown => exact ⟨u', lift _ b⟩
  | _ => exact b.elim

section
variable {P : Program} {E : Env} {w : World} {nt : Nat} {s : Slots} {h h1 : AH} {gs : Gs} {a : Act} {fo : List Nat}

/-- At the door: a deferred closure over objects of the frame's own. -/
theorem door_core [Glb] (R : RelG E nt s h gs a w) {f : FuncId} {u : FrameMode} {xs : List AV} {vs : List Value} {ks : List Nat} {ρ : Nat → Nat} {Q : Out → FrameMode → AH → Prop}
    (hf : AFunD P f u xs h1 Q) (hi : ∀ a ∈ ks, ∀ b ∈ ks, ρ a = ρ b → a = b) (hft : Foot ks h1) (hh : ∀ k ∈ ks, h (ρ k) = (h1 k).ren ρ) (hx : ∀ x ∈ xs, ∀ k ∈ x.refsw, k ∈ ks)
    (hlen : vs.length = xs.length) (hv : ∀ i, i < xs.length → RA w (Zf E.Z gs) h gs (vs.getD i undef) ((xs.getD i default).ren ρ)) :
    CallsD P f vs.toArray u w fun e u' w' => ∃ out h', Q out u' h' ∧ (∃ Z, outOk (fun v x => ∃ gs', RA w' Z h' gs' v x) e out) ∧ (Foot ks h' → ∃ gs', RelG E nt s (appL ρ (AObj.ren ρ) h' ks h) gs' a w') := by
  have hz : ∀ b, Zf (zsub ks ρ E.Z gs) (gsub ks ρ gs) b → Zf E.Z gs b := fun b => (zf_sub b).1
  have hcall := hf (zsub ks ρ E.Z gs) w (gsub ks ρ gs) vs (fun b hb => by
      rcases hb.1 with q | ⟨o, K, q⟩
      · exact Nat.lt_of_lt_of_le (R.zlt b q) R.below.size
      · exact (R.fresh o b K q).2) (fun b hb => by
      have hg := R.glb b hb
      refine ⟨⟨.inl hg.1, ?_⟩, hg.2⟩
      rintro ⟨k, _, K, e⟩
      rcases (R.fresh _ _ _ e).1 with q | q
      · have := R.zlt b hg.1
        omega
      · exact (R.zd b q).1 hg.1) (heap_sub R hi hft hh) hlen (fun i hi' => by
      refine RA.unren hz _ (fun k hk => ?_) (hv i hi')
      have hm : k ∈ ks := hx _ (by rw [getD_lt hi']; exact List.getElem_mem hi') k hk
      exact ⟨hh k hm, gsub_in hm⟩)
  refine hcall.mono fun e u' w' ⟨out, h1', g1', q, hout, hok, hb, hrf, hnew⟩ => ⟨out, h1', q, ⟨Zf (zsub ks ρ E.Z gs) g1', ?_⟩, fun hft' => ⟨_, (heap_back R hi hft hh hft' hok hb hrf hnew).1⟩⟩
  cases e <;> cases out <;> first | exact ⟨_, hout⟩ | exact hout
end
end Go.Am

/- The abstract machine, part 33: a function that defers a closure which recovers. Generic over the program; no condition. -/
namespace Go.Am
open Go.RowKit

def dfOps (q g o1 o2 : Nat) (t1 t2 : TypeId) (p1 p2 : String) (a1 a2 : Array Edge) : Array Oper := #[⟨some q, .makeFunc (.func g) #[] #[.tmp o1, .tmp o2], t1, p1, a1, none⟩, ⟨none, .defer ⟨.value (.tmp q), #[], #[]⟩, t2, p2, a2, none⟩]
def dRho (o1 o2 : Nat) (k : Nat) : Nat := if k = 0 then o1 else o2

/-- At the door, in the mode u: the closure over the two results' variables leaves what is to be returned. -/
def DoorQ [Glb] (P : Program) (fn : Func) (r : CV) (g o1 o2 : Nat) (u : FrameMode) (s : Slots) (h : AH) : Prop :=
  ∃ (T1 T2 : TypeId) (c1 c2 : List CV), h o1 = .box T1 (c1.map .c) ∧ h o2 = .box T2 (c2.map .c) ∧
    AFunD P g u [.ptr 0 0, .ptr 1 0] (ofH [(0, .box T1 (c1.map .c)), (1, .box T2 (c2.map .c))]) fun out u' h' =>
      (∃ x, out = .ret x) ∧ settle u' = .returning ∧ Foot [0, 1] h' ∧ RetQ P fn r .ret s (appL (dRho o1 o2) (AObj.ren (dRho o1 o2)) h' [0, 1] h)
def DoorY [Glb] (P : Program) (fn : Func) (r : CV) (g o1 o2 : Nat) : APost
  | .ret, s, h => DoorQ P fn r g o1 o2 .returning s h
  | .panic c, s, h => DoorQ P fn r g o1 o2 (.panicking c) s h
  | _, _, _ => False
def DoorX [Glb] (P : Program) (fn : Func) (r : CV) (q g o1 o2 : Nat) (Y : Code) : APost
  | .ret, s, h => RetQ P fn r .ret s h
  | .normal, s, h => s o1 = .ptr o1 0 ∧ s o2 = .ptr o2 0 ∧ (∀ o, h o ≠ .gone → o ∈ [o1, o2]) ∧ AWp P fn.ntmps [o1, o2] Y (DoorY P fn r g o1 o2) (upd s q (.c .any)) h
  | _, _, _ => False

theorem map_c_ren (ρ : Nat → Nat) (c : List CV) : (c.map AV.c).map (AV.ren ρ) = c.map AV.c := by
  rw [List.map_map]
  rfl

theorem apure_recover [Glb] {P : Program} {f : FuncId} {fn : Func} {A X Y : Code} {id q g o1 o2 : Nat} {t1 t2 : TypeId} {p1 p2 : String} {a1 a2e : Array Edge} {xs : List CV} {r : CV}
    (hf : P.funcs[f]? = some fn) (hb : fn.body = some (.seq A (.seq X (.seq (.region id (dfOps q g o1 o2 t1 t2 p1 p2 a1 a2e) false) Y)))) (hn : (fn.name == "runtime.NumGoroutine") = false) (hl : xs.length ≤ fn.ntmps)
    (hq : q < fn.ntmps) (hqo : q ≠ o1 ∧ q ≠ o2 ∧ o1 ≠ o2) (hg : Enters P g)
    (hA : AWp P fn.ntmps [] A (thenQ (AWp P fn.ntmps [] X (DoorX P fn r q g o1 o2 Y)) fun _ _ _ => False) (entryA (xs.map .c)) (fun _ => .gone)) : APure P f xs r := by
  refine ⟨⟨fn, hf, hn, by rw [hb]; rfl⟩, fun Z w vs hz hgl hlen hx => ?_⟩
  refine calls_of_wp_defers hf hb ?_
  have hok : HeapOk w Z (fun _ => .gone) (fun _ => none) := ⟨fun o b K e => (by cases e), fun o o' b K K' e => (by cases e), fun o => rfl⟩
  have hzf : ∀ b, Zf Z (fun _ => none) b → Z b := by
    intro b hb
    rcases hb with hb | ⟨o, K, hb⟩
    · exact hb
    · exact absurd hb (by simp)
  have hR := entry_rel (fn := fn) (xs := xs.map .c) (by simpa using hl) hz hgl hok (by simpa using hlen) (fun i hi => by
    have hi' : i < xs.length := by simpa using hi
    rw [getD_lt hi, List.getElem_map]
    have := hx i hi'
    rw [getD_lt hi'] at this
    exact .c _ _ (this.less hzf))
  have In : ∀ ds : List Deferred, Env.In ⟨w, Z, fun _ => .gone, fun _ => none, ds⟩ [] := fun ds o ho => absurd rfl ho
  have fin : ∀ {ds : List Deferred} {s : Slots} {h : AH} {gs : Gs} {a : Act} {w' : World}, RelG ⟨w, Z, fun _ => .gone, fun _ => none, ds⟩ fn.ntmps s h gs a w' → RetQ P fn r .ret s h →
      ∃ v, (results fn a.tmps).run P w' = .ok v w' ∧ ∃ v', Ending.returned v = .returned v' ∧ RC w' Z v' r ∧ Below w.heap.size w w' := by
    intro ds s h gs a w' R' ⟨ys, q1, q2⟩
    obtain ⟨v, h1, h2⟩ := rets_value R' q1
    exact ⟨v, h1, v, rfl, q2 _ _ _ h2, ⟨R'.below.os, R'.below.tape, R'.below.output, R'.below.size, fun k hk => R'.below.block k hk fun hd => (by obtain ⟨o, K, e⟩ := hd; cases e)⟩⟩
  refine wp_seq (wp_mono (hA _ _ w (In []) ⟨_, hR⟩) fun e a' w' ⟨s', h', q0, R'⟩ => ?_)
  cases e with
  | normal =>
    refine wp_seq (wp_mono (q0 _ a' w' (In []) R') fun e a2 w2 ⟨s2, h2, q2, gs2, R2⟩ => ?_)
    cases e with
    | ret =>
      show Leaves P fn a2.tmps _ a2.defers .returning w2
      rw [R2.defers]
      exact fin R2 q2
    | normal =>
      obtain ⟨k1, k2, hin, hY⟩ := q2
      have v1 := R2.slots o1
      have v2 := R2.slots o2
      rw [k1] at v1
      rw [k2] at v2
      have hd2 : a2.defers = [] := R2.defers
      generalize hp1 : a2.tmps.getD o1 undef = w1 at v1
      generalize hp2 : a2.tmps.getD o2 undef = w2' at v2
      cases v1 with
      | ptr _ _ b1 K1 T1 cs1 ho1 hg1 =>
      cases v2 with
      | ptr _ _ b2 K2 T2 cs2 ho2 hg2 =>
      have e1 : (execOp a2.eval ⟨some q, .makeFunc (.func g) #[] #[.tmp o1, .tmp o2], t1, p1, a1, none⟩).run P w2 = .ok (.value (.func (.func g) #[] #[.pointer (some ⟨b1, 0, none⟩), .pointer (some ⟨b2, 0, none⟩)])) w2 := by
        simp [execOp, Instr.makeFunc, Act.eval, hp1, hp2]
      have hq2 : ∀ F : Value, (a2.put (some q) F).tmps.getD q undef = F := fun F => by rw [put_getD (by rw [R2.size]; exact hq), if_pos rfl]
      have e2 : ∀ F : Array Value, (execOp (a2.put (some q) (.func (.func g) #[] F)).eval ⟨none, .defer ⟨.value (.tmp q), #[], #[]⟩, t2, p2, a2e, none⟩).run P w2 = .ok (.defer { target := .fn (.func g) F, args := #[] }) w2 := fun F => by
        have := hq2 (.func (.func g) #[] F)
        simp [execOp, resolve, Deferred.ofValue, Act.eval, this]
      refine wp_seq (wp_region_list ?_)
      show wpList P _ _ [_, _] a2 w2
      unfold wpList
      rw [if_pos (by simp [Region.wanted])]
      refine .inl ?_
      unfold Oper.wp
      rw [e1]
      show wpList P _ _ [_] (a2.put (some q) _) w2
      unfold wpList
      rw [if_pos (by simp [Region.wanted])]
      refine .inl ?_
      unfold Oper.wp
      rw [e2]
      generalize hD : ({ target := .fn (.func g) #[.pointer (some ⟨b1, 0, none⟩), .pointer (some ⟨b2, 0, none⟩)], args := #[] } : Deferred) = D
      generalize Value.func (.func g) #[] #[.pointer (some ⟨b1, 0, none⟩), .pointer (some ⟨b2, 0, none⟩)] = F
      show Y.wp P _ { a2.put (some q) F with defers := D :: (a2.put (some q) F).defers } w2
      have RP := R2.put hq (v := F) (x := .c .any) (.c _ _ (.any _))
      have low : ∀ b o K, gs2 o = some (b, K) → w.heap.size ≤ b := fun b o K e => by
        rcases (R2.fresh o b K e).1 with h1 | ⟨o', K', h1⟩
        · exact h1
        · cases h1
      have R3 : RelG ⟨w2, Z, h2, gs2, [D]⟩ fn.ntmps (upd s2 q (.c .any)) h2 gs2 { a2.put (some q) F with defers := D :: (a2.put (some q) F).defers } w2 := by
        refine ⟨BelowX.refl _ _, fun b hb => Nat.lt_of_lt_of_le (R2.zlt b hb) R2.below.size, fun b hb => ?_, fun b hb => R2.glb b hb, fun o b K e => ⟨.inr ⟨o, K, e⟩, (R2.fresh o b K e).2⟩, R2.inj, R2.objs, RP.slots, RP.size, ?_, Refs.refl _ _⟩
        · obtain ⟨o, K, e⟩ := hb
          refine ⟨fun hZ => ?_, (R2.fresh o b K e).2⟩
          have h1 := low b o K e
          have h2 := R2.zlt b hZ
          dsimp only at h2
          omega
        · rw [put_def, hd2]
      refine wp_mono (hY _ _ w2 (fun o ho => hin o ho) ⟨_, R3⟩) fun e a4 w4 ⟨s4, h4, q4, gs4, R4⟩ => ?_
      have hd4 : a4.defers = [D] := R4.defers
      obtain ⟨fng, f1, f2, f3⟩ := hg
      have f2' : ¬ fng.name = "runtime.NumGoroutine" := by simpa using f2
      have f3' : ¬ fng.body = none := fun e => by rw [e] at f3; simp at f3
      have door : ∀ u, u ≠ .run → DoorQ P fn r g o1 o2 u s4 h4 → Leaves P fn a4.tmps (fun e w' => ∃ v, e = .returned v ∧ RC w' Z v r ∧ Below w.heap.size w w') [D] u w4 := by
        intro u hu ⟨T1', T2', c1, c2, g1, g2, hfd⟩
        rw [← hD]
        have g4 := (R4.refs.box o1 _ _ ho1).2
        have g5 := (R4.refs.box o2 _ _ ho2).2
        refine leaves_cons (f := g) (args := [Value.pointer (some ⟨b1, 0, none⟩), .pointer (some ⟨b2, 0, none⟩)].toArray) hu (by simp [invoke, callFunc, f1, f2', f3']) ?_
        refine (door_core R4 hfd (ks := [0, 1]) (ρ := dRho o1 o2) (vs := [.pointer (some ⟨b1, 0, none⟩), .pointer (some ⟨b2, 0, none⟩)]) ?_ ?_ ?_ (by simp [AV.refsw, AV.ref1w]) rfl ?_).mono ?_
        · intro x hx y hy e
          simp only [List.mem_cons, List.not_mem_nil, or_false] at hx hy
          rcases hx with rfl | rfl <;> rcases hy with rfl | rfl <;> simp_all [dRho]
        · refine ⟨fun k hk => ?_, fun k hk ty cells e x hx k' hk' => ?_⟩
          · simp only [List.mem_cons, List.not_mem_nil, or_false, not_or] at hk
            simp [ofH_cons, ofH_nil, hk.1, hk.2]
          · simp only [List.mem_cons, List.not_mem_nil, or_false] at hk
            rcases hk with rfl | rfl
            · simp only [ofH_cons, if_true, AObj.box.injEq] at e
              obtain ⟨_, rfl⟩ := e
              obtain ⟨y, _, rfl⟩ := List.mem_map.1 hx
              simp [AV.refsw, AV.ref1w] at hk'
            · simp only [ofH_cons, if_true, Nat.one_ne_zero, if_false, AObj.box.injEq] at e
              obtain ⟨_, rfl⟩ := e
              obtain ⟨y, _, rfl⟩ := List.mem_map.1 hx
              simp [AV.refsw, AV.ref1w] at hk'
        · intro k hk
          simp only [List.mem_cons, List.not_mem_nil, or_false] at hk
          rcases hk with rfl | rfl
          · show h4 o1 = AObj.box T1' ((c1.map AV.c).map (AV.ren _))
            rw [map_c_ren]
            exact g1
          · show h4 o2 = AObj.box T2' ((c2.map AV.c).map (AV.ren _))
            rw [map_c_ren]
            exact g2
        · intro i hi
          match i, hi with
          | 0, _ => exact .ptr o1 0 b1 K1 _ _ g1 (g4.trans hg1)
          | 1, _ => exact .ptr o2 0 b2 K2 _ _ g2 (g5.trans hg2)
        · rintro e u' w5 ⟨out, h5, ⟨⟨x, rfl⟩, hs, hft, hret⟩, ⟨_, hout⟩, hrel⟩
          cases e with
          | returned v =>
            obtain ⟨gs5, R5⟩ := hrel hft
            show Leaves P fn a4.tmps _ [] (settle u') w5
            rw [hs]
            obtain ⟨ys, q1, q2⟩ := hret
            obtain ⟨v, j1, j2⟩ := rets_value R5 q1
            refine ⟨v, j1, v, rfl, q2 _ _ _ j2, ?_⟩
            have B1 := R2.below
            have B2 := R5.below
            refine ⟨B2.os.trans B1.os, B2.tape.trans B1.tape, B2.output.trans B1.output, Nat.le_trans B1.size B2.size, fun k hk => ?_⟩
            refine (B2.block k (Nat.lt_of_lt_of_le hk B1.size) ?_).trans (B1.block k hk fun ⟨o, K, e⟩ => by cases e)
            rintro ⟨o, K, e⟩
            have := low k o K e
            omega
          | panicked c => exact hout.elim
          | outgrown => exact hout.elim
      cases e with
      | ret =>
        show Leaves P fn a4.tmps _ a4.defers .returning w4
        rw [hd4]
        exact door _ (by simp) q4
      | panic c =>
        show Leaves P fn a4.tmps _ a4.defers (.panicking c) w4
        rw [hd4]
        exact door _ (by simp) q4
      | _ => exact q4.elim
    | _ => exact q2.elim
  | _ => exact q0.elim

/-- An empty slice in a variable reads as a tree. -/
theorem weak_emptyB [Glb] {fo : List Nat} {s : Slots} {h : AH} (b k sz : Nat) (f : Nat → List CV) {tb : TypeId} {cells : List AV} (hb : h b = .box tb cells) (hk : cells.getD k default = .emp) : Weak fo s h s (upd h b (.box tb (cells.set k (.c (.im sz 0 f))))) := by
  intro E nt a w I ⟨gs, R⟩
  refine ⟨_, R.eff b (.box tb (cells.set k (.c (.im sz 0 f)))) (gs b) rfl rfl rfl (Nat.le_refl _) (fun _ _ _ => rfl) (.inl rfl) (fun ty cs e => ⟨⟨_, _, rfl⟩, rfl⟩) (fun ty sz n f e => by rw [hb] at e; cases e) fun hL hr => ?_⟩
  have hob := R.objs b
  rw [hb] at hob
  obtain ⟨b', K, cur, g1, g2, g3, g4, g5⟩ := hob
  refine ⟨b', K, cur, by rw [upd_same]; exact g1, g2, by rw [List.length_set]; exact g3, fun j hj => g4 j (by rw [List.length_set] at hj; exact hj), fun j hj => ?_⟩
  rw [List.length_set] at hj
  have h5 := (g5 j hj).later hL hr
  by_cases hjk : j = k
  · subst hjk
    rw [hk] at h5
    have e : (cells.set j (AV.c (.im sz 0 f))).getD j default = .c (.im sz 0 f) := by simp [List.getD_eq_getElem?_getD, hj]
    rw [e]
    generalize cur.getD j undef = v at h5
    cases h5 with
    | emp A => exact .c _ _ (.nul _ _ _ _)
  · have e : (cells.set k (AV.c (.im sz 0 f))).getD j default = cells.getD j default := by simp [List.getD_eq_getElem?_getD, List.getElem?_set_ne (Ne.symm hjk)]
    rw [e]
    exact h5
end Go.Am

/- Contracts: Parse. No condition. -/
namespace Go.Am
open Go.Proofs
attribute [local go_sem ↓] ofL_cons ofH_cons upd_apply
set_option maxHeartbeats 4000000
set_option linter.unusedSimpArgs false
-- @APPL

theorem awp_rlast_drawF [Glb] {P : Program} {nt : Nat} {fo : List Nat} {s : Slots} {h : AH} {Q : APost} (hf : P.follows .mixedOrders = true) (free : List (Nat × Nat)) {id : Nat} {ops : List Oper} (hs : slotsOk nt ops = true) (hd : drawOkF free ops.toArray = true) (hr : ∀ K : Slots → AH → Prop, (∀ s h, freeFin free ops.toArray s = true → Q .normal s h → K s h) → aRun P ops.toArray K ops s h) : AWp P nt fo (.region id ops.toArray true) Q s h :=
  awp_region_drawF hf free hs hd (hr _ fun _ _ f q => ⟨f, q⟩)

/-- A type assertion that holds. -/
theorem awpl_assert [Glb] {P : Program} {nt : Nat} {fo : List Nat} {ops : Array Oper} {l : List Oper} {Q : APost} {s : Slots} {h : AH} {d : Tmp} {t u ty : TypeId} {y : Operand} {pos : String} {af : Array Edge} {e : Int} (hy : ev s y = .c (.raw (.iface u (.agg #[.int .i64 e])))) (hrun : ∀ w : World, (Instr.typeAssert (.iface u (.agg #[.int .i64 e])) t u true).run P w = .ok (.tuple #[.agg #[.int .i64 e], .bool true]) w) (hd : d < nt)
    (hn : AWpL P nt fo ops l Q (upd s d (.c (.tup [.agg [.int e], .bool true]))) h) : AWpL P nt fo ops (⟨some d, .typeAssert y t u true, ty, pos, af, none⟩ :: l) Q s h := by
  refine awpl_val (s' := upd s d (.c (.tup [.agg [.int e], .bool true]))) (h' := h) rfl (fun E a w gs R => ?_) hn
  have hv' := ev_ok R y
  rw [hy] at hv'
  have e1 := hv'.raw_inv
  refine ⟨.tuple #[.agg #[.int .i64 e], .bool true], w, ?_, gs, R.put hd (.c _ _ (.tup _ _ rfl fun i hi => ?_))⟩
  · simp [execOp, e1, hrun]
  · match i, hi with
    | 0, _ => exact .agg _ _ rfl (fun i hi => by match i, hi with | 0, _ => rfl) fun i hi => by match i, hi with | 0, _ => exact .raw _
    | 1, _ => exact .raw _

theorem Tryz.undAny : Tryz.prog.underlying 20 = some (.interface (Tryz.prog.methodsAt 20)) := by kernel_rfl
theorem Tryz.assertFail (e : Int) (w : World) : (Instr.typeAssert (.iface 34 (.agg #[.int .i64 e])) 20 34 true).run Tryz.prog w = .ok (.tuple #[.agg #[.int .i64 e], .bool true]) w := by
  simp [Instr.typeAssert, go_sem]

theorem rec_enters : Enters Tryz.prog 11 := ⟨_, Tryz.func11, by kernel_rfl, rfl⟩
/-- The variables of the two results. -/
def resH (d : Dv) (e : Int) : AH := ofH [(0, .box 25 ((cellsD d).map .c)), (1, .box 26 [.int e])]
def resZ (e : Int) : AH := ofH [(0, zeroD), (1, .box 26 [.int e])]
theorem res_out (d : Dv) (e : Int) (o : Nat) (ho : resH d e o ≠ .gone) : o ∈ [0, 1] := by
  refine Classical.byContradiction fun hm => ho ?_
  simp only [List.mem_cons, List.not_mem_nil, or_false, not_or] at hm
  simp [resH, ofH_cons, ofH_nil, hm.1, hm.2]

theorem resZ_foot (e : Int) : Foot [0, 1] (resZ e) := by
  refine ⟨fun k hk => ?_, fun k hk ty cells e x hx k' hk' => ?_⟩
  · simp only [List.mem_cons, List.not_mem_nil, or_false, not_or] at hk
    simp [resZ, ofH_cons, ofH_nil, hk.1, hk.2]
  · simp only [List.mem_cons, List.not_mem_nil, or_false] at hk
    rcases hk with rfl | rfl
    · simp only [resZ, ofH_cons, if_true, AObj.box.injEq] at e
      obtain ⟨_, rfl⟩ := e
      simp only [List.mem_cons, List.not_mem_nil, or_false] at hx
      rcases hx with rfl | rfl | rfl | rfl | rfl <;> simp [AV.refsw, AV.ref1w] at hk'
    · simp only [resZ, ofH_cons, if_true, Nat.one_ne_zero, if_false, AObj.box.injEq] at e
      obtain ⟨_, rfl⟩ := e
      simp only [List.mem_cons, List.not_mem_nil, or_false] at hx
      rcases hx with rfl
      simp [AV.refsw, AV.ref1w] at hk'
theorem resH_foot (d : Dv) (e : Int) : Foot [0, 1] (resH d e) := by
  refine ⟨fun k hk => ?_, fun k hk ty cells e x hx k' hk' => ?_⟩
  · simp only [List.mem_cons, List.not_mem_nil, or_false, not_or] at hk
    simp [resH, ofH_cons, ofH_nil, hk.1, hk.2]
  · simp only [List.mem_cons, List.not_mem_nil, or_false] at hk
    rcases hk with rfl | rfl
    · simp only [resH, ofH_cons, if_true, AObj.box.injEq] at e
      obtain ⟨_, rfl⟩ := e
      obtain ⟨y, _, rfl⟩ := List.mem_map.1 hx
      simp [AV.refsw, AV.ref1w] at hk'
    · simp only [resH, ofH_cons, if_true, Nat.one_ne_zero, if_false, AObj.box.injEq] at e
      obtain ⟨_, rfl⟩ := e
      simp only [List.mem_cons, List.not_mem_nil, or_false] at hx
      rcases hx with rfl
      simp [AV.refsw, AV.ref1w] at hk'

variable [Glb]

/-- The closure where nothing panics. -/
theorem rec_idle (d : Dv) (e : Int) : AFunD Tryz.prog 11 .returning [.ptr 0 0, .ptr 1 0] (resH d e) (fun out u' h' => u' = .returning ∧ out = .ret (.c (.tup [])) ∧ h' = resH d e) := by
  refine afunD_of (V := .nilIface) (fo := [0, 1]) (Q := fun out h' => out = .ret (.c (.tup [])) ∧ h' = resH d e) Tryz.func11 rfl (by simp [Tryz.ntmps11]) (by rw [Tryz.ntmps11]; decide) (by rw [Tryz.ntmps11]; decide) rfl (res_out d e) ?_
  have FF : True := trivial
  rw [Tryz.ntmps11]
  refine m_cut [(0, .ptr 0 0), (1, .ptr 1 0), (2, .c (.raw .nilIface))] [(0, .box 25 ((cellsD d).map .c)), (1, .box 26 [.int e])] ?_
  refine awp_seqL ?_
  refine awpl_op (by rfl) (by rfl) ?_
  refine m_move ?_
  refine run_nil ?_
  refine awpl_neqNil (b := false) (by simp only [go_sem, reduceIte, Nat.reduceEqDiff] <;> rfl) (.inl ⟨rfl, rfl⟩) Tryz.undAny (by decide) ?_
  refine awpl_end ?_
  rw [thenQ_normal]
  refine m_cond (fun hc => ?_) (fun hc => ?_)
  · cases hc
  refine awp_skip ?_
  refine ⟨rfl, [], trivial, .inl ⟨.tup [], by simp, CV.Sub.refl _, rfl, keepH_eq (l := [(0, .box 25 ((cellsD d).map .c)), (1, .box 26 [.int e])]) fun p hp => ?_⟩⟩
  simp only [List.mem_cons, List.not_mem_nil, or_false] at hp
  rcases hp with rfl | rfl <;> rfl

/-- The closure where the parser was left. -/
theorem rec_pan (d : Dv) (e0 e : Int) : AFunD Tryz.prog 11 (.panicking (failE e)) [.ptr 0 0, .ptr 1 0] (resH d e0) (fun out u' h' => u' = .panicking [{ v := .iface 34 (.agg #[.int .i64 e]), recovered := true }] ∧ out = .ret (.c (.tup [])) ∧ h' = resZ e) := by
  refine afunD_of (V := .iface 34 (.agg #[.int .i64 e])) (fo := [0, 1]) (Q := fun out h' => out = .ret (.c (.tup [])) ∧ h' = resZ e) Tryz.func11 rfl (by simp [Tryz.ntmps11]) (by rw [Tryz.ntmps11]; decide) (by rw [Tryz.ntmps11]; decide) rfl (res_out d e0) ?_
  have FF : True := trivial
  rw [Tryz.ntmps11]
  refine m_cut [(0, .ptr 0 0), (1, .ptr 1 0), (2, .c (.raw (.iface 34 (.agg #[.int .i64 e]))))] [(0, .box 25 ((cellsD d).map .c)), (1, .box 26 [.int e0])] ?_
  refine awp_seqL ?_
  refine awpl_op (by rfl) (by rfl) ?_
  refine m_move ?_
  refine run_nil ?_
  refine awpl_neqNil (b := true) (by simp only [go_sem, reduceIte, Nat.reduceEqDiff] <;> rfl) (.inr ⟨⟨_, _, rfl⟩, rfl⟩) Tryz.undAny (by decide) ?_
  refine awpl_end ?_
  rw [thenQ_normal]
  refine m_cond (fun hc => ?_) (fun hc => ?_)
  rotate_left
  · cases hc
  refine awp_seqL ?_
  refine awpl_op (by rfl) (by rfl) ?_
  refine m_move ?_
  refine run_nil ?_
  refine awpl_assert (e := e) (by simp only [go_sem, reduceIte, Nat.reduceEqDiff] <;> rfl) (Tryz.assertFail e) (by decide) ?_
  refine awpl_op (by rfl) (by rfl) ?_
  refine m_move ?_
  refine run_nil ?_
  refine awpl_op (by rfl) (by rfl) ?_
  refine m_extract ?_
  refine run_nil ?_
  refine awpl_op (by rfl) (by rfl) ?_
  refine m_extract ?_
  refine run_nil ?_
  refine awpl_op (by rfl) (by rfl) ?_
  refine m_alloc ?_
  refine run_nil ?_
  refine awpl_op (by rfl) (by rfl) ?_
  refine m_stPtr ?_
  refine run_nil ?_
  refine awpl_op (by rfl) (by rfl) ?_
  refine m_assign ?_
  refine run_nil ?_
  refine awpl_end ?_
  rw [thenQ_normal]
  refine m_cut [(0, .ptr 0 0), (1, .ptr 1 0), (3, .ptr 3 0), (4, .bool true)] [(0, .box 25 ((cellsD d).map .c)), (1, .box 26 [.int e0]), (3, .box 34 [.c (.int e)])] ?_
  refine awp_seq ?_
  refine awp_rseq (by decide) fun KK hKK => ?_
  refine m_move ?_
  refine m_not ?_
  refine hKK _ _ ?_
  clear hKK KK
  refine m_cond (fun hc => ?_) (fun hc => ?_)
  · cases hc
  refine awp_skip ?_
  first | rw [thenQ_normal] | rw [blockQ_normal, thenQ_normal]
  refine awp_rlast_drawF Tryz.mixed [(3, 2)] (by decide) (by kernel_rfl) fun KK hKK => ?_
  refine m_build ?_
  refine m_field ?_
  refine m_load ?_
  refine m_stPtr ?_
  refine m_stPtr ?_
  refine hKK _ _ (by rfl) ?_
  clear hKK KK
  refine ⟨rfl, [], trivial, .inl ⟨.tup [], by simp, CV.Sub.refl _, rfl, keepH_eq (l := [(0, zeroD), (1, .box 26 [.int e])]) fun p hp => ?_⟩⟩
  simp only [List.mem_cons, List.not_mem_nil, or_false] at hp
  rcases hp with rfl | rfl <;> rfl

def pRho (k : Nat) : Nat := if k = 0 then 12 else 100
/-- What Parse answers, for every string. -/
def parseF (s : ByteArray) : Dv × Int := if 65536 < s.size then (default, 7) else parseS s
abbrev parseC (p : Dv × Int) : CV := .tup [.agg (cellsD p.1), .int p.2]

/-- At the door where the parser was left. -/
theorem door_pan {s : Slots} {h : AH} {d : Dv} {e0 e : Int} {p : Dv × Int} (h1 : h 2 = .box 25 ((cellsD d).map .c)) (h2 : h 3 = .box 26 [.int e0]) (s1 : s 2 = .ptr 2 0) (s2 : s 3 = .ptr 3 0) (hp : p = (default, e)) :
    DoorQ Tryz.prog Tryz.f5 (parseC p) 11 2 3 (.panicking (failE e)) s h := by
  refine ⟨25, 26, cellsD d, [.int e0], h1, h2, ?_⟩
  intro Z w gs vs z1 z2 z3 z4 z5
  refine (rec_pan d e0 e Z w gs vs z1 z2 z3 z4 z5).mono fun en u' w' hq => ?_
  obtain ⟨out, h', gs', ⟨rfl, rfl, rfl⟩, hr⟩ := hq
  refine ⟨_, _, gs', ⟨⟨_, rfl⟩, rfl, resZ_foot e, ?_⟩, hr⟩
  have FF := And.intro s1 s2
  subst hp
  refine ⟨[_, _], ⟨k_load (by simp only [go_sem, reduceIte, Nat.reduceEqDiff, FF] <;> rfl) (by simp only [go_sem] <;> rfl) (by rfl) (by intro hG; simp only [go_sem]) (by exact lm_ptr (by rfl) (by rfl) (fun _ => Nat.le_of_ble_eq_true rfl)), k_load (by simp only [go_sem, reduceIte, Nat.reduceEqDiff, FF] <;> rfl) (by simp only [go_sem] <;> rfl) (by rfl) (by intro hG; simp only [go_sem]) (by exact lm_ptr (by rfl) (by rfl) (fun _ => Nat.le_of_ble_eq_true rfl)), trivial⟩, ?_⟩
  exact sub_tup ⟨sub_agg ⟨CV.Sub.refl _, CV.Sub.refl _, CV.Sub.refl _, CV.Sub.refl _, CV.Sub.im0 rfl rfl, trivial⟩, CV.Sub.refl _, trivial⟩
theorem door_ret {s : Slots} {h : AH} {d : Dv} {p : Dv × Int} (h1 : h 2 = .box 25 ((cellsD d).map .c)) (h2 : h 3 = .box 26 [.int 0]) (s1 : s 2 = .ptr 2 0) (s2 : s 3 = .ptr 3 0) (hp : p = (d, 0)) :
    DoorQ Tryz.prog Tryz.f5 (parseC p) 11 2 3 .returning s h := by
  refine ⟨25, 26, cellsD d, [.int 0], h1, h2, ?_⟩
  intro Z w gs vs z1 z2 z3 z4 z5
  refine (rec_idle d 0 Z w gs vs z1 z2 z3 z4 z5).mono fun en u' w' hq => ?_
  obtain ⟨out, h', gs', ⟨rfl, rfl, rfl⟩, hr⟩ := hq
  refine ⟨_, _, gs', ⟨⟨_, rfl⟩, rfl, resH_foot d 0, ?_⟩, hr⟩
  have FF := And.intro s1 s2
  subst hp
  refine ⟨[_, _], ⟨k_load (by simp only [go_sem, reduceIte, Nat.reduceEqDiff, FF] <;> rfl) (by simp only [go_sem] <;> rfl) (by rfl) (by intro hG; simp only [go_sem]) (by exact lm_ptr (by rfl) (by rfl) (fun _ => Nat.le_of_ble_eq_true rfl)), k_load (by simp only [go_sem, reduceIte, Nat.reduceEqDiff, FF] <;> rfl) (by simp only [go_sem] <;> rfl) (by rfl) (by intro hG; simp only [go_sem]) (by exact lm_ptr (by rfl) (by rfl) (fun _ => Nat.le_of_ble_eq_true rfl)), trivial⟩, ?_⟩
  exact CV.Sub.refl _

theorem Parse_ok [Tabs] (s : ByteArray) : APure Tryz.prog 5 [.str s] (parseC (parseF s)) := by
  refine apure_recover (q := 9) (g := 11) (o1 := 2) (o2 := 3) Tryz.func5 rfl (by kernel_rfl) (by simp [Tryz.ntmps5]) (by rw [Tryz.ntmps5]; decide) (by decide) rec_enters ?_
  have FF : True := trivial
  rw [Tryz.ntmps5]
  refine awp_rlast (by decide) fun KK hKK => ?_
  refine m_alloc ?_
  refine m_alloc ?_
  refine hKK _ _ ?_
  clear hKK KK
  rw [thenQ_normal]
  refine m_cut [(0, .str s), (2, .ptr 2 0), (3, .ptr 3 0)] [(2, zeroD), (3, .box 26 [.int 0])] ?_
  refine awp_rseq (by decide) fun KK hKK => ?_
  refine m_move ?_
  refine m_len ?_
  refine m_bin ?_
  refine hKK _ _ ?_
  clear hKK KK
  refine m_cond (fun hc => ?_) (fun hc => ?_)
  · have hp : parseF s = (default, 7) := by
      simp only [decide_eq_true_eq] at hc
      rw [parseF, if_pos (by omega)]
    rw [hp]
    refine awp_rseq (by decide) fun KK hKK => ?_
    refine m_build ?_
    first | refine m_stPtr ?_ | refine m_stRp ?_
    first | refine m_stPtr ?_ | refine m_stRp ?_
    refine hKK _ _ ?_
    clear hKK KK
    refine awp_ret ⟨[_, _], ⟨k_load (by simp only [go_sem, reduceIte, Nat.reduceEqDiff, FF] <;> rfl) (by simp only [go_sem] <;> rfl) (by rfl) (by intro hG; simp only [go_sem]) (by exact lm_ptr (by simp only [go_sem, reduceIte, Nat.reduceEqDiff, FF] <;> rfl) (by simp only [go_sem, reduceIte, Nat.reduceEqDiff, FF, Nat.reduceAdd, Nat.reduceSub, Nat.reduceMul, Nat.reduceLeDiff] <;> rfl) (fun _ => Nat.le_of_ble_eq_true rfl)), k_load (by simp only [go_sem, reduceIte, Nat.reduceEqDiff, FF] <;> rfl) (by simp only [go_sem] <;> rfl) (by rfl) (by intro hG; simp only [go_sem]) (by exact lm_ptr (by simp only [go_sem, reduceIte, Nat.reduceEqDiff, FF] <;> rfl) (by simp only [go_sem, reduceIte, Nat.reduceEqDiff, FF, Nat.reduceAdd, Nat.reduceSub, Nat.reduceMul, Nat.reduceLeDiff] <;> rfl) (fun _ => Nat.le_of_ble_eq_true rfl)), trivial⟩, ?_⟩
    simp only [go_sem, reduceIte, Nat.reduceEqDiff, FF, tupled]
    exact sub_tup ⟨sub_agg ⟨CV.Sub.refl _, CV.Sub.refl _, CV.Sub.refl _, CV.Sub.refl _, CV.Sub.im0 rfl rfl, trivial⟩, CV.Sub.refl _, trivial⟩
  have hsz : s.size ≤ 65536 := by
    simp only [decide_eq_false_iff_not] at hc
    omega
  have hp : parseF s = parseS s := by rw [parseF, if_neg (by omega)]
  rw [hp]
  clear hp hc
  refine awp_skip ?_
  refine ⟨rfl, rfl, fun o ho => ?_, ?_⟩
  · refine Classical.byContradiction fun hm => ho ?_
    simp only [List.mem_cons, List.not_mem_nil, or_false, not_or] at hm
    simp [ofH_cons, ofH_nil, hm.1, hm.2]
  refine AWp.weak (weak_emptyB 2 4 5 (fun i => (encDs []).getD i []) (by rfl) (by rfl)) ?_
  refine m_cut [(0, .str s), (2, .ptr 2 0), (3, .ptr 3 0)] [(2, .box 25 ((cellsD default).map .c)), (3, .box 26 [.int 0])] ?_
  refine awp_rseq (by decide) fun KK hKK => ?_
  refine m_move ?_
  refine m_build ?_
  refine m_box ?_
  refine m_assign ?_
  refine hKK _ _ ?_
  clear hKK KK
  refine m_cut [(0, .str s), (2, .ptr 2 0), (3, .ptr 3 0), (4, .ptr 12 0)] [(2, .box 25 ((cellsD default).map .c)), (3, .box 26 [.int 0]), (12, .box 38 [.str s, .int (0 : Nat)])] ?_
  have hnode := node_ok s (by omega) 64 0 (Nat.le_refl _) (Nat.zero_le _)
  refine awp_seqL ?_
  refine awpl_op (by rfl) (by rfl) ?_
  refine m_move ?_
  refine run_nil ?_
  cases hn : nodeS s 64 0 with
  | err e =>
    rw [hn] at hnode
    have hp : parseS s = (default, e) := by rw [parseS, hn]
    refine awpl_call [0] pRho (hnode.mono fun out h1 q => ?_) (by rfl) (by simp only [List.map, go_sem, reduceIte, Nat.reduceEqDiff, FF] <;> rfl) (by simp) (prs_foot s 0) (by simp only [List.forall_mem_cons, List.forall_mem_nil]; exact ⟨rfl, fun _ h => by cases h⟩) (by simp [AV.refsw, AV.ref1w])
    obtain ⟨rfl, j, rfl⟩ := q
    refine ⟨prs_foot s j, ?_⟩
    exact door_pan (d := default) (e0 := 0) rfl rfl rfl rfl hp
  | ok d k =>
    rw [hn] at hnode
    have hk := nodeS_le 64 0 d k hn
    refine awpl_call [0] pRho (hnode.mono fun out h1 q => ?_) (by rfl) (by simp only [List.map, go_sem, reduceIte, Nat.reduceEqDiff, FF] <;> rfl) (by simp) (prs_foot s 0) (by simp only [List.forall_mem_cons, List.forall_mem_nil]; exact ⟨rfl, fun _ h => by cases h⟩) (by simp [AV.refsw, AV.ref1w])
    obtain ⟨rfl, rfl⟩ := q
    refine ⟨by simp [AV.refsw, AV.ref1w], prs_foot s k, ?_⟩
    dsimp only [updO, AV.ren, appL]
    rw [show pRho 0 = 12 from rfl]
    refine awpl_op (by rfl) (by rfl) ?_
    refine m_stPtr ?_
    refine run_nil ?_
    refine awpl_end ?_
    rw [thenQ_normal]
    refine m_cut [(0, .str s), (2, .ptr 2 0), (3, .ptr 3 0), (4, .ptr 12 0)] [(2, .box 25 ((cellsD d).map .c)), (3, .box 26 [.int 0]), (12, .box 38 [.str s, .int (k : Nat)])] ?_
    refine awp_seq ?_
    refine awp_rseq (by decide) fun KK hKK => ?_
    refine m_move ?_
    refine m_nil ?_
    refine m_field ?_
    refine m_load ?_
    refine m_move ?_
    refine m_len ?_
    refine m_bin ?_
    refine hKK _ _ ?_
    clear hKK KK
    refine m_cond (fun hc => ?_) (fun hc => ?_)
    · have hlt : k < s.size := by
        simp only [decide_eq_true_eq] at hc
        omega
      have hp : parseS s = (default, 8) := by rw [parseS, hn]; simp only; rw [if_pos hlt]
      have hf : failAt s k = 8 := by rw [failAt, if_neg (by omega)]
      refine awp_regL ?_
      refine awpl_op (by rfl) (by rfl) ?_
      refine m_move ?_
      refine run_nil ?_
      refine awpl_call [0] pRho ((fail_ok s k).mono fun out h1 q => ?_) (by rfl) (by simp only [List.map, go_sem, reduceIte, Nat.reduceEqDiff, FF] <;> rfl) (by simp) (prs_foot s k) (by simp only [List.forall_mem_cons, List.forall_mem_nil]; exact ⟨rfl, fun _ h => by cases h⟩) (by simp [AV.refsw, AV.ref1w])
      obtain ⟨rfl, rfl⟩ := q
      refine ⟨prs_foot s k, ?_⟩
      rw [hf]
      exact door_pan (d := d) (e0 := 0) rfl rfl rfl rfl hp
    · have hlt : ¬ k < s.size := by
        simp only [decide_eq_false_iff_not] at hc
        omega
      have hp : parseS s = (d, 0) := by rw [parseS, hn]; simp only; rw [if_neg hlt]
      refine awp_skip ?_
      first | rw [thenQ_normal] | rw [blockQ_normal, thenQ_normal]
      refine awp_rseq (by decide) fun KK hKK => ?_
      refine m_load ?_
      first | refine m_stPtr ?_ | refine m_stRp ?_
      first | refine m_stPtr ?_ | refine m_stRp ?_
      refine hKK _ _ ?_
      clear hKK KK
      refine awp_ret ?_
      exact door_ret (d := d) rfl rfl rfl rfl hp
end Go.Am

/- Contracts: the chapter's examples. No condition. -/
namespace Go.Am
open Go.Proofs
attribute [local go_sem ↓] ofL_cons ofH_cons upd_apply
attribute [local go_sem] cellsD
set_option maxHeartbeats 4000000
set_option linter.unusedSimpArgs false

def exS1 : ByteArray := ⟨#[40, 110, 112, 32, 48, 32, 50, 32, 40, 116, 104, 101, 32, 48, 32, 49, 41, 32, 40, 43, 112, 108, 117, 114, 97, 108, 32, 49, 32, 50, 32, 40, 100, 111, 103, 32, 49, 32, 50, 41, 41, 41]⟩
def exS2 : ByteArray := ⟨#[40, 100, 111, 103, 32, 48, 32, 49]⟩
def exS3 : ByteArray := ⟨#[40, 43, 115, 32, 48, 32, 49, 41]⟩
def exS4 : ByteArray := ⟨#[40, 115, 32, 48, 32, 49, 32, 40, 118, 112, 32, 48, 32, 49, 32, 40, 118, 32, 48, 32, 49, 41, 41, 41]⟩
def exThe : Dv := .mk 0 ⟨#[116, 104, 101]⟩ 0 1 []
def exDog : Dv := .mk 0 ⟨#[100, 111, 103]⟩ 1 2 []
def exPl : Dv := .mk 1 ⟨#[112, 108, 117, 114, 97, 108]⟩ 1 2 [exDog]
def exD : Dv := .mk 2 ⟨#[110, 112]⟩ 0 2 [exThe, exPl]
def exU : Dv := .mk 2 ⟨#[115]⟩ 0 1 [.mk 2 ⟨#[118, 112]⟩ 0 1 [.mk 0 ⟨#[118]⟩ 0 1 []]]
theorem ex1 : parseF exS1 = (exD, 0) := by kernel_rfl
theorem ex2 : parseF exS2 = (default, 9) := by kernel_rfl
theorem ex3 : parseF exS3 = (default, 8) := by kernel_rfl
theorem ex4 : parseF exS4 = (exU, 0) := by kernel_rfl
theorem ex5 : printD exD = exS1 := by kernel_rfl
theorem exD_in : inD exD ∧ okD exD := by
  simp [inD, inDs, okD, okDs, exD, exThe, exPl, exDog, inI]
theorem exA_ok (n : Int) : okD (.mk 0 ⟨#[97]⟩ 0 n []) := by simp [okD, okDs]

variable [Glb]

theorem p1_ok [Tabs] : APure Tryz.prog 5 [.str exS1] (.tup [.agg [.int 2, .str ⟨#[110, 112]⟩, .int 0, .int 2, encKids [exThe, exPl]], .int 0]) := by
  have := Parse_ok exS1
  rw [ex1] at this
  exact this
theorem p2_ok [Tabs] : APure Tryz.prog 5 [.str exS2] (.tup [.agg (cellsD default), .int 9]) := by
  have := Parse_ok exS2
  rw [ex2] at this
  exact this
theorem p3_ok [Tabs] : APure Tryz.prog 5 [.str exS3] (.tup [.agg (cellsD default), .int 8]) := by
  have := Parse_ok exS3
  rw [ex3] at this
  exact this
theorem p4_ok [Tabs] : APure Tryz.prog 5 [.str exS4] (.tup [.agg (cellsD exU), .int 0]) := by
  have := Parse_ok exS4
  rw [ex4] at this
  exact this

theorem prt_ok [Tabs] : APure Tryz.prog 8 [.agg (cellsD exD)] (.str exS1) := by
  have := Print_ok exD exD_in.1 exD_in.2 (by rw [ex5]; decide)
  rw [ex5] at this
  exact this
theorem un1_ok : APure Tryz.prog 9 [.agg (cellsD exU)] (.int 2) := by
  have := unary_ok exU (by decide)
  rw [show unaryD exU = 2 by decide] at this
  exact this
theorem un2_ok : APure Tryz.prog 9 [.agg (cellsD exD)] (.int 0) := by
  have := unary_ok exD (by decide)
  rw [show unaryD exD = 0 by decide] at this
  exact this
theorem cm1_ok : APure Tryz.prog 10 [.agg (cellsD (.mk 0 ⟨#[97]⟩ 0 1 [])), .agg (cellsD (.mk 0 ⟨#[97]⟩ 0 2 []))] (.int (-1)) := by
  have := cmp_ok 1 (.mk 0 ⟨#[97]⟩ 0 1 []) (.mk 0 ⟨#[97]⟩ 0 2 []) (by decide) (exA_ok 1) (exA_ok 2)
  rw [show cmpD (.mk 0 ⟨#[97]⟩ 0 1 []) (.mk 0 ⟨#[97]⟩ 0 2 []) = -1 by kernel_rfl] at this
  exact this
theorem cm2_ok : APure Tryz.prog 10 [.agg (cellsD (.mk 0 ⟨#[97]⟩ 0 2 [])), .agg (cellsD (.mk 0 ⟨#[97]⟩ 0 2 []))] (.int 0) := by
  have := cmp_ok 1 (.mk 0 ⟨#[97]⟩ 0 2 []) (.mk 0 ⟨#[97]⟩ 0 2 []) (by decide) (exA_ok 2) (exA_ok 2)
  rw [show cmpD (.mk 0 ⟨#[97]⟩ 0 2 []) (.mk 0 ⟨#[97]⟩ 0 2 []) = 0 by kernel_rfl] at this
  exact this

theorem ex_ok [Tabs] : APure Tryz.prog 4 [] (.bool true) := by
  have FF : True := trivial
  refine apure_of Tryz.func4 rfl (by kernel_rfl) (by simp [Tryz.ntmps4]) ?_
  rw [Tryz.ntmps4]
  refine awp_rseq (by decide) fun KK hKK => ?_
  refine m_assign ?_
  refine hKK _ _ ?_
  clear hKK KK
  refine awp_rseq (by decide) fun KK hKK => ?_
  refine m_call (fun hG => p1_ok) ?_
  refine m_move ?_
  refine m_extract ?_
  refine m_extract ?_
  refine m_alloc ?_
  first | refine m_stPtr ?_ | refine m_stRp ?_
  refine m_assign ?_
  refine hKK _ _ ?_
  clear hKK KK
  refine m_cut [(1, .ptr 1 0), (2, .int 0)] [(1, .box 25 ((cellsD exD).map .c))] ?_
  refine awp_rseq (by decide) fun KK hKK => ?_
  refine m_call (fun hG => p2_ok) ?_
  refine m_move ?_
  refine m_extract ?_
  refine m_extract ?_
  refine m_alloc ?_
  first | refine m_stPtr ?_ | refine m_stRp ?_
  refine m_assign ?_
  refine hKK _ _ ?_
  clear hKK KK
  refine m_cut [(1, .ptr 1 0), (2, .int 0), (4, .int 9)] [(1, .box 25 ((cellsD exD).map .c))] ?_
  refine awp_rseq (by decide) fun KK hKK => ?_
  refine m_call (fun hG => p3_ok) ?_
  refine m_move ?_
  refine m_extract ?_
  refine m_extract ?_
  refine m_alloc ?_
  first | refine m_stPtr ?_ | refine m_stRp ?_
  refine m_assign ?_
  refine hKK _ _ ?_
  clear hKK KK
  refine m_cut [(1, .ptr 1 0), (2, .int 0), (4, .int 9), (6, .int 8)] [(1, .box 25 ((cellsD exD).map .c))] ?_
  refine awp_rseq (by decide) fun KK hKK => ?_
  refine m_call (fun hG => p4_ok) ?_
  refine m_move ?_
  refine m_extract ?_
  refine m_extract ?_
  refine m_alloc ?_
  first | refine m_stPtr ?_ | refine m_stRp ?_
  refine m_assign ?_
  refine hKK _ _ ?_
  clear hKK KK
  refine m_cut [(1, .ptr 1 0), (2, .int 0), (4, .int 9), (6, .int 8), (7, .ptr 7 0), (8, .int 0)] [(1, .box 25 ((cellsD exD).map .c)), (7, .box 25 ((cellsD exU).map .c))] ?_
  refine awp_rseq (by decide) fun KK hKK => ?_
  refine m_build ?_
  refine m_build ?_
  refine m_alloc ?_
  refine m_alloc ?_
  first | refine m_stPtr ?_ | refine m_stRp ?_
  first | refine m_stPtr ?_ | refine m_stRp ?_
  refine hKK _ _ ?_
  clear hKK KK
  refine AWp.weak (weak_emptyB 9 4 5 (fun i => (encDs []).getD i []) (by rfl) (by rfl)) ?_
  refine AWp.weak (weak_emptyB 10 4 5 (fun i => (encDs []).getD i []) (by rfl) (by rfl)) ?_
  refine m_cut [(1, .ptr 1 0), (2, .int 0), (4, .int 9), (6, .int 8), (7, .ptr 7 0), (8, .int 0), (9, .ptr 9 0), (10, .ptr 10 0)] [(1, .box 25 ((cellsD exD).map .c)), (7, .box 25 ((cellsD exU).map .c)), (9, .box 25 ((cellsD (.mk 0 ⟨#[97]⟩ 0 1 [])).map .c)), (10, .box 25 ((cellsD (.mk 0 ⟨#[97]⟩ 0 2 [])).map .c))] ?_
  refine awp_rseq (by decide) fun KK hKK => ?_
  refine m_move ?_
  refine m_bin ?_
  refine m_move ?_
  refine g_field ?_
  refine g_load ?_
  refine g_bin ?_
  refine m_pick ?_
  refine m_move ?_
  refine g_field ?_
  refine g_load ?_
  refine g_len ?_
  refine g_bin ?_
  refine m_pick ?_
  refine m_move ?_
  refine g_field ?_
  refine g_load ?_
  refine g_index ?_
  refine g_field ?_
  refine g_load ?_
  refine g_bin ?_
  refine m_pick ?_
  refine m_move ?_
  refine g_field ?_
  refine g_load ?_
  refine g_index ?_
  refine g_field ?_
  refine g_load ?_
  refine g_index ?_
  refine g_field ?_
  refine g_load ?_
  refine g_bin ?_
  refine m_pick ?_
  refine m_move ?_
  refine g_load ?_
  refine g_call (fun hG => prt_ok) ?_
  refine g_bin ?_
  refine m_pick ?_
  refine m_move ?_
  refine g_move ?_
  refine g_bin ?_
  refine m_pick ?_
  refine m_move ?_
  refine g_move ?_
  refine g_bin ?_
  refine m_pick ?_
  refine m_move ?_
  refine g_move ?_
  refine g_bin ?_
  refine m_pick ?_
  refine m_move ?_
  refine g_load ?_
  refine g_call (fun hG => un1_ok) ?_
  refine g_bin ?_
  refine m_pick ?_
  refine m_move ?_
  refine g_load ?_
  refine g_call (fun hG => un2_ok) ?_
  refine g_bin ?_
  refine m_pick ?_
  refine m_move ?_
  refine g_load ?_
  refine g_load ?_
  refine g_call (fun hG => cm1_ok) ?_
  refine g_bin ?_
  refine m_pick ?_
  refine m_move ?_
  refine g_load ?_
  refine g_load ?_
  refine g_call (fun hG => cm2_ok) ?_
  refine g_bin ?_
  refine m_pick ?_
  refine m_assign ?_
  refine hKK _ _ ?_
  clear hKK KK
  refine awp_ret ⟨[_], ⟨⟨(by simp only [go_sem, reduceIte, Nat.reduceEqDiff, FF]), (by simp only [go_sem, reduceIte, Nat.reduceEqDiff, FF] <;> rfl)⟩, trivial⟩, ?_⟩
  simp only [go_sem, reduceIte, Nat.reduceEqDiff, FF, tupled]
  refine CV.Sub.of_eq ?_
  kernel_rfl
end Go.Am

/- Numbers read and printed: plain. No condition. -/
namespace Go.Am
open Go.Proofs

theorem dig_toNat {d : Nat} (h : d < 10) : (UInt8.ofNat (48 + d)).toNat = 48 + d := by
  rw [UInt8.toNat_ofNat']
  omega
theorem dec_step {a d : Nat} (ha : 0 < a) (hd : d < 10) : Lib.decDigits (a * 10 + d) = Lib.decDigits a ++ [UInt8.ofNat (48 + d)] := by
  rw [Lib.decDigits, dif_neg (by omega), show (a * 10 + d) / 10 = a by omega, show (a * 10 + d) % 10 = d by omega]
theorem dec_div {u : Nat} (h : 10 ≤ u) : Lib.decDigits u = Lib.decDigits (u / 10) ++ [UInt8.ofNat (48 + u % 10)] := by
  rw [Lib.decDigits, dif_neg (by omega)]
theorem isD_dig {d : Nat} (h : d < 10) : isD (UInt8.ofNat (48 + d)) = true := by
  rw [isD, dig_toNat h]
  simp
  omega
/-- Digits alone; not empty; no 0 ahead of a number that is not 0. -/
theorem dec_facts : ∀ u : Nat, (∀ x ∈ Lib.decDigits u, isD x = true) ∧ ∃ c r, Lib.decDigits u = c :: r ∧ (0 < u → c.toNat ≠ 48) := by
  intro u
  induction u using Nat.strongRecOn with
  | _ u ih =>
    by_cases h : u < 10
    · rw [Lib.decDigits_one h]
      refine ⟨fun x hx => ?_, _, [], rfl, fun h0 => ?_⟩
      · simp only [List.mem_cons, List.not_mem_nil, or_false] at hx
        rw [hx]
        exact isD_dig h
      · rw [dig_toNat h]
        omega
    · obtain ⟨i1, c, r, i2, i3⟩ := ih (u / 10) (by omega)
      rw [dec_div (by omega)]
      refine ⟨fun x hx => ?_, c, r ++ [UInt8.ofNat (48 + u % 10)], by rw [i2]; rfl, fun _ => i3 (by omega)⟩
      rw [List.mem_append] at hx
      rcases hx with hx | hx
      · exact i1 x hx
      · simp only [List.mem_cons, List.not_mem_nil, or_false] at hx
        rw [hx]
        exact isD_dig (by omega)
theorem dec_zero : Lib.decDigits 0 = [48] := by rw [Lib.decDigits_one (by omega)]; rfl

theorem parse_app : ∀ (l r : List UInt8) (acc a : Nat), Lib.parseUint10 acc l = .ok a → Lib.parseUint10 acc (l ++ r) = Lib.parseUint10 a r
  | [], r, acc, a, h => by
    simp only [Lib.parseUint10] at h
    injection h with h
    rw [h]
    rfl
  | c :: l, r, acc, a, h => by
    rw [List.cons_append]
    rw [Lib.parseUint10] at h ⊢
    split at h
    · rename_i hc
      rw [if_pos hc]
      split at h
      · cases h
      · rename_i h1
        rw [if_neg h1]
        split at h
        · cases h
        · rename_i h2
          rw [if_neg h2]
          exact parse_app l r _ _ h
    · cases h
theorem parse_dec : ∀ u : Nat, u < 18446744073709551616 → Lib.parseUint10 0 (Lib.decDigits u) = .ok u := by
  intro u
  induction u using Nat.strongRecOn with
  | _ u ih =>
    intro hu
    by_cases h : u < 10
    · rw [Lib.decDigits_one h, Lib.parseUint10, dig_toNat h, if_pos (by omega), if_neg (by omega), if_neg (by omega), Lib.parseUint10]
      congr 1
      omega
    · rw [dec_div (by omega), parse_app _ _ _ _ (ih (u / 10) (by omega) (by omega)), Lib.parseUint10, dig_toNat (by omega), if_pos (by omega), if_neg (by omega), if_neg (by omega), Lib.parseUint10]
      congr 1
      omega
theorem dec_of_parse : ∀ (l : List UInt8) (acc u : Nat), 0 < acc → Lib.parseUint10 acc l = .ok u → Lib.decDigits u = Lib.decDigits acc ++ l
  | [], acc, u, ha, h => by
    simp only [Lib.parseUint10] at h
    injection h with h
    rw [h, List.append_nil]
  | c :: l, acc, u, ha, h => by
    rw [Lib.parseUint10] at h
    split at h
    · rename_i hc
      split at h
      · cases h
      · split at h
        · cases h
        · have := dec_of_parse l _ u (by omega) h
          rw [this, dec_step ha (by omega), List.append_assoc]
          congr 2
          rw [show 48 + (c.toNat - 48) = c.toNat by omega]
          exact congrArg (· :: l) (UInt8.ofNat_toNat)
    · cases h
/-- A numeral without a 0 ahead is what its number is printed as. -/
theorem dec_canon {c : UInt8} {l : List UInt8} {u : Nat} (hd : isD c = true) (h0 : c.toNat ≠ 48) (h : Lib.parseUint10 0 (c :: l) = .ok u) : Lib.decDigits u = c :: l ∧ 0 < u := by
  simp only [isD, Bool.and_eq_true, decide_eq_true_eq] at hd
  rw [Lib.parseUint10, if_pos hd, if_neg (by omega)] at h
  split at h
  · cases h
  · have e : 0 * 10 + (c.toNat - 48) = c.toNat - 48 := by omega
    rw [e] at h
    have := dec_of_parse l _ u (by omega) h
    rw [Lib.decDigits_one (i := c.toNat - 48) (by omega), show 48 + (c.toNat - 48) = c.toNat by omega, UInt8.ofNat_toNat] at this
    refine ⟨this, ?_⟩
    rcases Nat.eq_zero_or_pos u with h1 | h1
    · subst h1
      rw [dec_zero] at this
      injection this with this
      rw [← this] at h0
      exact absurd rfl h0
    · exact h1
/-- The beginning of a numeral is a numeral. -/
theorem dec_take : ∀ (u m : Nat), 1 ≤ m → m ≤ (Lib.decDigits u).length → ∃ v, v ≤ u ∧ (0 < u → 0 < v) ∧ (Lib.decDigits u).take m = Lib.decDigits v := by
  intro u
  induction u using Nat.strongRecOn with
  | _ u ih =>
    intro m h1 h2
    by_cases hm : m = (Lib.decDigits u).length
    · exact ⟨u, Nat.le_refl _, id, by rw [hm, List.take_length]⟩
    · by_cases h : u < 10
      · rw [Lib.decDigits_one h] at h2 hm
        simp at h2 hm
        omega
      · have e := dec_div (u := u) (by omega)
        rw [e] at h2 hm
        simp only [List.length_append, List.length_cons, List.length_nil] at h2 hm
        obtain ⟨v, v1, v2, v3⟩ := ih (u / 10) (by omega) m h1 (by omega)
        refine ⟨v, by omega, fun _ => v2 (by omega), ?_⟩
        rw [e, List.take_append_of_le_length (by omega), v3]

theorem trimP_neg (l : List UInt8) : Lib.trimPrefix (45 :: l) [45] = l := by simp [Lib.trimPrefix, Lib.hasPrefix, List.isPrefixOf]
theorem trimP_pos {c : UInt8} (l : List UInt8) (h : c ≠ 45) : Lib.trimPrefix (c :: l) [45] = c :: l := by
  have : ¬ (45 : UInt8) = c := fun e => h e.symm
  simp [Lib.trimPrefix, Lib.hasPrefix, List.isPrefixOf, this]
theorem byteAt0 (c : UInt8) (l : List UInt8) : byteAt ⟨(c :: l).toArray⟩ 0 = c.toNat := by
  unfold byteAt
  have : (⟨(c :: l).toArray⟩ : ByteArray)[0]? = some c := rfl
  rw [this]
  rfl
theorem numSyn_of {s : ByteArray} {c : UInt8} {r : List UInt8} (ht : Lib.trimPrefix s.data.toList [45] = c :: r) : numSyn s = (!((c :: r).all isD) || (c.toNat == 48 && !(s.data.toList == [48]))) := by
  unfold numSyn
  have e1 : trimPB s = ⟨(c :: r).toArray⟩ := by rw [trimPB, ht]
  have e2 : ((trimPB s).toList == (⟨#[]⟩ : ByteArray).toList) = false := by rw [e1]; simp [Lib.toList_data]
  have e3 : ((trimDB (trimPB s)).toList == (⟨#[]⟩ : ByteArray).toList) = (c :: r).all isD := by
    rw [e1]
    cases h : (c :: r).all isD with
    | true =>
      rw [List.all_eq_true] at h
      have := trimS_all h
      simp [Lib.toList_data, trimDB, this]
    | false =>
      have : Lib.trimS (c :: r) digs10.data.toList ≠ [] := fun e => by
        have := List.all_eq_true.2 (trimS_nil e)
        rw [h] at this
        cases this
      simp [Lib.toList_data, trimDB, this]
  have e4 : (byteAt (trimPB s) 0 == 48) = (c.toNat == 48) := by
    rw [e1, byteAt0]
    rw [Bool.eq_iff_iff]
    simp
    omega
  rw [e2, e3, e4]
  simp [Lib.toList_data]
/-- What is read of a numeral: a sign or none, then digits. -/
theorem numB_neg (c : UInt8) (l : List UInt8) : numB ⟨(45 :: c :: l).toArray⟩ = (if !((c :: l).all isD) || c.toNat == 48 then ((0 : Int), (8 : Int)) else match Lib.parseUint10 0 (c :: l) with
    | .ok u => if 9223372036854775808 < u then (0, 2) else (-(u : Int), 0)
    | _ => (0, 2)) := by
  unfold numB
  rw [numSyn_of (s := ⟨(45 :: c :: l).toArray⟩) (trimP_neg (c :: l))]
  have e : ((⟨(45 :: c :: l).toArray⟩ : ByteArray).data.toList == [48]) = false := by simp
  rw [e]
  simp only [Bool.not_false, Bool.and_true]
  split
  · rfl
  · have ea : Lib.atoiAll (45 :: c :: l) = match Lib.parseUint10 0 (c :: l) with
        | .ok u => if 9223372036854775808 < u then .range else .ok (-(u : Int))
        | .range => .range
        | _ => Lib.NumEnd.syntax := by
      unfold Lib.atoiAll Lib.parseMag
      simp only [show (45 : UInt8).toNat = 45 from rfl, or_true, if_true, List.cons_ne_nil, if_false, not_true_eq_false, false_and, true_and]
      cases Lib.parseUint10 0 (c :: l) with
      | ok u => rfl
      | _ => rfl
    show (match Lib.atoiAll (45 :: c :: l) with | .ok v => (v, 0) | _ => ((0 : Int), (2 : Int))) = _
    rw [ea]
    cases Lib.parseUint10 0 (c :: l) with
    | ok u =>
      dsimp only
      by_cases hu : 9223372036854775808 < u <;> simp only [hu, if_true, if_false]
    | _ => rfl
theorem numB_pos (c : UInt8) (l : List UInt8) (hc : isD c = true) : numB ⟨(c :: l).toArray⟩ = (if !((c :: l).all isD) || (c.toNat == 48 && !(l == [])) then ((0 : Int), (8 : Int)) else match Lib.parseUint10 0 (c :: l) with
    | .ok u => if 9223372036854775808 ≤ u then (0, 2) else ((u : Int), 0)
    | _ => (0, 2)) := by
  simp only [isD, Bool.and_eq_true, decide_eq_true_eq] at hc
  have hne : c ≠ 45 := fun e => by rw [e] at hc; simp at hc
  unfold numB
  rw [numSyn_of (s := ⟨(c :: l).toArray⟩) (trimP_pos l hne)]
  have e : (c.toNat == 48 && !((⟨(c :: l).toArray⟩ : ByteArray).data.toList == [48])) = (c.toNat == 48 && !(l == [])) := by
    cases h : c.toNat == 48 with
    | false => rfl
    | true =>
      have : c = 48 := UInt8.toNat_inj.1 (by simpa using h)
      subst this
      cases l <;> simp
  rw [e]
  split
  · rfl
  · have ea : Lib.atoiAll (c :: l) = match Lib.parseUint10 0 (c :: l) with
        | .ok u => if 9223372036854775808 ≤ u then .range else .ok (u : Int)
        | .range => .range
        | _ => Lib.NumEnd.syntax := by
      unfold Lib.atoiAll Lib.parseMag
      have h1 : ¬ c.toNat = 43 := by omega
      have h2 : ¬ c.toNat = 45 := by omega
      simp only [h1, h2, or_self, if_false, List.cons_ne_nil, not_false_eq_true, true_and, false_and]
      cases Lib.parseUint10 0 (c :: l) with
      | ok u => rfl
      | _ => rfl
    show (match Lib.atoiAll (c :: l) with | .ok v => (v, 0) | _ => ((0 : Int), (2 : Int))) = _
    rw [ea]
    cases Lib.parseUint10 0 (c :: l) with
    | ok u =>
      dsimp only
      by_cases hu : 9223372036854775808 ≤ u <;> simp only [hu, if_true, if_false]
    | _ => rfl

theorem itoa_neg {n : Int} (h : n < 0) : Lib.itoa n = 45 :: Lib.decDigits n.natAbs := by rw [Lib.itoa, if_pos h]
theorem itoa_pos {n : Int} (h : 0 ≤ n) : Lib.itoa n = Lib.decDigits n.toNat := by rw [Lib.itoa, if_neg (by omega)]
/-- Read as it was printed. -/
theorem num_dec {n : Int} (h : inI n) : numB (decB n) = (n, 0) := by
  unfold decB
  obtain ⟨h1, h2⟩ := h
  by_cases hn : n < 0
  · rw [itoa_neg hn]
    obtain ⟨f1, c, r, f2, f3⟩ := dec_facts n.natAbs
    have hp := parse_dec n.natAbs (by omega)
    rw [f2] at f1 hp ⊢
    rw [numB_neg, if_neg, hp]
    · dsimp only
      rw [if_neg (by omega)]
      congr 1
      omega
    · have := List.all_eq_true.2 f1
      rw [this]
      simpa using f3 (by omega)
  · rw [itoa_pos (by omega)]
    obtain ⟨f1, c, r, f2, f3⟩ := dec_facts n.toNat
    have hp := parse_dec n.toNat (by omega)
    have hz : n.toNat = 0 → c = 48 ∧ r = [] := fun e => by
      rw [e, dec_zero] at f2
      injection f2 with a b
      exact ⟨a.symm, b.symm⟩
    rw [f2] at f1 hp ⊢
    rw [numB_pos c r (f1 c (List.mem_cons_self ..)), if_neg, hp]
    · dsimp only
      rw [if_neg (by omega)]
      congr 1
      omega
    · have := List.all_eq_true.2 f1
      rw [this]
      rcases Nat.eq_zero_or_pos n.toNat with h0 | h0
      · rw [(hz h0).2]
        simp
      · have := f3 h0
        simp [this]
/-- Printed as it was read. -/
theorem num_canon {b : ByteArray} (h : (numB b).2 = 0) : inI (numB b).1 ∧ decB (numB b).1 = b := by
  obtain ⟨⟨l⟩⟩ := b
  match l, h with
  | [], h =>
    rw [show numB ⟨⟨[]⟩⟩ = (0, 8) by kernel_rfl] at h
    exact absurd h (by decide)
  | c :: r, h =>
    by_cases hc : c = 45
    · subst hc
      match r, h with
      | [], h =>
        rw [show numB ⟨⟨[45]⟩⟩ = (0, 8) by kernel_rfl] at h
        exact absurd h (by decide)
      | c :: r, h =>
        rw [numB_neg] at h ⊢
        split at h
        · exact absurd h (by decide)
        · rename_i hs
          rw [if_neg hs]
          simp only [Bool.or_eq_true, Bool.not_eq_true', beq_iff_eq, not_or, Bool.not_eq_false] at hs
          have hd := List.all_eq_true.1 hs.1 c (List.mem_cons_self ..)
          cases hp : Lib.parseUint10 0 (c :: r) with
          | ok u =>
            rw [hp] at h
            dsimp only at h ⊢
            split at h
            · exact absurd h (by decide)
            · rename_i hu
              rw [if_neg hu]
              dsimp only
              obtain ⟨k1, k2⟩ := dec_canon hd hs.2 hp
              refine ⟨⟨by omega, by omega⟩, ?_⟩
              rw [decB, itoa_neg (by omega), show (-(u : Int)).natAbs = u by omega, k1]
          | _ =>
            rw [hp] at h
            exact absurd h (by decide)
    · cases hd : isD c with
      | false =>
        exfalso
        have : numB ⟨(c :: r).toArray⟩ = (0, 8) := by
          unfold numB
          rw [numSyn_of (s := ⟨(c :: r).toArray⟩) (trimP_pos r hc), if_pos (by simp [hd])]
        rw [this] at h
        exact absurd h (by decide)
      | true =>
        rw [numB_pos c r hd] at h ⊢
        split at h
        · exact absurd h (by decide)
        · rename_i hs
          rw [if_neg hs]
          simp only [Bool.or_eq_true, Bool.not_eq_true', Bool.and_eq_true, beq_iff_eq, not_or, not_and, Bool.not_eq_false] at hs
          cases hp : Lib.parseUint10 0 (c :: r) with
          | ok u =>
            rw [hp] at h
            dsimp only at h ⊢
            split at h
            · exact absurd h (by decide)
            · rename_i hu
              rw [if_neg hu]
              dsimp only
              refine ⟨⟨by omega, by omega⟩, ?_⟩
              rw [decB, itoa_pos (by omega), show ((u : Int)).toNat = u by omega]
              by_cases h0 : c.toNat = 48
              · have hr := hs.2 h0
                have hr' : r = [] := by simpa using hr
                have hc' : c = 48 := UInt8.toNat_inj.1 h0
                subst hr' hc'
                have : u = 0 := by
                  have e : Lib.parseUint10 0 [48] = .ok 0 := by decide
                  rw [e] at hp
                  injection hp with hp
                  exact hp.symm
                rw [this, dec_zero]
              · rw [(dec_canon hd h0 hp).1]
          | _ =>
            rw [hp] at h
            exact absurd h (by decide)
/-- The beginning of a number is a number. -/
theorem num_take {n : Int} (h : inI n) {m : Nat} (h1 : (if n < 0 then 1 else 0) < m) (h2 : m ≤ (Lib.itoa n).length) : (numB ⟨((Lib.itoa n).take m).toArray⟩).2 = 0 := by
  obtain ⟨b1, b2⟩ := h
  by_cases hn : n < 0
  · rw [itoa_neg hn] at h2 ⊢
    rw [if_pos hn] at h1
    simp only [List.length_cons] at h2
    obtain ⟨v, v1, v2, v3⟩ := dec_take n.natAbs (m - 1) (by omega) (by omega)
    have e : (45 :: Lib.decDigits n.natAbs).take m = Lib.itoa (-(v : Int)) := by
      rw [itoa_neg (by have := v2 (by omega); omega), show (-(v : Int)).natAbs = v by omega, ← v3, show m = (m - 1) + 1 by omega, List.take_succ_cons]
      rfl
    rw [e]
    have := num_dec (n := -(v : Int)) ⟨by omega, by omega⟩
    rw [decB] at this
    rw [this]
  · rw [itoa_pos (by omega)] at h2 ⊢
    rw [if_neg hn] at h1
    obtain ⟨v, v1, v2, v3⟩ := dec_take n.toNat m (by omega) (by omega)
    rw [v3]
    have := num_dec (n := (v : Int)) ⟨by omega, by omega⟩
    rw [decB, itoa_pos (by omega), show ((v : Int)).toNat = v by omega] at this
    rw [this]
end Go.Am

/- A string's bytes at a place; names and numbers there: plain. No condition. -/
namespace Go.Am
open Go.Proofs

theorem ba_eq {a b : ByteArray} (h : a.data.toList = b.data.toList) : a = b := ba_ext h
theorem ext_list (s : ByteArray) (a b : Nat) : (s.extract a b).data.toList = (s.data.toList.drop a).take (b - a) := by
  rw [ByteArray.data_extract, Array.toList_extract, List.extract_eq_take_drop]
theorem byteAt_list (s : ByteArray) (i : Nat) : byteAt s i = ((s.data.toList[i]?.getD 0).toNat : Int) := by
  by_cases h : i < s.size
  · rw [byteAt_eq s i h]
    have h' : i < s.data.toList.length := h
    rw [List.getElem?_eq_getElem h']
    rfl
  · unfold byteAt
    rw [getElem?_neg s i h, List.getElem?_eq_none (by exact Nat.le_of_not_lt h)]
theorem isAt_iff {s : ByteArray} {k : Nat} {c : UInt8} : isAt s k c = true ↔ s.data.toList[k]? = some c := by
  unfold isAt
  rw [byteAt_list, Bool.and_eq_true, decide_eq_true_eq, beq_iff_eq]
  constructor
  · rintro ⟨h1, h2⟩
    have h' : k < s.data.toList.length := h1
    rw [List.getElem?_eq_getElem h'] at h2 ⊢
    simp only [Option.getD_some] at h2
    rw [UInt8.toNat_inj.1 (by omega : (s.data.toList[k]).toNat = c.toNat)]
  · intro h
    refine ⟨(List.getElem?_eq_some_iff.1 h).1, ?_⟩
    rw [h]
    rfl
theorem byteAt_ext (s : ByteArray) {a b i : Nat} (h : a + i < b) : byteAt (s.extract a b) i = byteAt s (a + i) := by
  rw [byteAt_list, byteAt_list, ext_list, List.getElem?_take, if_pos (by omega), List.getElem?_drop]
theorem ext_size (s : ByteArray) {a b : Nat} (hb : b ≤ s.size) : (s.extract a b).size = b - a := by
  rw [ByteArray.size_extract]
  omega

/-- The bytes l stand in s from k on. -/
def Pre (s : ByteArray) (k : Nat) (l : List UInt8) : Prop := ∃ r, s.data.toList.drop k = l ++ r
theorem pre_cons {s : ByteArray} {k : Nat} {c : UInt8} {l : List UInt8} (h : Pre s k (c :: l)) : isAt s k c = true ∧ Pre s (k + 1) l := by
  obtain ⟨r, h⟩ := h
  refine ⟨isAt_iff.2 ?_, r, ?_⟩
  · have := congrArg (fun l => l[0]?) h
    simpa using this
  · rw [← List.drop_drop, h]
    rfl
theorem pre_app {s : ByteArray} {k : Nat} {l m : List UInt8} (h : Pre s k (l ++ m)) : Pre s k l ∧ Pre s (k + l.length) m := by
  obtain ⟨r, h⟩ := h
  refine ⟨⟨m ++ r, by rw [h, List.append_assoc]⟩, r, ?_⟩
  rw [← List.drop_drop, h, List.append_assoc, List.drop_left]
theorem pre_ext {s : ByteArray} {k : Nat} {l : List UInt8} (h : Pre s k l) : s.extract k (k + l.length) = ⟨l.toArray⟩ := by
  obtain ⟨r, h⟩ := h
  refine ba_eq ?_
  rw [ext_list, h, show k + l.length - k = l.length by omega, List.take_left]
theorem pre_le {s : ByteArray} {k : Nat} {l : List UInt8} (h : Pre s k l) (hl : l ≠ []) : k + l.length ≤ s.size := by
  obtain ⟨r, h⟩ := h
  have h1 := congrArg List.length h
  have h2 : 0 < l.length := List.length_pos_iff.2 hl
  have h3 : s.data.toList.length = s.size := rfl
  simp only [List.length_drop, List.length_append, h3] at h1
  omega
theorem not_at {s : ByteArray} {k : Nat} {c d : UInt8} (h : isAt s k c = true) (hn : c ≠ d) : isAt s k d = false := by
  cases hd : isAt s k d with
  | false => rfl
  | true =>
    rw [isAt_iff] at h hd
    rw [h] at hd
    injection hd with hd
    exact absurd hd hn
theorem byte_at {s : ByteArray} {k : Nat} {c : UInt8} (h : isAt s k c = true) : byteAt s k = c.toNat := by
  rw [byteAt_list, isAt_iff.1 h]
  rfl

theorem allB_iff (p : Int → Bool) (s : ByteArray) : ∀ n, allB p s n = true ↔ ∀ i, i < n → p (byteAt s i) = true
  | 0 => by simp [allB]
  | n + 1 => by
    rw [allB, Bool.and_eq_true, allB_iff p s n]
    constructor
    · rintro ⟨h1, h2⟩ i hi
      by_cases e : i = n
      · subst e; exact h2
      · exact h1 i (by omega)
    · intro h
      exact ⟨fun i hi => h i (by omega), h n (by omega)⟩
structure NamedAt (s : ByteArray) (a b : Nat) : Prop where
  lt : a < b
  short : b ≤ a + 32
  notD : digitB (byteAt s a) = false
  notM : byteAt s a ≠ 45
  all : ∀ i, a ≤ i → i < b → partB (byteAt s i) false = true
theorem named_at {s : ByteArray} {a b : Nat} (hb : b ≤ s.size) : namedB (s.extract a b) false = true ↔ NamedAt s a b := by
  have hsz := ext_size s (a := a) hb
  unfold namedB
  by_cases hab : a < b
  · have e0 : byteAt (s.extract a b) 0 = byteAt s a := byteAt_ext s (by omega)
    constructor
    · intro h
      split at h
      · cases h
      · rename_i hc
        simp only [Bool.or_eq_true, decide_eq_true_eq, beq_iff_eq, not_or, Bool.not_eq_true] at hc
        rw [allB_iff] at h
        rw [e0] at hc
        refine ⟨hab, by omega, hc.1.2, hc.2, fun i h1 h2 => ?_⟩
        have := h (i - a) (by omega)
        rw [byteAt_ext s (by omega), show a + (i - a) = i by omega] at this
        exact this
    · intro h
      rw [if_neg, allB_iff]
      · intro i hi
        rw [byteAt_ext s (by omega)]
        exact h.all _ (by omega) (by omega)
      · simp only [Bool.or_eq_true, decide_eq_true_eq, beq_iff_eq, not_or, Bool.not_eq_true, e0]
        have := h.short
        exact ⟨⟨⟨by omega, by omega⟩, h.notD⟩, h.notM⟩
  · constructor
    · intro h
      rw [if_pos] at h
      · cases h
      · have : (s.extract a b).size = 0 := by omega
        simp [this]
    · intro h
      exact absurd h.lt hab

/-- The longest name: read where a name stands, with no part of a name behind it. -/
theorem nameEnd_go {s : ByteArray} {a b : Nat} (hb : b ≤ s.size) (hN : NamedAt s a b) (hx : partB (byteAt s b) false = false) : ∀ n k, a ≤ k → k ≤ b → b - k ≤ n → nameEnd s a n k = b
  | 0, k, h1, h2, h3 => by
    rw [nameEnd]
    omega
  | n + 1, k, h1, h2, h3 => by
    rw [nameEnd]
    by_cases hk : k < b
    · have : namedB (s.extract a (k + 1)) false = true := (named_at (by omega)).2 ⟨by omega, by have := hN.short; omega, hN.notD, hN.notM, fun i h4 h5 => hN.all i h4 (by omega)⟩
      rw [if_pos (by rw [this]; simp; omega)]
      exact nameEnd_go hb hN hx n (k + 1) (by omega) (by omega) (by omega)
    · have hkb : k = b := by omega
      subst hkb
      rw [if_neg]
      intro hc
      rw [Bool.and_eq_true, decide_eq_true_eq] at hc
      have := ((named_at (by omega)).1 hc.2).all k h1 (by omega)
      rw [hx] at this
      cases this
theorem nameTo_go {s : ByteArray} {a b : Nat} (hb : b ≤ s.size) (hN : NamedAt s a b) (hx : partB (byteAt s b) false = false) : nameTo s a = b :=
  nameEnd_go hb hN hx _ _ (Nat.le_refl _) (Nat.le_of_lt hN.lt) (by omega)
/-- What is read is a name. -/
theorem nameEnd_named (s : ByteArray) (a : Nat) : ∀ n k, nameEnd s a n k = k ∨ namedB (s.extract a (nameEnd s a n k)) false = true
  | 0, k => .inl rfl
  | n + 1, k => by
    rw [nameEnd]
    split
    · rename_i h
      rw [Bool.and_eq_true] at h
      rcases nameEnd_named s a n (k + 1) with e | e
      · rw [e]
        exact .inr h.2
      · exact .inr e
    · exact .inl rfl
theorem nameTo_named {s : ByteArray} {a : Nat} (h : ¬ nameTo s a = a) : namedB (s.extract a (nameTo s a)) false = true := by
  rcases nameEnd_named s a (s.size - a) a with e | e
  · exact absurd e h
  · exact e

theorem digAt_iff {s : ByteArray} {k : Nat} {c : UInt8} (h : isAt s k c = true) : digAt s k = isD c := by
  have hlt := isAt_lt h
  rw [digAt, byte_at h, isD, Bool.eq_iff_iff]
  simp only [Bool.and_eq_true, decide_eq_true_eq]
  omega
theorem pre_get {s : ByteArray} {k : Nat} {l : List UInt8} (h : Pre s k l) {i : Nat} {c : UInt8} (hc : l[i]? = some c) : isAt s (k + i) c = true := by
  obtain ⟨r, h⟩ := h
  rw [isAt_iff, ← List.getElem?_drop, h, List.getElem?_append_left (List.getElem?_eq_some_iff.1 hc).1]
  exact hc
theorem pre_take {s : ByteArray} {k : Nat} {l : List UInt8} (h : Pre s k l) (m : Nat) (hm : m ≤ l.length) : s.extract k (k + m) = ⟨(l.take m).toArray⟩ := by
  obtain ⟨r, h⟩ := h
  refine ba_eq ?_
  rw [ext_list, h, show k + m - k = m by omega, List.take_append_of_le_length hm]

/-- A number read where it was printed. -/
theorem numS_dec {s : ByteArray} {k : Nat} {n : Int} {x : UInt8} (hn : inI n) (hp : Pre s k (Lib.itoa n ++ [x])) (hx : isD x = false) : numS s k = .ok n (k + (Lib.itoa n).length) := by
  obtain ⟨p1, p2⟩ := pre_app hp
  have hxa := (pre_cons p2).1
  have hle : k + (Lib.itoa n).length + 1 ≤ s.size := by
    have := pre_le hp (by simp)
    simp only [List.length_append, List.length_cons, List.length_nil] at this
    omega
  obtain ⟨f1, c, r, f2, f3⟩ := dec_facts (if n < 0 then n.natAbs else n.toNat)
  -- the digits, by place
  have hdig : ∀ i, (if n < 0 then 1 else 0) ≤ i → i < (Lib.itoa n).length → digAt s (k + i) = true := by
    intro i h1 h2
    have hc : (Lib.itoa n)[i]? = some (Lib.itoa n)[i] := List.getElem?_eq_getElem h2
    rw [digAt_iff (pre_get p1 hc)]
    by_cases h0 : n < 0
    · rw [if_pos h0] at f1 h1
      have e := itoa_neg h0
      have : (Lib.itoa n)[i] ∈ Lib.decDigits n.natAbs := by
        have h3 : (Lib.itoa n)[i]? = (Lib.decDigits n.natAbs)[i - 1]? := by
          rw [e, show i = (i - 1) + 1 by omega, List.getElem?_cons_succ]
          rfl
        rw [hc] at h3
        exact List.mem_of_getElem? h3.symm
      exact f1 _ this
    · rw [if_neg h0] at f1
      have e := itoa_pos (n := n) (by omega)
      refine f1 _ ?_
      rw [← e]
      exact List.getElem_mem h2
  have hlen : (if n < 0 then 1 else 0) < (Lib.itoa n).length := by
    by_cases h0 : n < 0
    · rw [if_pos h0] at f2 ⊢
      rw [itoa_neg h0, f2]
      simp
    · rw [if_neg h0] at f2 ⊢
      rw [itoa_pos (by omega), f2]
      simp
  have hfst : numFst s k = k + (if n < 0 then 1 else 0) := by
    unfold numFst
    by_cases h0 : n < 0
    · rw [if_pos h0]
      have : isAt s k 45 = true := by
        have := pre_get p1 (i := 0) (c := 45) (by rw [itoa_neg h0]; rfl)
        simpa using this
      rw [if_pos this]
    · rw [if_neg h0]
      rw [if_neg h0] at f1 f2
      have h1 : (Lib.itoa n)[0]? = some c := by rw [itoa_pos (by omega), f2]; rfl
      have h2 := pre_get p1 h1
      have hd := f1 c (by rw [f2]; exact List.mem_cons_self ..)
      rw [if_neg]
      · omega
      · rw [not_at (c := c) (by simpa using h2) (fun e => by rw [e] at hd; exact absurd hd (by decide))]
        decide
  have go : ∀ m e, (if n < 0 then 1 else 0) ≤ e → e ≤ (Lib.itoa n).length → (Lib.itoa n).length - e ≤ m → numEnd s k m (k + e) = (k + (Lib.itoa n).length, true) := by
    intro m
    induction m with
    | zero =>
      intro e h1 h2 h3
      rw [numEnd, show e = (Lib.itoa n).length by omega]
    | succ m ih =>
      intro e h1 h2 h3
      rw [numEnd]
      by_cases he : e < (Lib.itoa n).length
      · rw [if_pos (hdig e h1 he), if_neg]
        · rw [Nat.add_assoc]
          exact ih (e + 1) (by omega) (by omega) (by omega)
        · rw [Nat.add_assoc, pre_take p1 (e + 1) (by omega)]
          intro hne
          exact hne (num_take hn (by omega) (by omega))
      · have : e = (Lib.itoa n).length := by omega
        subst this
        rw [if_neg]
        rw [digAt_iff hxa, hx]
        decide
  have hto : numTo s k = (k + (Lib.itoa n).length, true) := by
    rw [numTo, hfst]
    exact go _ _ (Nat.le_refl _) (by omega) (by omega)
  rw [numS, hto, if_neg (by simp), if_neg (by rw [hfst]; dsimp only; omega)]
  dsimp only
  rw [pre_ext p1]
  have := num_dec hn
  rw [decB] at this
  rw [this]

theorem numEnd_last (s : ByteArray) (a : Nat) : ∀ n k e, numEnd s a n k = (e, true) → e = k ∨ (numB (s.extract a e)).2 = 0
  | 0, k, e, h => by
    rw [numEnd] at h
    injection h with h1 h2
    exact .inl h1.symm
  | n + 1, k, e, h => by
    rw [numEnd] at h
    split at h
    · split at h
      · injection h with h1 h2
        cases h2
      · rename_i hz
        rcases numEnd_last s a n (k + 1) e h with h1 | h1
        · right
          rw [h1]
          simpa using hz
        · exact .inr h1
    · injection h with h1 h2
      exact .inl h1.symm
theorem numS_ext {s : ByteArray} {k k' : Nat} {v : Int} (h : numS s k = .ok v k') : inI v ∧ s.extract k k' = decB v := by
  unfold numS at h
  split at h
  · cases h
  · rename_i h1
    split at h
    · cases h
    · rename_i h2
      injection h with h3 h4
      have ht : numTo s k = ((numTo s k).1, true) := by
        have : (numTo s k).2 = true := by simpa using h1
        rw [← this]
      rcases numEnd_last s k _ _ _ ht with e | e
      · exact absurd e h2
      · have := num_canon e
        rw [h3, h4] at this
        exact ⟨this.1, this.2.symm⟩
end Go.Am

/- Contracts: a number read, as the reference has it. No condition. -/
namespace Go.Am
open Go.Proofs
attribute [local go_sem ↓] ofL_cons ofH_cons upd_apply
set_option maxHeartbeats 4000000
set_option linter.unusedSimpArgs false

/-- The digits behind a sign. -/
def digsOf (b : ByteArray) : ByteArray := if decide ((0 : Int) < b.size) && byteAt b 0 == 45 then b.extract 1 b.size else b
/-- The number, unless it is too great. -/
def accR : List UInt8 → Nat → Option Nat
  | [], acc => some acc
  | c :: r, acc => if (9223372036854775808 - (c.toNat - 48)) / 10 < acc then none else accR r (acc * 10 + (c.toNat - 48))
def rnumB (b : ByteArray) : Int × Int :=
  if (digsOf b).toList == (⟨#[]⟩ : ByteArray).toList || (byteAt (digsOf b) 0 == 48 && (decide ((1 : Int) < (digsOf b).size) || decide ((1 : Int) < b.size))) then (0, 8)
  else if allB digitB (digsOf b) (digsOf b).size = false then (0, 8)
  else match accR (digsOf b).data.toList 0 with
  | none => (0, 2)
  | some u => if decide (((digsOf b).size : Int) < b.size) then (-(u : Int), 0) else if u = 9223372036854775808 then (0, 2) else ((u : Int), 0)
theorem accR_le : ∀ (l : List UInt8) (acc u : Nat), acc ≤ 9223372036854775808 → (∀ c ∈ l, isD c = true) → accR l acc = some u → u ≤ 9223372036854775808
  | [], acc, u, h, _, e => by
    simp only [accR, Option.some.injEq] at e
    omega
  | c :: r, acc, u, h, hd, e => by
    rw [accR] at e
    have hc := hd c (List.mem_cons_self ..)
    simp only [isD, Bool.and_eq_true, decide_eq_true_eq] at hc
    split at e
    · cases e
    · exact accR_le r _ u (by omega) (fun x hx => hd x (List.mem_cons_of_mem _ hx)) e
theorem list_size (g : ByteArray) : g.data.toList.length = g.size := rfl
theorem byteAt_get (g : ByteArray) {i : Nat} (h : i < g.size) : ∃ c, g.data.toList[i]? = some c ∧ byteAt g i = (c.toNat : Int) ∧ g.data.toList.drop i = c :: g.data.toList.drop (i + 1) := by
  have h' : i < g.data.toList.length := h
  refine ⟨g.data.toList[i], List.getElem?_eq_getElem h', ?_, List.drop_eq_getElem_cons h'⟩
  rw [byteAt_list, List.getElem?_eq_getElem h']
  rfl
theorem all_digs {g : ByteArray} (h : allB digitB g g.size = true) : ∀ c ∈ g.data.toList, isD c = true := by
  intro c hc
  obtain ⟨i, hi, rfl⟩ := List.getElem_of_mem hc
  have := (allB_iff digitB g g.size).1 h i hi
  rw [byteAt_list, List.getElem?_eq_getElem hi] at this
  simp only [Option.getD_some, digitB, Bool.and_eq_true, decide_eq_true_eq] at this
  simp only [isD, Bool.and_eq_true, decide_eq_true_eq]
  omega

theorem wrap_u64 {n : Int} (h : 0 ≤ n ∧ n ≤ 18446744073709551615) : IntKind.u64.wrap n = n := by
  unfold IntKind.wrap
  simp [IntKind.bits, IntKind.signed, IntKind.min, IntKind.max]
  omega
theorem wrap_u8 {n : Int} {m : Nat} (h : n = m ∧ m ≤ 255) : IntKind.u8.wrap n = (m : Int) := by
  obtain ⟨rfl, h⟩ := h
  unfold IntKind.wrap
  simp [IntKind.bits, IntKind.signed, IntKind.min, IntKind.max]
  omega

theorem bin_kmul (k : IntKind) (a b : Int) : bin .mul (.int k a) (.int k b) = some (.int k (k.wrap (a * b))) := by simp [bin]
attribute [local go_sem] bin_kmul

variable [Glb]

theorem rnumber_ok (b : ByteArray) (hb : b.size ≤ 1000000000) : APure Tryz.prog 45 [.str b] (.tup [.int (rnumB b).1, .int (rnumB b).2]) := by
  have FF : True := trivial
  refine apure_of Tryz.func45 rfl (by kernel_rfl) (by simp [Tryz.ntmps45]) ?_
  rw [Tryz.ntmps45]
  refine awp_rseq (by decide) fun KK hKK => ?_
  refine m_assign ?_
  refine m_assign ?_
  refine hKK _ _ ?_
  clear hKK KK
  refine awp_rseq (by decide) fun KK hKK => ?_
  refine m_move ?_
  refine m_assign ?_
  refine hKK _ _ ?_
  clear hKK KK
  refine m_join (ι := Unit) (fun i => [(0, .str b), (2, .int 0), (3, .int 0), (4, .str (digsOf b))]) (fun i => []) (fun i => True) ?_ ?_
  · refine awp_rseq (by decide) fun KK hKK => ?_
    refine m_move ?_
    refine m_len ?_
    refine m_bin ?_
    refine m_move ?_
    refine g_move ?_
    refine g_idx ?_
    refine g_bin ?_
    refine m_pick ?_
    refine hKK _ _ ?_
    clear hKK KK
    refine m_cond (fun hc => ?_) (fun hc => ?_)
    · have hc' : (decide ((0 : Int) < b.size) && byteAt b 0 == 45) = true := by simpa using hc
      have e : digsOf b = b.extract 1 b.size := by rw [digsOf, if_pos hc']
      have hpos : 0 < b.size := by
        rw [Bool.and_eq_true, decide_eq_true_eq] at hc'
        omega
      rw [e]
      refine awp_rlast (by decide) fun KK hKK => ?_
      refine m_move ?_
      first | refine m_slOwn ?_ | refine m_slIm ?_ | refine m_slStr ?_
      refine m_assign ?_
      refine hKK _ _ ?_
      clear hKK KK
      try rw [thenQ_normal]
      refine ⟨(), ?_, (by simp only [List.forall_mem_cons, List.forall_mem_nil, go_sem, reduceIte, Nat.reduceEqDiff, FF]; all_goals ((repeat' apply And.intro) <;> first | trivial | rfl | exact objLe_refl _ | (intro _ _; exact Subs.refl _))), (by simp only [List.forall_mem_cons, List.forall_mem_nil, go_sem, reduceIte, Nat.reduceEqDiff, FF]; all_goals ((repeat' apply And.intro) <;> first | trivial | rfl | exact objLe_refl _ | (intro _ _; exact Subs.refl _)))⟩
      trivial
    · have hc' : ¬ (decide ((0 : Int) < b.size) && byteAt b 0 == 45) = true := by simpa using hc
      have e : digsOf b = b := by rw [digsOf, if_neg hc']
      rw [e]
      refine awp_skip ?_
      try rw [thenQ_normal]
      refine ⟨(), ?_, (by simp only [List.forall_mem_cons, List.forall_mem_nil, go_sem, reduceIte, Nat.reduceEqDiff, FF]; all_goals ((repeat' apply And.intro) <;> first | trivial | rfl | exact objLe_refl _ | (intro _ _; exact Subs.refl _))), (by simp only [List.forall_mem_cons, List.forall_mem_nil, go_sem, reduceIte, Nat.reduceEqDiff, FF]; all_goals ((repeat' apply And.intro) <;> first | trivial | rfl | exact objLe_refl _ | (intro _ _; exact Subs.refl _)))⟩
      trivial
  rintro - -
  have hgs : (digsOf b).size ≤ b.size := by
    rw [digsOf]
    split
    · rw [ByteArray.size_extract]; omega
    · exact Nat.le_refl _
  unfold rnumB
  generalize digsOf b = g at *
  refine awp_seq ?_
  have hne : ¬ (g.toList == (⟨#[]⟩ : ByteArray).toList) = true → 0 < g.size := fun h => by
    rcases Nat.eq_zero_or_pos g.size with h0 | h0
    · refine absurd ?_ h
      have : g = ⟨#[]⟩ := ba_eq (by have : g.data.toList.length = 0 := h0; simpa using List.length_eq_zero_iff.1 this)
      rw [this]
      simp
    · exact h0
  cases hE : g.toList == (⟨#[]⟩ : ByteArray).toList with
  | true =>
    refine awp_rseq (by decide) fun KK hKK => ?_
    refine st0 rfl (k_move (by simp only [go_sem, reduceIte, Nat.reduceEqDiff, FF, hE] <;> rfl)) ?_
    refine st0 rfl (k_bin (by simp only [go_sem, reduceIte, Nat.reduceEqDiff, FF, hE] <;> rfl) (by simp only [go_sem, reduceIte, Nat.reduceEqDiff, FF, hE] <;> rfl) (by rfl) (by rfl) (by simp only [go_sem, reduceIte, Nat.reduceEqDiff, FF, hE] <;> rfl) (by intro hG; simp only [go_sem])) ?_
    refine st0 rfl (k_move (by simp only [go_sem, reduceIte, Nat.reduceEqDiff, FF, hE] <;> rfl)) ?_
    refine sgF rfl (by simp only [go_sem, reduceIte, Nat.reduceEqDiff, FF, hE] <;> rfl) (by rfl) (by simp only [go_sem, reduceIte, Nat.reduceEqDiff, FF, hE, hE] <;> rfl) ?_
    refine sgF rfl (by simp only [go_sem, reduceIte, Nat.reduceEqDiff, FF, hE] <;> rfl) (by rfl) (by simp only [go_sem, reduceIte, Nat.reduceEqDiff, FF, hE, hE] <;> rfl) ?_
    refine sgF rfl (by simp only [go_sem, reduceIte, Nat.reduceEqDiff, FF, hE] <;> rfl) (by rfl) (by simp only [go_sem, reduceIte, Nat.reduceEqDiff, FF, hE, hE] <;> rfl) ?_
    refine sgF rfl (by simp only [go_sem, reduceIte, Nat.reduceEqDiff, FF, hE] <;> rfl) (by rfl) (by simp only [go_sem, reduceIte, Nat.reduceEqDiff, FF, hE, hE] <;> rfl) ?_
    refine sgF rfl (by simp only [go_sem, reduceIte, Nat.reduceEqDiff, FF, hE] <;> rfl) (by rfl) (by simp only [go_sem, reduceIte, Nat.reduceEqDiff, FF, hE, hE] <;> rfl) ?_
    refine sgF rfl (by simp only [go_sem, reduceIte, Nat.reduceEqDiff, FF, hE] <;> rfl) (by rfl) (by simp only [go_sem, reduceIte, Nat.reduceEqDiff, FF, hE, hE] <;> rfl) ?_
    refine sgF rfl (by simp only [go_sem, reduceIte, Nat.reduceEqDiff, FF, hE] <;> rfl) (by rfl) (by simp only [go_sem, reduceIte, Nat.reduceEqDiff, FF, hE, hE] <;> rfl) ?_
    refine sgF rfl (by simp only [go_sem, reduceIte, Nat.reduceEqDiff, FF, hE] <;> rfl) (by rfl) (by simp only [go_sem, reduceIte, Nat.reduceEqDiff, FF, hE, hE] <;> rfl) ?_
    refine sgF rfl (by simp only [go_sem, reduceIte, Nat.reduceEqDiff, FF, hE] <;> rfl) (by rfl) (by simp only [go_sem, reduceIte, Nat.reduceEqDiff, FF, hE, hE] <;> rfl) ?_
    refine sgF rfl (by simp only [go_sem, reduceIte, Nat.reduceEqDiff, FF, hE] <;> rfl) (by rfl) (by simp only [go_sem, reduceIte, Nat.reduceEqDiff, FF, hE, hE] <;> rfl) ?_
    refine sgF rfl (by simp only [go_sem, reduceIte, Nat.reduceEqDiff, FF, hE] <;> rfl) (by rfl) (by simp only [go_sem, reduceIte, Nat.reduceEqDiff, FF, hE, hE] <;> rfl) ?_
    refine sgF rfl (by simp only [go_sem, reduceIte, Nat.reduceEqDiff, FF, hE] <;> rfl) (by rfl) (by simp only [go_sem, reduceIte, Nat.reduceEqDiff, FF, hE, hE] <;> rfl) ?_
    refine sgF rfl (by simp only [go_sem, reduceIte, Nat.reduceEqDiff, FF, hE] <;> rfl) (by rfl) (by simp only [go_sem, reduceIte, Nat.reduceEqDiff, FF, hE, hE] <;> rfl) ?_
    refine st0 rfl (k_pick (by simp only [go_sem, reduceIte, Nat.reduceEqDiff, FF, hE] <;> rfl) (by simp only [go_sem, reduceIte, Nat.reduceEqDiff, FF, hE] <;> rfl) (by simp only [go_sem, reduceIte, Nat.reduceEqDiff, FF, hE] <;> rfl) (by rfl) (by rfl) (by rfl) (by intro hG; first | (simp only [go_sem, reduceIte, Nat.reduceEqDiff, FF, hE, hE]; done) | (simp [go_sem]; done) | (simp [go_sem] at hG ⊢ <;> simp [hG] <;> (intros; simp_all))) (by first | (simp only [go_sem, reduceIte, Nat.reduceEqDiff, FF, hE] <;> rfl) | rfl)) ?_
    refine hKK _ _ ?_
    clear hKK KK
    refine awp_cond (by simp only [go_sem, reduceIte, Nat.reduceEqDiff, FF, hE] <;> rfl) (fun hc => ?_) (fun hc => ?_)
    · refine awp_rseq (by decide) fun KK hKK => ?_
      refine m_assign ?_
      refine m_assign ?_
      refine hKK _ _ ?_
      clear hKK KK
      refine awp_ret ⟨[_, _], ⟨⟨(by simp only [go_sem, reduceIte, Nat.reduceEqDiff, FF]), (by simp only [go_sem, reduceIte, Nat.reduceEqDiff, FF] <;> rfl)⟩, ⟨(by simp only [go_sem, reduceIte, Nat.reduceEqDiff, FF]), (by simp only [go_sem, reduceIte, Nat.reduceEqDiff, FF] <;> rfl)⟩, trivial⟩, ?_⟩
      simp only [go_sem, reduceIte, Nat.reduceEqDiff, FF, tupled]
      exact CV.Sub.refl _
    · cases hc
  | false =>
  have hpos := hne (by rw [hE]; decide)
  have FF := And.intro hE FF
  refine awp_rseq (by decide) fun KK hKK => ?_
  refine m_move ?_
  refine m_bin ?_
  refine m_move ?_
  refine g_move ?_
  refine g_idx ?_
  refine g_bin ?_
  refine g_move ?_
  refine g_move ?_
  refine g_len ?_
  refine g_bin ?_
  refine g_move ?_
  refine g_move ?_
  refine g_len ?_
  refine g_bin ?_
  refine g_pick ?_
  refine g_pick ?_
  refine m_pick ?_
  refine hKK _ _ ?_
  clear hKK KK
  refine m_cond (fun hc => ?_) (fun hc => ?_)
  · refine awp_rseq (by decide) fun KK hKK => ?_
    refine m_assign ?_
    refine m_assign ?_
    refine hKK _ _ ?_
    clear hKK KK
    refine awp_ret ⟨[_, _], ⟨⟨(by simp only [go_sem, reduceIte, Nat.reduceEqDiff, FF]), (by simp only [go_sem, reduceIte, Nat.reduceEqDiff, FF] <;> rfl)⟩, ⟨(by simp only [go_sem, reduceIte, Nat.reduceEqDiff, FF]), (by simp only [go_sem, reduceIte, Nat.reduceEqDiff, FF] <;> rfl)⟩, trivial⟩, ?_⟩
    simp only [go_sem, reduceIte, Nat.reduceEqDiff, FF, tupled]
    rw [if_pos (by simpa using hc)]
    exact CV.Sub.refl _
  have hc' : ¬ (false || (byteAt g 0 == 48 && (decide ((1 : Int) < g.size) || decide ((1 : Int) < b.size)))) = true := by simpa using hc
  rw [if_neg hc']
  clear hc hc'
  refine awp_skip ?_
  first | rw [thenQ_normal] | rw [blockQ_normal, thenQ_normal]
  refine m_join (ι := Unit) (fun i => [(0, .str b), (4, .str g)]) (fun i => []) (fun i => allB digitB g g.size = true) ?_ ?_
  · refine awp_rseq (by decide) fun KK hKK => ?_
    refine m_assign ?_
    refine hKK _ _ ?_
    clear hKK KK
    refine awp_block ?_
    refine m_for (ι := Nat) (fun i => [(0, .str b), (4, .str g), (5, .int i)]) (fun i => []) (fun i => g.size - i) (fun i => i ≤ g.size ∧ allB digitB g i = true) (0) ?_ ?_
    · exact ⟨Nat.zero_le _, rfl⟩
    rintro i ⟨hi, hall⟩
    refine awp_seq ?_
    refine awp_rseq (by decide) fun KK hKK => ?_
    refine m_move ?_
    refine m_move ?_
    refine m_len ?_
    refine m_bin ?_
    refine hKK _ _ ?_
    clear hKK KK
    refine m_cond (fun hc => ?_) (fun hc => ?_)
    · have hlt : i < g.size := by
        simp only [decide_eq_true_eq] at hc
        omega
      have w3 : IntKind.i64.wrap ((i : Int) + 1) = ((i + 1 : Nat) : Int) := wrap_in (by omega)
      refine awp_skip ?_
      first | rw [thenQ_normal] | rw [blockQ_normal, thenQ_normal]
      refine awp_seq (awp_block ?_)
      refine awp_rseq (by decide) fun KK hKK => ?_
      refine m_move ?_
      refine m_move ?_
      refine m_idx ?_
      refine m_call (fun hG => digit_ok (byteAt g i)) ?_
      refine m_not ?_
      refine hKK _ _ ?_
      clear hKK KK
      refine m_cond (fun hc => ?_) (fun hc => ?_)
      · have hn : digitB (byteAt g i) = false := by simpa using hc
        refine awp_rseq (by decide) fun KK hKK => ?_
        refine m_assign ?_
        refine m_assign ?_
        refine hKK _ _ ?_
        clear hKK KK
        refine awp_ret ⟨[_, _], ⟨⟨(by simp only [go_sem, reduceIte, Nat.reduceEqDiff, FF]), (by simp only [go_sem, reduceIte, Nat.reduceEqDiff, FF] <;> rfl)⟩, ⟨(by simp only [go_sem, reduceIte, Nat.reduceEqDiff, FF]), (by simp only [go_sem, reduceIte, Nat.reduceEqDiff, FF] <;> rfl)⟩, trivial⟩, ?_⟩
        simp only [go_sem, reduceIte, Nat.reduceEqDiff, FF, tupled]
        rw [if_pos (allB_false hn g.size hlt)]
        exact CV.Sub.refl _
      · have hn : digitB (byteAt g i) = true := by simpa using hc
        refine awp_skip ?_
        first | rw [thenQ_normal] | rw [blockQ_normal, thenQ_normal]
        have FF := And.intro w3 FF
        refine awp_rlast (by decide) fun KK hKK => ?_
        refine m_move ?_
        refine m_bin ?_
        refine m_assign ?_
        refine hKK _ _ ?_
        clear hKK KK
        try rw [thenQ_normal]
        refine m_next (i + 1) ?_ ?_
        · exact ⟨by omega, by rw [allB, hall, hn]; rfl⟩
        · omega
    · have he : i = g.size := by
        simp only [decide_eq_false_iff_not] at hc
        omega
      subst he
      refine awp_exit ?_
      simp only [thenQ_exit, blockQ_exit, reduceIte, Nat.reduceEqDiff]
      try rw [thenQ_normal]
      try rw [thenQ_normal]
      refine ⟨(), ?_, (by simp only [List.forall_mem_cons, List.forall_mem_nil, go_sem, reduceIte, Nat.reduceEqDiff, FF]; all_goals ((repeat' apply And.intro) <;> first | trivial | rfl | exact objLe_refl _ | (intro _ _; exact Subs.refl _))), (by simp only [List.forall_mem_cons, List.forall_mem_nil, go_sem, reduceIte, Nat.reduceEqDiff, FF]; all_goals ((repeat' apply And.intro) <;> first | trivial | rfl | exact objLe_refl _ | (intro _ _; exact Subs.refl _)))⟩
      exact hall
  rintro - hall
  rw [if_neg (by rw [hall]; decide)]
  have hdig := all_digs hall
  refine awp_rseq (by decide) fun KK hKK => ?_
  refine m_assign ?_
  refine hKK _ _ ?_
  clear hKK KK
  refine m_join (ι := Nat) (fun u => [(0, .str b), (4, .str g), (6, .c (.raw (.int .u64 (u : Nat))))]) (fun u => []) (fun u => accR g.data.toList 0 = some u) ?_ ?_
  · refine awp_rseq (by decide) fun KK hKK => ?_
    refine m_assign ?_
    refine hKK _ _ ?_
    clear hKK KK
    refine awp_block ?_
    refine m_for (ι := (Nat × Nat)) (fun p => [(0, .str b), (4, .str g), (6, .c (.raw (.int .u64 (p.2 : Nat)))), (7, .int p.1)]) (fun p => []) (fun p => g.size - p.1) (fun p => p.1 ≤ g.size ∧ p.2 ≤ 9223372036854775808 ∧ accR (g.data.toList.drop p.1) p.2 = accR g.data.toList 0) ((0, 0)) ?_ ?_
    · exact ⟨Nat.zero_le _, Nat.zero_le _, rfl⟩
    rintro ⟨i, acc⟩ ⟨hi, hacc, hres⟩
    dsimp only at hi hacc hres ⊢
    refine awp_seq ?_
    refine awp_rseq (by decide) fun KK hKK => ?_
    refine m_move ?_
    refine m_move ?_
    refine m_len ?_
    refine m_bin ?_
    refine hKK _ _ ?_
    clear hKK KK
    refine m_cond (fun hc => ?_) (fun hc => ?_)
    · have hlt : i < g.size := by
        simp only [decide_eq_true_eq] at hc
        omega
      obtain ⟨c, hc1, hc2, hc3⟩ := byteAt_get g hlt
      have hD := hdig c (List.mem_of_getElem? hc1)
      simp only [isD, Bool.and_eq_true, decide_eq_true_eq] at hD
      have w3 : IntKind.i64.wrap ((i : Int) + 1) = ((i + 1 : Nat) : Int) := wrap_in (by omega)
      have w5 : IntKind.u8.wrap (byteAt g i - 48) = ((c.toNat - 48 : Nat) : Int) := by rw [hc2]; exact wrap_u8 ⟨by omega, by omega⟩
      have w6 : IntKind.u64.wrap ((c.toNat - 48 : Nat) : Int) = ((c.toNat - 48 : Nat) : Int) := wrap_u64 (by omega)
      have w7 : IntKind.u64.wrap (9223372036854775808 - ((c.toNat - 48 : Nat) : Int)) = ((9223372036854775808 - (c.toNat - 48) : Nat) : Int) := by rw [wrap_u64 (by omega)]; omega
      have w8 : IntKind.u64.wrap (Int.tdiv ((9223372036854775808 - (c.toNat - 48) : Nat) : Int) 10) = (((9223372036854775808 - (c.toNat - 48)) / 10 : Nat) : Int) := by
        have : Int.tdiv ((9223372036854775808 - (c.toNat - 48) : Nat) : Int) 10 = (((9223372036854775808 - (c.toNat - 48)) / 10 : Nat) : Int) := by
          rw [Int.tdiv_eq_ediv_of_nonneg (by omega)]
          omega
        rw [this]
        exact wrap_u64 (by omega)
      rw [hc3, accR] at hres
      refine awp_skip ?_
      first | rw [thenQ_normal] | rw [blockQ_normal, thenQ_normal]
      refine awp_seq (awp_block ?_)
      have FF := And.intro w5 (And.intro w6 FF)
      refine awp_rseq (by decide) fun KK hKK => ?_
      refine m_move ?_
      refine m_move ?_
      refine m_idx ?_
      refine m_bin ?_
      refine m_convert ?_
      refine m_assign ?_
      refine hKK _ _ ?_
      clear hKK KK
      refine awp_seq ?_
      have FF := And.intro w7 (And.intro w8 FF)
      refine awp_rseq (by decide) fun KK hKK => ?_
      refine m_move ?_
      refine m_move ?_
      refine m_bin ?_
      refine m_bin ?_
      refine m_bin ?_
      refine hKK _ _ ?_
      clear hKK KK
      refine m_cond (fun hc => ?_) (fun hc => ?_)
      · have hbig : (9223372036854775808 - (c.toNat - 48)) / 10 < acc := by
          simp only [decide_eq_true_eq] at hc
          omega
        rw [if_pos hbig] at hres
        refine awp_rseq (by decide) fun KK hKK => ?_
        refine m_assign ?_
        refine m_assign ?_
        refine hKK _ _ ?_
        clear hKK KK
        refine awp_ret ⟨[_, _], ⟨⟨(by simp only [go_sem, reduceIte, Nat.reduceEqDiff, FF]), (by simp only [go_sem, reduceIte, Nat.reduceEqDiff, FF] <;> rfl)⟩, ⟨(by simp only [go_sem, reduceIte, Nat.reduceEqDiff, FF]), (by simp only [go_sem, reduceIte, Nat.reduceEqDiff, FF] <;> rfl)⟩, trivial⟩, ?_⟩
        simp only [go_sem, reduceIte, Nat.reduceEqDiff, FF, tupled]
        rw [← hres]
        exact CV.Sub.refl _
      · have hbig : ¬ (9223372036854775808 - (c.toNat - 48)) / 10 < acc := by
          simp only [decide_eq_false_iff_not] at hc
          omega
        rw [if_neg hbig] at hres
        have w9 : IntKind.u64.wrap ((acc : Int) * 10) = ((acc * 10 : Nat) : Int) := by rw [wrap_u64 (by omega)]; omega
        have w10 : IntKind.u64.wrap (((acc * 10 : Nat) : Int) + ((c.toNat - 48 : Nat) : Int)) = ((acc * 10 + (c.toNat - 48) : Nat) : Int) := by rw [wrap_u64 (by omega)]; omega
        refine awp_skip ?_
        first | rw [thenQ_normal] | rw [blockQ_normal, thenQ_normal]
        have FF := And.intro w9 (And.intro w10 FF)
        refine awp_rlast (by decide) fun KK hKK => ?_
        refine m_move ?_
        refine m_bin ?_
        refine m_move ?_
        refine m_bin ?_
        refine m_assign ?_
        refine hKK _ _ ?_
        clear hKK KK
        first | rw [thenQ_normal] | rw [blockQ_normal, thenQ_normal]
        have FF := And.intro w3 FF
        refine awp_rlast (by decide) fun KK hKK => ?_
        refine m_move ?_
        refine m_bin ?_
        refine m_assign ?_
        refine hKK _ _ ?_
        clear hKK KK
        try rw [thenQ_normal]
        refine m_next ((i + 1, acc * 10 + (c.toNat - 48))) ?_ ?_
        · exact ⟨by dsimp only; omega, by dsimp only; omega, hres⟩
        · dsimp only; omega
    · have he : i = g.size := by
        simp only [decide_eq_false_iff_not] at hc
        omega
      subst he
      refine awp_exit ?_
      simp only [thenQ_exit, blockQ_exit, reduceIte, Nat.reduceEqDiff]
      try rw [thenQ_normal]
      try rw [thenQ_normal]
      refine ⟨acc, ?_, (by simp only [List.forall_mem_cons, List.forall_mem_nil, go_sem, reduceIte, Nat.reduceEqDiff, FF]; all_goals ((repeat' apply And.intro) <;> first | trivial | rfl | exact objLe_refl _ | (intro _ _; exact Subs.refl _))), (by simp only [List.forall_mem_cons, List.forall_mem_nil, go_sem, reduceIte, Nat.reduceEqDiff, FF]; all_goals ((repeat' apply And.intro) <;> first | trivial | rfl | exact objLe_refl _ | (intro _ _; exact Subs.refl _)))⟩
      rw [← hres, ← list_size, List.drop_length, accR]
  rintro u hu
  have hule := accR_le _ 0 u (by omega) hdig hu
  rw [hu]
  simp only
  refine awp_seq ?_
  refine awp_rseq (by decide) fun KK hKK => ?_
  refine m_move ?_
  refine m_len ?_
  refine m_move ?_
  refine m_len ?_
  refine m_bin ?_
  refine hKK _ _ ?_
  clear hKK KK
  refine m_cond (fun hc => ?_) (fun hc => ?_)
  · have hc' : decide ((g.size : Int) < b.size) = true := by simpa using hc
    rw [if_pos hc']
    have w12 : IntKind.i64.wrap (IntKind.u64.wrap (0 - (u : Int))) = -(u : Int) := by rw [IntKind.wrap_u64, IntKind.wrap_i64]; omega
    have FF := And.intro w12 FF
    refine awp_rseq (by decide) fun KK hKK => ?_
    refine m_move ?_
    refine m_neg ?_
    refine m_convert ?_
    refine m_assign ?_
    refine m_assign ?_
    refine hKK _ _ ?_
    clear hKK KK
    refine awp_ret ⟨[_, _], ⟨⟨(by simp only [go_sem, reduceIte, Nat.reduceEqDiff, FF]), (by simp only [go_sem, reduceIte, Nat.reduceEqDiff, FF] <;> rfl)⟩, ⟨(by simp only [go_sem, reduceIte, Nat.reduceEqDiff, FF]), (by simp only [go_sem, reduceIte, Nat.reduceEqDiff, FF] <;> rfl)⟩, trivial⟩, ?_⟩
    simp only [go_sem, reduceIte, Nat.reduceEqDiff, FF, tupled]
    exact CV.Sub.refl _
  have hc' : ¬ decide ((g.size : Int) < b.size) = true := by simpa using hc
  rw [if_neg hc']
  refine awp_skip ?_
  first | rw [thenQ_normal] | rw [blockQ_normal, thenQ_normal]
  refine awp_seq ?_
  refine awp_rseq (by decide) fun KK hKK => ?_
  refine m_move ?_
  refine m_bin ?_
  refine hKK _ _ ?_
  clear hKK KK
  refine m_cond (fun hc => ?_) (fun hc => ?_)
  · have hc2 : u = 9223372036854775808 := by
      simp only [beq_iff_eq] at hc
      omega
    rw [if_pos hc2]
    refine awp_rseq (by decide) fun KK hKK => ?_
    refine m_assign ?_
    refine m_assign ?_
    refine hKK _ _ ?_
    clear hKK KK
    refine awp_ret ⟨[_, _], ⟨⟨(by simp only [go_sem, reduceIte, Nat.reduceEqDiff, FF]), (by simp only [go_sem, reduceIte, Nat.reduceEqDiff, FF] <;> rfl)⟩, ⟨(by simp only [go_sem, reduceIte, Nat.reduceEqDiff, FF]), (by simp only [go_sem, reduceIte, Nat.reduceEqDiff, FF] <;> rfl)⟩, trivial⟩, ?_⟩
    simp only [go_sem, reduceIte, Nat.reduceEqDiff, FF, tupled]
    exact CV.Sub.refl _
  have hc2 : ¬ u = 9223372036854775808 := by
    simp only [beq_eq_false_iff_ne] at hc
    omega
  rw [if_neg hc2]
  have w11 : IntKind.i64.wrap ((u : Nat) : Int) = (u : Int) := wrap_in (by omega)
  refine awp_skip ?_
  first | rw [thenQ_normal] | rw [blockQ_normal, thenQ_normal]
  have FF := And.intro w11 FF
  refine awp_rseq (by decide) fun KK hKK => ?_
  refine m_move ?_
  refine m_convert ?_
  refine m_assign ?_
  refine m_assign ?_
  refine hKK _ _ ?_
  clear hKK KK
  refine awp_ret ⟨[_, _], ⟨⟨(by simp only [go_sem, reduceIte, Nat.reduceEqDiff, FF]), (by simp only [go_sem, reduceIte, Nat.reduceEqDiff, FF] <;> rfl)⟩, ⟨(by simp only [go_sem, reduceIte, Nat.reduceEqDiff, FF]), (by simp only [go_sem, reduceIte, Nat.reduceEqDiff, FF] <;> rfl)⟩, trivial⟩, ?_⟩
  simp only [go_sem, reduceIte, Nat.reduceEqDiff, FF, tupled]
  exact CV.Sub.refl _
end Go.Am

/- The reference reads numbers as the program does: plain. No condition. -/
namespace Go.Am
open Go.Proofs

theorem parse_mono : ∀ (l : List UInt8) (acc u : Nat), Lib.parseUint10 acc l = .ok u → acc ≤ u
  | [], acc, u, h => by
    simp only [Lib.parseUint10] at h
    injection h with h
    omega
  | c :: l, acc, u, h => by
    rw [Lib.parseUint10] at h
    split at h
    · split at h
      · cases h
      · split at h
        · cases h
        · have := parse_mono l _ u h
          omega
    · cases h
theorem acc_parse : ∀ (l : List UInt8) (acc : Nat), acc ≤ 9223372036854775808 → (∀ c ∈ l, isD c = true) → accR l acc = match Lib.parseUint10 acc l with
    | .ok u => if u ≤ 9223372036854775808 then some u else none
    | _ => none
  | [], acc, h, _ => by
    simp only [accR, Lib.parseUint10]
    rw [if_pos h]
  | c :: r, acc, h, hd => by
    have hc := hd c (List.mem_cons_self ..)
    simp only [isD, Bool.and_eq_true, decide_eq_true_eq] at hc
    rw [accR, Lib.parseUint10, if_pos hc]
    by_cases hb : (9223372036854775808 - (c.toNat - 48)) / 10 < acc
    · rw [if_pos hb]
      split
      · rename_i u hu
        split at hu
        · cases hu
        · split at hu
          · cases hu
          · have := parse_mono r _ u hu
            rw [if_neg (by omega)]
      · rfl
    · rw [if_neg hb, if_neg (by omega), if_neg (by omega)]
      exact acc_parse r _ (by omega) fun x hx => hd x (List.mem_cons_of_mem _ hx)
theorem allB_list (l : List UInt8) : allB digitB ⟨l.toArray⟩ (⟨l.toArray⟩ : ByteArray).size = l.all isD := by
  rw [Bool.eq_iff_iff, allB_iff, List.all_eq_true]
  have hsz : (⟨l.toArray⟩ : ByteArray).size = l.length := by simp [ByteArray.size]
  have hb : ∀ i, byteAt ⟨l.toArray⟩ i = ((l[i]?.getD 0).toNat : Int) := fun i => by
    rw [byteAt_list]
  have key : ∀ c : UInt8, digitB ((c.toNat : Nat) : Int) = isD c := fun c => by
    rw [Bool.eq_iff_iff]
    simp only [digitB, isD, Bool.and_eq_true, decide_eq_true_eq]
    omega
  constructor
  · intro h c hc
    obtain ⟨i, hi, rfl⟩ := List.getElem_of_mem hc
    have := h i (by rw [hsz]; exact hi)
    rw [hb, List.getElem?_eq_getElem hi, Option.getD_some, key] at this
    exact this
  · intro h i hi
    rw [hsz] at hi
    rw [hb, List.getElem?_eq_getElem hi, Option.getD_some, key]
    exact h _ (List.getElem_mem hi)
theorem digsOf_neg (r : List UInt8) : digsOf ⟨(45 :: r).toArray⟩ = ⟨r.toArray⟩ := by
  have h1 : byteAt ⟨(45 :: r).toArray⟩ 0 = 45 := byteAt0 45 r
  have h2 : (⟨(45 :: r).toArray⟩ : ByteArray).size = r.length + 1 := by simp [ByteArray.size]
  rw [digsOf, if_pos]
  · refine ba_eq ?_
    rw [ext_list, h2]
    simp
  · rw [h1, h2]
    simp
theorem digsOf_pos {c : UInt8} (r : List UInt8) (h : c ≠ 45) : digsOf ⟨(c :: r).toArray⟩ = ⟨(c :: r).toArray⟩ := by
  have h1 : byteAt ⟨(c :: r).toArray⟩ 0 = c.toNat := byteAt0 c r
  rw [digsOf, if_neg]
  rw [h1]
  intro hc
  rw [Bool.and_eq_true, beq_iff_eq] at hc
  have h45 : (45 : UInt8).toNat = 45 := rfl
  exact h (UInt8.toNat_inj.1 (by have := hc.2; omega))
theorem rnum_eq (b : ByteArray) : rnumB b = numB b := by
  obtain ⟨⟨l⟩⟩ := b
  match l with
  | [] =>
    show rnumB ⟨⟨[]⟩⟩ = numB ⟨⟨[]⟩⟩
    kernel_rfl
  | c :: r =>
    by_cases hc : c = 45
    · subst hc
      match r with
      | [] =>
        show rnumB ⟨⟨[45]⟩⟩ = numB ⟨⟨[45]⟩⟩
        kernel_rfl
      | c :: r =>
        rw [numB_neg]
        show rnumB ⟨(45 :: c :: r).toArray⟩ = _
        unfold rnumB
        rw [digsOf_neg (c :: r), allB_list]
        have e1 : ((⟨(c :: r).toArray⟩ : ByteArray).toList == (⟨#[]⟩ : ByteArray).toList) = false := by simp [Lib.toList_data]
        have e2 : decide ((1 : Int) < (⟨(45 :: c :: r).toArray⟩ : ByteArray).size) = true := by simp [ByteArray.size]; omega
        have e3 : decide (((⟨(c :: r).toArray⟩ : ByteArray).size : Int) < (⟨(45 :: c :: r).toArray⟩ : ByteArray).size) = true := by simp [ByteArray.size]; omega
        have e4 : (byteAt ⟨(c :: r).toArray⟩ 0 == 48) = (c.toNat == 48) := by
          rw [byteAt0, Bool.eq_iff_iff]
          simp
          omega
        rw [e1, e2, e3, e4, Bool.or_true, Bool.and_true, Bool.false_or]
        cases h48 : c.toNat == 48 with
        | true => simp
        | false =>
          cases ha : (c :: r).all isD with
          | false => simp
          | true =>
            have hd := List.all_eq_true.1 ha
            rw [if_neg (by decide), if_neg (by decide), if_neg (by decide), acc_parse (c :: r) 0 (by omega) hd]
            have : (⟨(c :: r).toArray⟩ : ByteArray).data.toList = c :: r := rfl
            cases hp : Lib.parseUint10 0 (c :: r) with
            | ok u =>
              simp only [this, hp]
              by_cases hu : 9223372036854775808 < u
              · rw [if_neg (by omega), if_pos hu]
              · rw [if_pos (by omega), if_neg hu]
                simp
            | _ => simp only [this, hp]
    · cases hd : isD c with
      | false =>
        have h1 : numB ⟨(c :: r).toArray⟩ = (0, 8) := by
          unfold numB
          rw [numSyn_of (s := ⟨(c :: r).toArray⟩) (trimP_pos r hc), if_pos (by simp [hd])]
        show rnumB ⟨(c :: r).toArray⟩ = _
        rw [h1]
        unfold rnumB
        rw [digsOf_pos r hc, allB_list]
        split
        · rfl
        · rw [if_pos (by simp [hd])]
      | true =>
        rw [numB_pos c r hd]
        show rnumB ⟨(c :: r).toArray⟩ = _
        unfold rnumB
        rw [digsOf_pos r hc, allB_list]
        have e1 : ((⟨(c :: r).toArray⟩ : ByteArray).toList == (⟨#[]⟩ : ByteArray).toList) = false := by simp [Lib.toList_data]
        have e2 : decide ((1 : Int) < (⟨(c :: r).toArray⟩ : ByteArray).size) = !(r == []) := by
          cases r <;> simp [ByteArray.size]
          omega
        have e3 : decide (((⟨(c :: r).toArray⟩ : ByteArray).size : Int) < (⟨(c :: r).toArray⟩ : ByteArray).size) = false := by simp
        have e4 : (byteAt ⟨(c :: r).toArray⟩ 0 == 48) = (c.toNat == 48) := by
          rw [byteAt0, Bool.eq_iff_iff]
          simp
          omega
        rw [e1, e2, e3, e4, Bool.or_self, Bool.false_or]
        cases hx : (c.toNat == 48 && !(r == [])) with
        | true => simp
        | false =>
          cases ha : (c :: r).all isD with
          | false => simp
          | true =>
            have hd' := List.all_eq_true.1 ha
            rw [if_neg (by decide), if_neg (by decide), if_neg (by decide), acc_parse (c :: r) 0 (by omega) hd']
            have : (⟨(c :: r).toArray⟩ : ByteArray).data.toList = c :: r := rfl
            cases hp : Lib.parseUint10 0 (c :: r) with
            | ok u =>
              simp only [this, hp]
              by_cases hu : 9223372036854775808 ≤ u
              · rw [if_pos hu]
                by_cases hu2 : u ≤ 9223372036854775808
                · rw [if_pos hu2]
                  simp only [Bool.false_eq_true, if_false]
                  rw [if_pos (by omega)]
                · rw [if_neg hu2]
              · rw [if_neg hu, if_pos (by omega)]
                simp only [Bool.false_eq_true, if_false]
                rw [if_neg (by omega)]
            | _ => simp only [this, hp]
end Go.Am

/- Contracts: the reference's parts: a byte, a name, a number, at the beginning of what is left. No condition. -/
namespace Go.Am
open Go.Proofs
attribute [local go_sem ↓] ofL_cons ofH_cons upd_apply
set_option maxHeartbeats 4000000
set_option linter.unusedSimpArgs false

/-- What is left from k on. -/
def sfx (s : ByteArray) (k : Nat) : ByteArray := s.extract k s.size
theorem sfx_size (s : ByteArray) {k : Nat} : (sfx s k).size = s.size - k := by
  unfold sfx
  rw [ByteArray.size_extract]
  omega
theorem sfx_byte (s : ByteArray) {k i : Nat} (h : k + i < s.size) : byteAt (sfx s k) i = byteAt s (k + i) := byteAt_ext s h
theorem sfx_ext (s : ByteArray) {k i j : Nat} (h : k + j ≤ s.size) : (sfx s k).extract i j = s.extract (k + i) (k + j) := by
  refine ba_eq ?_
  unfold sfx
  rw [ext_list, ext_list, ext_list, List.drop_take, List.drop_drop, List.take_take]
  congr 1
  omega
theorem sfx_sfx (s : ByteArray) {k i : Nat} (h : k ≤ s.size) : (sfx s k).extract i (sfx s k).size = sfx s (k + i) := by
  rw [sfx_ext s (by rw [sfx_size]; omega), sfx_size, sfx]
  congr 1
  omega
theorem sfx_all (s : ByteArray) : sfx s 0 = s := by
  refine ba_eq ?_
  unfold sfx
  rw [ext_list, List.drop_zero, Nat.sub_zero]
  exact List.take_of_length_le (Nat.le_refl _)
theorem sfx_nil {s : ByteArray} {k : Nat} (hk : k ≤ s.size) : ((sfx s k).toList == (⟨#[]⟩ : ByteArray).toList) = decide (k = s.size) := by
  have hl : (sfx s k).toList.length = s.size - k := by rw [Lib.toList_data]; exact sfx_size s
  by_cases h : k = s.size
  · have : (sfx s k).toList = [] := List.length_eq_zero_iff.1 (by omega)
    rw [this]
    simp [h]
  · have : (sfx s k).toList ≠ [] := fun e => by rw [e] at hl; simp at hl; omega
    have e0 : (⟨#[]⟩ : ByteArray).toList = [] := by rw [Lib.toList_data]
    rw [e0]
    simp [this, h]

variable [Glb]

theorem taken_ok (s : ByteArray) (k : Nat) (c : UInt8) (hs : s.size ≤ 1000000000) (hk : k ≤ s.size) : APure Tryz.prog 34 [.str (sfx s k), .str ⟨#[c]⟩] (.tup [.str (sfx s (if isAt s k c then k + 1 else k)), .int (if isAt s k c then 0 else failAt s k)]) := by
  have FF : True := trivial
  refine apure_of Tryz.func34 rfl (by kernel_rfl) (by simp [Tryz.ntmps34]) ?_
  rw [Tryz.ntmps34]
  have hz := sfx_size s (k := k)
  have hc1 : byteAt (⟨#[c]⟩ : ByteArray) 0 = (c.toNat : Int) := rfl
  have hc2 : (⟨#[c]⟩ : ByteArray).size = 1 := rfl
  refine awp_rseq (by decide) fun KK hKK => ?_
  refine m_assign ?_
  refine m_assign ?_
  refine hKK _ _ ?_
  clear hKK KK
  refine m_join (ι := Unit) (fun i => [(0, .str (sfx s k)), (1, .str ⟨#[c]⟩)]) (fun i => []) (fun i => isAt s k c = true) ?_ ?_
  · refine awp_rseq (by decide) fun KK hKK => ?_
    refine m_assign ?_
    refine hKK _ _ ?_
    clear hKK KK
    refine awp_block ?_
    refine m_for (ι := Nat) (fun i => [(0, .str (sfx s k)), (1, .str ⟨#[c]⟩), (6, .int i)]) (fun i => []) (fun i => 1 - i) (fun i => i ≤ 1 ∧ (i = 1 → isAt s k c = true)) (0) ?_ ?_
    · exact ⟨by omega, fun h => by omega⟩
    rintro i ⟨hi, hat⟩
    refine awp_seq ?_
    refine awp_rseq (by decide) fun KK hKK => ?_
    refine m_move ?_
    refine m_move ?_
    refine m_len ?_
    refine m_bin ?_
    refine hKK _ _ ?_
    clear hKK KK
    refine m_cond (fun hc => ?_) (fun hc => ?_)
    · have hi0 : i = 0 := by
        have hc4 : ((#[c] : Array UInt8).size : Int) = 1 := rfl
        have hc5 : ((⟨#[c]⟩ : ByteArray).size : Int) = 1 := rfl
        simp only [decide_eq_true_eq] at hc
        omega
      subst hi0
      refine awp_skip ?_
      first | rw [thenQ_normal] | rw [blockQ_normal, thenQ_normal]
      refine awp_seq (awp_block ?_)
      refine awp_seq ?_
      refine awp_rseq (by decide) fun KK hKK => ?_
      refine m_move ?_
      refine m_move ?_
      refine m_len ?_
      refine m_bin ?_
      refine hKK _ _ ?_
      clear hKK KK
      refine m_cond (fun hc => ?_) (fun hc => ?_)
      · have he : k = s.size := by
          simp only [beq_iff_eq, hz] at hc
          omega
        have hn : isAt s k c = false := by
          cases h : isAt s k c with
          | false => rfl
          | true => have := isAt_lt h; omega
        refine awp_rseq (by decide) fun KK hKK => ?_
        refine m_move ?_
        refine m_assign ?_
        refine m_assign ?_
        refine hKK _ _ ?_
        clear hKK KK
        refine awp_ret ⟨[_, _], ⟨⟨(by simp only [go_sem, reduceIte, Nat.reduceEqDiff, FF]), (by simp only [go_sem, reduceIte, Nat.reduceEqDiff, FF] <;> rfl)⟩, ⟨(by simp only [go_sem, reduceIte, Nat.reduceEqDiff, FF]), (by simp only [go_sem, reduceIte, Nat.reduceEqDiff, FF] <;> rfl)⟩, trivial⟩, ?_⟩
        simp only [go_sem, reduceIte, Nat.reduceEqDiff, FF, tupled]
        rw [hn]
        simp only [Bool.false_eq_true, if_false]
        rw [failAt, if_pos (by omega)]
        exact CV.Sub.refl _
      · have hlt : k < s.size := by
          simp only [beq_eq_false_iff_ne, hz] at hc
          omega
        have hb : byteAt (sfx s k) 0 = byteAt s k := by
          have := sfx_byte s (k := k) (i := 0) (by omega)
          simpa using this
        refine awp_skip ?_
        first | rw [thenQ_normal] | rw [blockQ_normal, thenQ_normal]
        refine awp_rseq_draw Tryz.mixed (by decide) (by kernel_rfl) fun KK hKK => ?_
        refine m_move ?_
        refine m_move ?_
        refine m_idx ?_
        refine m_move ?_
        refine m_move ?_
        refine m_idx ?_
        refine m_bin ?_
        refine hKK _ _ ?_
        clear hKK KK
        refine m_cond (fun hc => ?_) (fun hc => ?_)
        · have hn : isAt s k c = false := by
            rw [isAt, Bool.and_eq_false_iff]
            right
            have hc' : (byteAt (sfx s k) 0 != byteAt (⟨#[c]⟩ : ByteArray) 0) = true := by simpa using hc
            rw [hb, hc1] at hc'
            simpa using hc'
          refine awp_rseq (by decide) fun KK hKK => ?_
          refine m_move ?_
          refine m_assign ?_
          refine m_assign ?_
          refine hKK _ _ ?_
          clear hKK KK
          refine awp_ret ⟨[_, _], ⟨⟨(by simp only [go_sem, reduceIte, Nat.reduceEqDiff, FF]), (by simp only [go_sem, reduceIte, Nat.reduceEqDiff, FF] <;> rfl)⟩, ⟨(by simp only [go_sem, reduceIte, Nat.reduceEqDiff, FF]), (by simp only [go_sem, reduceIte, Nat.reduceEqDiff, FF] <;> rfl)⟩, trivial⟩, ?_⟩
          simp only [go_sem, reduceIte, Nat.reduceEqDiff, FF, tupled]
          rw [hn]
          simp only [Bool.false_eq_true, if_false]
          rw [failAt, if_neg (by omega)]
          exact CV.Sub.refl _
        · have hy : isAt s k c = true := by
            have hc' : (byteAt (sfx s k) 0 != byteAt (⟨#[c]⟩ : ByteArray) 0) = false := by simpa using hc
            rw [hb, hc1] at hc'
            rw [isAt, Bool.and_eq_true, decide_eq_true_eq, beq_iff_eq]
            exact ⟨hlt, by simpa using hc'⟩
          refine awp_skip ?_
          first | rw [thenQ_normal] | rw [blockQ_normal, thenQ_normal]
          refine awp_rlast (by decide) fun KK hKK => ?_
          refine m_move ?_
          refine m_bin ?_
          refine m_assign ?_
          refine hKK _ _ ?_
          clear hKK KK
          try rw [thenQ_normal]
          refine m_next (1) ?_ ?_
          · exact ⟨Nat.le_refl _, fun _ => hy⟩
          · omega
    · have hi1 : i = 1 := by
        have hc4 : ((#[c] : Array UInt8).size : Int) = 1 := rfl
        have hc5 : ((⟨#[c]⟩ : ByteArray).size : Int) = 1 := rfl
        simp only [decide_eq_false_iff_not] at hc
        omega
      refine awp_exit ?_
      simp only [thenQ_exit, blockQ_exit, reduceIte, Nat.reduceEqDiff]
      try rw [thenQ_normal]
      try rw [thenQ_normal]
      refine ⟨(), ?_, (by simp only [List.forall_mem_cons, List.forall_mem_nil, go_sem, reduceIte, Nat.reduceEqDiff, FF]; all_goals ((repeat' apply And.intro) <;> first | trivial | rfl | exact objLe_refl _ | (intro _ _; exact Subs.refl _))), (by simp only [List.forall_mem_cons, List.forall_mem_nil, go_sem, reduceIte, Nat.reduceEqDiff, FF]; all_goals ((repeat' apply And.intro) <;> first | trivial | rfl | exact objLe_refl _ | (intro _ _; exact Subs.refl _)))⟩
      exact hat hi1
  rintro - hat
  have hlt := isAt_lt hat
  have he : (sfx s k).extract 1 (sfx s k).size = sfx s (k + 1) := sfx_sfx s hk
  have FF := And.intro hc2 FF
  refine awp_rseq (by decide) fun KK hKK => ?_
  refine m_move ?_
  refine m_move ?_
  refine m_len ?_
  first | refine m_slOwn ?_ | refine m_slIm ?_ | refine m_slStr ?_
  refine m_assign ?_
  refine m_assign ?_
  refine hKK _ _ ?_
  clear hKK KK
  refine awp_ret ⟨[_, _], ⟨⟨(by simp only [go_sem, reduceIte, Nat.reduceEqDiff, FF]), (by simp only [go_sem, reduceIte, Nat.reduceEqDiff, FF] <;> rfl)⟩, ⟨(by simp only [go_sem, reduceIte, Nat.reduceEqDiff, FF]), (by simp only [go_sem, reduceIte, Nat.reduceEqDiff, FF] <;> rfl)⟩, trivial⟩, ?_⟩
  simp only [go_sem, reduceIte, Nat.reduceEqDiff, FF, tupled]
  rw [hat, he]
  exact CV.Sub.refl _

/-- The name: what is read, where it ends, the error. -/
def nameR (s : ByteArray) (k : Nat) : ByteArray × Nat × Int := if nameTo s k = k then (⟨#[]⟩, k, failAt s k) else if nameTo s k = s.size then (⟨#[]⟩, k, 9) else (s.extract k (nameTo s k), nameTo s k, 0)

theorem rname2_ok (s : ByteArray) (k : Nat) (hs : s.size ≤ 1000000000) (hk : k ≤ s.size) : APure Tryz.prog 35 [.str (sfx s k)] (.tup [.str (nameR s k).1, .str (sfx s (nameR s k).2.1), .int (nameR s k).2.2]) := by
  have FF : True := trivial
  refine apure_of Tryz.func35 rfl (by kernel_rfl) (by simp [Tryz.ntmps35]) ?_
  rw [Tryz.ntmps35]
  have hz := sfx_size s (k := k)
  refine awp_rseq (by decide) fun KK hKK => ?_
  refine m_assign ?_
  refine m_assign ?_
  refine m_assign ?_
  refine hKK _ _ ?_
  clear hKK KK
  refine awp_rseq (by decide) fun KK hKK => ?_
  refine m_assign ?_
  refine hKK _ _ ?_
  clear hKK KK
  refine m_join (ι := Nat) (fun e => [(0, .str (sfx s k)), (5, .int (e : Nat))]) (fun e => []) (fun e => k + e = nameTo s k ∧ k + e ≤ s.size) ?_ ?_
  · refine awp_block ?_
    refine m_for (ι := Nat) (fun e => [(0, .str (sfx s k)), (5, .int (e : Nat))]) (fun e => []) (fun e => s.size - k - e) (fun e => k + e ≤ s.size ∧ nameEnd s k (s.size - (k + e)) (k + e) = nameTo s k) (0) ?_ ?_
    · exact ⟨by omega, rfl⟩
    rintro e ⟨he, hres⟩
    have w3 : IntKind.i64.wrap ((e : Int) + 1) = ((e + 1 : Nat) : Int) := wrap_in (by omega)
    refine awp_seq ?_
    have hle : e + 1 ≤ 33 ∨ 33 < e + 1 := by omega
    by_cases hlt : k + e < s.size
    · have hx : (sfx s k).extract 0 (e + 1) = s.extract k (k + e + 1) := by
        rw [sfx_ext s (by omega)]
        rfl
      have FF := And.intro w3 FF
      refine awp_rseq (by decide) fun KK hKK => ?_
      refine m_move ?_
      refine m_move ?_
      refine m_len ?_
      refine m_bin ?_
      refine m_move ?_
      refine g_move ?_
      refine g_bin ?_
      refine m_pick ?_
      refine m_move ?_
      refine g_move ?_
      refine g_move ?_
      refine g_bin ?_
      refine g_slStr ?_
      refine g_call (fun hG => rname_ok _) ?_
      refine m_pick ?_
      refine hKK _ _ ?_
      clear hKK KK
      have hcond : ((decide ((e : Int) < (sfx s k).size) && decide ((e : Int) ≤ 32)) && namedB ((sfx s k).extract 0 (e + 1)) false) = (decide (k + e < s.size) && namedB (s.extract k (k + e + 1)) false) := by
        rw [hx, hz]
        have h1 : decide ((e : Int) < ((s.size - k : Nat) : Int)) = true := by simp; omega
        have h2 : decide (k + e < s.size) = true := by simp; omega
        rw [h1, h2]
        cases hn : namedB (s.extract k (k + e + 1)) false with
        | false => simp
        | true =>
          have := ((named_at (by omega)).1 hn).short
          have h3 : decide ((e : Int) ≤ 32) = true := by simp; omega
          rw [h3]
          rfl
      refine m_cond (fun hc => ?_) (fun hc => ?_)
      · have hc' : (decide (k + e < s.size) && namedB (s.extract k (k + e + 1)) false) = true := by
          rw [← hcond]
          exact hc
        refine awp_skip ?_
        first | rw [thenQ_normal] | rw [blockQ_normal, thenQ_normal]
        refine awp_block ?_
        have FF := And.intro w3 FF
        refine awp_rlast (by decide) fun KK hKK => ?_
        refine m_move ?_
        refine m_bin ?_
        refine m_assign ?_
        refine hKK _ _ ?_
        clear hKK KK
        rw [blockQ_normal]
        try rw [thenQ_normal]
        refine m_next (e + 1) ?_ ?_
        · refine ⟨by omega, ?_⟩
          rw [← hres, show s.size - (k + e) = (s.size - (k + (e + 1))) + 1 by omega, nameEnd, if_pos hc']
          rfl
        · omega
      · have hc' : ¬ (decide (k + e < s.size) && namedB (s.extract k (k + e + 1)) false) = true := by
          rw [← hcond]
          simpa using hc
        refine awp_exit ?_
        simp only [thenQ_exit, blockQ_exit, reduceIte, Nat.reduceEqDiff]
        try rw [thenQ_normal]
        try rw [thenQ_normal]
        refine ⟨e, ?_, (by simp only [List.forall_mem_cons, List.forall_mem_nil, go_sem, reduceIte, Nat.reduceEqDiff, FF]; all_goals ((repeat' apply And.intro) <;> first | trivial | rfl | exact objLe_refl _ | (intro _ _; exact Subs.refl _))), (by simp only [List.forall_mem_cons, List.forall_mem_nil, go_sem, reduceIte, Nat.reduceEqDiff, FF]; all_goals ((repeat' apply And.intro) <;> first | trivial | rfl | exact objLe_refl _ | (intro _ _; exact Subs.refl _)))⟩
        refine ⟨?_, he⟩
        rw [← hres, show s.size - (k + e) = (s.size - (k + (e + 1))) + 1 by omega, nameEnd, if_neg hc']
    · have hend : k + e = s.size := by omega
      have hn1 : decide ((e : Int) < (sfx s k).size) = false := by
        rw [hz]
        simp
        omega
      refine awp_rseq (by decide) fun KK hKK => ?_
      refine st0 rfl (k_move (by simp only [go_sem, reduceIte, Nat.reduceEqDiff, FF, w3, hn1] <;> rfl)) ?_
      refine st0 rfl (k_move (by simp only [go_sem, reduceIte, Nat.reduceEqDiff, FF, w3, hn1] <;> rfl)) ?_
      refine st1 rfl (k_len (by simp only [go_sem, reduceIte, Nat.reduceEqDiff, FF, w3, hn1] <;> rfl) (by intro hG; simp only [go_sem]) (by first | exact nm_im (by simp only [go_sem] <;> rfl) | exact nm_own (by simp only [go_sem] <;> rfl) (by simp only [go_sem, reduceIte, Nat.reduceEqDiff, FF, w3, hn1] <;> rfl) (by intro hG; (repeat' apply And.intro) <;> first | rfl | omega | (dsimp only; omega) | (simp; done)) | exact nm_emp (by simp only [go_sem] <;> rfl) | exact nm_osub (by simp only [go_sem] <;> rfl) (by simp only [go_sem, reduceIte, Nat.reduceEqDiff, FF, w3, hn1] <;> rfl) (by intro hG; (repeat' apply And.intro) <;> first | rfl | omega | (dsimp only; omega) | (simp; done)) | exact nm_str (by simp only [go_sem] <;> rfl))) ?_
      refine st0 rfl (k_bin (by simp only [go_sem, reduceIte, Nat.reduceEqDiff, FF, w3, hn1] <;> rfl) (by simp only [go_sem, reduceIte, Nat.reduceEqDiff, FF, w3, hn1] <;> rfl) (by rfl) (by rfl) (by simp only [go_sem, reduceIte, Nat.reduceEqDiff, FF, w3, hn1] <;> rfl) (by intro hG; simp only [go_sem])) ?_
      refine st0 rfl (k_move (by simp only [go_sem, reduceIte, Nat.reduceEqDiff, FF, w3, hn1] <;> rfl)) ?_
      refine sgF rfl (by simp only [go_sem, reduceIte, Nat.reduceEqDiff, FF, w3, hn1] <;> rfl) (by rfl) (by simp only [go_sem, reduceIte, Nat.reduceEqDiff, FF, w3, hn1, hn1] <;> rfl) ?_
      refine sgF rfl (by simp only [go_sem, reduceIte, Nat.reduceEqDiff, FF, w3, hn1] <;> rfl) (by rfl) (by simp only [go_sem, reduceIte, Nat.reduceEqDiff, FF, w3, hn1, hn1] <;> rfl) ?_
      refine st0 rfl (k_pick (by simp only [go_sem, reduceIte, Nat.reduceEqDiff, FF, w3, hn1] <;> rfl) (by simp only [go_sem, reduceIte, Nat.reduceEqDiff, FF, w3, hn1] <;> rfl) (by simp only [go_sem, reduceIte, Nat.reduceEqDiff, FF, w3, hn1] <;> rfl) (by rfl) (by rfl) (by rfl) (by intro hG; first | (simp only [go_sem, reduceIte, Nat.reduceEqDiff, FF, w3, hn1, hn1]; done) | (simp [go_sem]; done) | (simp [go_sem] at hG ⊢ <;> simp [hG] <;> (intros; simp_all))) (by first | (simp only [go_sem, reduceIte, Nat.reduceEqDiff, FF, w3, hn1] <;> rfl) | rfl)) ?_
      refine st0 rfl (k_move (by simp only [go_sem, reduceIte, Nat.reduceEqDiff, FF, w3, hn1] <;> rfl)) ?_
      refine sgF rfl (by simp only [go_sem, reduceIte, Nat.reduceEqDiff, FF, w3, hn1] <;> rfl) (by rfl) (by simp only [go_sem, reduceIte, Nat.reduceEqDiff, FF, w3, hn1, hn1] <;> rfl) ?_
      refine sgF rfl (by simp only [go_sem, reduceIte, Nat.reduceEqDiff, FF, w3, hn1] <;> rfl) (by rfl) (by simp only [go_sem, reduceIte, Nat.reduceEqDiff, FF, w3, hn1, hn1] <;> rfl) ?_
      refine sgF rfl (by simp only [go_sem, reduceIte, Nat.reduceEqDiff, FF, w3, hn1] <;> rfl) (by rfl) (by simp only [go_sem, reduceIte, Nat.reduceEqDiff, FF, w3, hn1, hn1] <;> rfl) ?_
      refine sgF rfl (by simp only [go_sem, reduceIte, Nat.reduceEqDiff, FF, w3, hn1] <;> rfl) (by rfl) (by simp only [go_sem, reduceIte, Nat.reduceEqDiff, FF, w3, hn1, hn1] <;> rfl) ?_
      refine sgF rfl (by simp only [go_sem, reduceIte, Nat.reduceEqDiff, FF, w3, hn1] <;> rfl) (by rfl) (by simp only [go_sem, reduceIte, Nat.reduceEqDiff, FF, w3, hn1, hn1] <;> rfl) ?_
      refine st0 rfl (k_pick (by simp only [go_sem, reduceIte, Nat.reduceEqDiff, FF, w3, hn1] <;> rfl) (by simp only [go_sem, reduceIte, Nat.reduceEqDiff, FF, w3, hn1] <;> rfl) (by simp only [go_sem, reduceIte, Nat.reduceEqDiff, FF, w3, hn1] <;> rfl) (by rfl) (by rfl) (by rfl) (by intro hG; first | (simp only [go_sem, reduceIte, Nat.reduceEqDiff, FF, w3, hn1, hn1]; done) | (simp [go_sem]; done) | (simp [go_sem] at hG ⊢ <;> simp [hG] <;> (intros; simp_all))) (by first | (simp only [go_sem, reduceIte, Nat.reduceEqDiff, FF, w3, hn1] <;> rfl) | rfl)) ?_
      refine hKK _ _ ?_
      clear hKK KK
      refine awp_cond (by simp only [go_sem, reduceIte, Nat.reduceEqDiff, FF, hn1] <;> rfl) (fun hc => ?_) (fun hc => ?_)
      · cases hc
      · refine awp_exit ?_
        simp only [thenQ_exit, blockQ_exit, reduceIte, Nat.reduceEqDiff]
        try rw [thenQ_normal]
        try rw [thenQ_normal]
        refine ⟨e, ?_, (by simp only [List.forall_mem_cons, List.forall_mem_nil, go_sem, reduceIte, Nat.reduceEqDiff, FF]; all_goals ((repeat' apply And.intro) <;> first | trivial | rfl | exact objLe_refl _ | (intro _ _; exact Subs.refl _))), (by simp only [List.forall_mem_cons, List.forall_mem_nil, go_sem, reduceIte, Nat.reduceEqDiff, FF]; all_goals ((repeat' apply And.intro) <;> first | trivial | rfl | exact objLe_refl _ | (intro _ _; exact Subs.refl _)))⟩
        refine ⟨?_, he⟩
        rw [← hres, show s.size - (k + e) = 0 by omega, nameEnd]
  rintro e ⟨he, hle⟩
  have hret : nameTo s k = s.size → nameR s k = (⟨#[]⟩, k, 9) := fun hc' => by
    rw [nameR]
    by_cases h1 : nameTo s k = k
    · rw [if_pos h1, failAt, if_pos (by omega)]
    · rw [if_neg h1, if_pos hc']
  refine m_join (ι := Unit) (fun i => [(0, .str (sfx s k)), (5, .int (e : Nat))]) (fun i => []) (fun i => ¬ nameTo s k = s.size) ?_ ?_
  · cases hE : ((e : Nat) : Int) == 0 with
    | true =>
      have hE' : e = 0 := by simpa using hE
      cases hN : (sfx s k).toList == (⟨#[]⟩ : ByteArray).toList with
      | true =>
        have hks : k = s.size := by rw [sfx_nil hk] at hN; simpa using hN
        refine awp_rseq (by decide) fun KK hKK => ?_
        refine st0 rfl (k_move (by simp only [go_sem, reduceIte, Nat.reduceEqDiff, FF, hE, hN] <;> rfl)) ?_
        refine st0 rfl (k_bin (by simp only [go_sem, reduceIte, Nat.reduceEqDiff, FF, hE, hN] <;> rfl) (by simp only [go_sem, reduceIte, Nat.reduceEqDiff, FF, hE, hN] <;> rfl) (by rfl) (by rfl) (by simp only [go_sem, reduceIte, Nat.reduceEqDiff, FF, hE, hN] <;> rfl) (by intro hG; simp only [go_sem])) ?_
        refine st0 rfl (k_move (by simp only [go_sem, reduceIte, Nat.reduceEqDiff, FF, hE, hN] <;> rfl)) ?_
        refine sg0 rfl rfl (by simp only [go_sem, reduceIte, Nat.reduceEqDiff, FF, hE, hN] <;> rfl) (by rfl) (by simp only [go_sem, reduceIte, Nat.reduceEqDiff, FF, hE, hN] <;> rfl) (k_move (by simp only [go_sem, reduceIte, Nat.reduceEqDiff, FF, hE, hN] <;> rfl)) ?_
        refine sg0 rfl rfl (by simp only [go_sem, reduceIte, Nat.reduceEqDiff, FF, hE, hN] <;> rfl) (by rfl) (by simp only [go_sem, reduceIte, Nat.reduceEqDiff, FF, hE, hN] <;> rfl) (k_bin (by simp only [go_sem, reduceIte, Nat.reduceEqDiff, FF, hE, hN] <;> rfl) (by simp only [go_sem, reduceIte, Nat.reduceEqDiff, FF, hE, hN] <;> rfl) (by rfl) (by rfl) (by simp only [go_sem, reduceIte, Nat.reduceEqDiff, FF, hE, hN] <;> rfl) (by intro hG; simp only [go_sem, hG])) ?_
        refine st0 rfl (k_pick (by simp only [go_sem, reduceIte, Nat.reduceEqDiff, FF, hE, hN] <;> rfl) (by simp only [go_sem, reduceIte, Nat.reduceEqDiff, FF, hE, hN] <;> rfl) (by simp only [go_sem, reduceIte, Nat.reduceEqDiff, FF, hE, hN] <;> rfl) (by rfl) (by rfl) (by rfl) (by intro hG; first | (simp only [go_sem, reduceIte, Nat.reduceEqDiff, FF, hE, hN, hN]; done) | (simp [go_sem]; done) | (simp [go_sem] at hG ⊢ <;> simp [hG] <;> (intros; simp_all))) (by first | (simp only [go_sem, reduceIte, Nat.reduceEqDiff, FF, hE, hN] <;> rfl) | rfl)) ?_
        refine st0 rfl (k_move (by simp only [go_sem, reduceIte, Nat.reduceEqDiff, FF, hE, hN] <;> rfl)) ?_
        refine sgF rfl (by simp only [go_sem, reduceIte, Nat.reduceEqDiff, FF, hE, hN] <;> rfl) (by rfl) (by simp only [go_sem, reduceIte, Nat.reduceEqDiff, FF, hE, hN, hN] <;> rfl) ?_
        refine sgF rfl (by simp only [go_sem, reduceIte, Nat.reduceEqDiff, FF, hE, hN] <;> rfl) (by rfl) (by simp only [go_sem, reduceIte, Nat.reduceEqDiff, FF, hE, hN, hN] <;> rfl) ?_
        refine sgF rfl (by simp only [go_sem, reduceIte, Nat.reduceEqDiff, FF, hE, hN] <;> rfl) (by rfl) (by simp only [go_sem, reduceIte, Nat.reduceEqDiff, FF, hE, hN, hN] <;> rfl) ?_
        refine sgF rfl (by simp only [go_sem, reduceIte, Nat.reduceEqDiff, FF, hE, hN] <;> rfl) (by rfl) (by simp only [go_sem, reduceIte, Nat.reduceEqDiff, FF, hE, hN, hN] <;> rfl) ?_
        refine sgF rfl (by simp only [go_sem, reduceIte, Nat.reduceEqDiff, FF, hE, hN] <;> rfl) (by rfl) (by simp only [go_sem, reduceIte, Nat.reduceEqDiff, FF, hE, hN, hN] <;> rfl) ?_
        refine sgF rfl (by simp only [go_sem, reduceIte, Nat.reduceEqDiff, FF, hE, hN] <;> rfl) (by rfl) (by simp only [go_sem, reduceIte, Nat.reduceEqDiff, FF, hE, hN, hN] <;> rfl) ?_
        refine sgF rfl (by simp only [go_sem, reduceIte, Nat.reduceEqDiff, FF, hE, hN] <;> rfl) (by rfl) (by simp only [go_sem, reduceIte, Nat.reduceEqDiff, FF, hE, hN, hN] <;> rfl) ?_
        refine sgF rfl (by simp only [go_sem, reduceIte, Nat.reduceEqDiff, FF, hE, hN] <;> rfl) (by rfl) (by simp only [go_sem, reduceIte, Nat.reduceEqDiff, FF, hE, hN, hN] <;> rfl) ?_
        refine st0 rfl (k_pick (by simp only [go_sem, reduceIte, Nat.reduceEqDiff, FF, hE, hN] <;> rfl) (by simp only [go_sem, reduceIte, Nat.reduceEqDiff, FF, hE, hN] <;> rfl) (by simp only [go_sem, reduceIte, Nat.reduceEqDiff, FF, hE, hN] <;> rfl) (by rfl) (by rfl) (by rfl) (by intro hG; first | (simp only [go_sem, reduceIte, Nat.reduceEqDiff, FF, hE, hN, hN]; done) | (simp [go_sem]; done) | (simp [go_sem] at hG ⊢ <;> simp [hG] <;> (intros; simp_all))) (by first | (simp only [go_sem, reduceIte, Nat.reduceEqDiff, FF, hE, hN] <;> rfl) | rfl)) ?_
        refine hKK _ _ ?_
        clear hKK KK
        refine awp_cond (by simp only [go_sem, reduceIte, Nat.reduceEqDiff, FF, hE, hN] <;> rfl) (fun hc => ?_) (fun hc => ?_)
        · refine awp_rseq (by decide) fun KK hKK => ?_
          refine m_move ?_
          refine m_assign ?_
          refine m_assign ?_
          refine m_assign ?_
          refine hKK _ _ ?_
          clear hKK KK
          refine awp_ret ⟨[_, _, _], ⟨⟨(by simp only [go_sem, reduceIte, Nat.reduceEqDiff, FF]), (by simp only [go_sem, reduceIte, Nat.reduceEqDiff, FF] <;> rfl)⟩, ⟨(by simp only [go_sem, reduceIte, Nat.reduceEqDiff, FF]), (by simp only [go_sem, reduceIte, Nat.reduceEqDiff, FF] <;> rfl)⟩, ⟨(by simp only [go_sem, reduceIte, Nat.reduceEqDiff, FF]), (by simp only [go_sem, reduceIte, Nat.reduceEqDiff, FF] <;> rfl)⟩, trivial⟩, ?_⟩
          simp only [go_sem, reduceIte, Nat.reduceEqDiff, FF, tupled]
          rw [hret (by omega)]
          exact CV.Sub.refl _
        · cases hc
      | false =>
        have hks : ¬ k = s.size := by rw [sfx_nil hk] at hN; simpa using hN
        have hP : decide ((0 : Int) < (e : Nat)) = false := by rw [hE']; rfl
        refine awp_rseq (by decide) fun KK hKK => ?_
        refine st0 rfl (k_move (by simp only [go_sem, reduceIte, Nat.reduceEqDiff, FF, hE, hN, hP] <;> rfl)) ?_
        refine st0 rfl (k_bin (by simp only [go_sem, reduceIte, Nat.reduceEqDiff, FF, hE, hN, hP] <;> rfl) (by simp only [go_sem, reduceIte, Nat.reduceEqDiff, FF, hE, hN, hP] <;> rfl) (by rfl) (by rfl) (by simp only [go_sem, reduceIte, Nat.reduceEqDiff, FF, hE, hN, hP] <;> rfl) (by intro hG; simp only [go_sem])) ?_
        refine st0 rfl (k_move (by simp only [go_sem, reduceIte, Nat.reduceEqDiff, FF, hE, hN, hP] <;> rfl)) ?_
        refine sg0 rfl rfl (by simp only [go_sem, reduceIte, Nat.reduceEqDiff, FF, hE, hN, hP] <;> rfl) (by rfl) (by simp only [go_sem, reduceIte, Nat.reduceEqDiff, FF, hE, hN, hP] <;> rfl) (k_move (by simp only [go_sem, reduceIte, Nat.reduceEqDiff, FF, hE, hN, hP] <;> rfl)) ?_
        refine sg0 rfl rfl (by simp only [go_sem, reduceIte, Nat.reduceEqDiff, FF, hE, hN, hP] <;> rfl) (by rfl) (by simp only [go_sem, reduceIte, Nat.reduceEqDiff, FF, hE, hN, hP] <;> rfl) (k_bin (by simp only [go_sem, reduceIte, Nat.reduceEqDiff, FF, hE, hN, hP] <;> rfl) (by simp only [go_sem, reduceIte, Nat.reduceEqDiff, FF, hE, hN, hP] <;> rfl) (by rfl) (by rfl) (by simp only [go_sem, reduceIte, Nat.reduceEqDiff, FF, hE, hN, hP] <;> rfl) (by intro hG; simp only [go_sem, hG])) ?_
        refine st0 rfl (k_pick (by simp only [go_sem, reduceIte, Nat.reduceEqDiff, FF, hE, hN, hP] <;> rfl) (by simp only [go_sem, reduceIte, Nat.reduceEqDiff, FF, hE, hN, hP] <;> rfl) (by simp only [go_sem, reduceIte, Nat.reduceEqDiff, FF, hE, hN, hP] <;> rfl) (by rfl) (by rfl) (by rfl) (by intro hG; first | (simp only [go_sem, reduceIte, Nat.reduceEqDiff, FF, hE, hN, hP, hP]; done) | (simp [go_sem]; done) | (simp [go_sem] at hG ⊢ <;> simp [hG] <;> (intros; simp_all))) (by first | (simp only [go_sem, reduceIte, Nat.reduceEqDiff, FF, hE, hN, hP] <;> rfl) | rfl)) ?_
        refine st0 rfl (k_move (by simp only [go_sem, reduceIte, Nat.reduceEqDiff, FF, hE, hN, hP] <;> rfl)) ?_
        refine sg0 rfl rfl (by simp only [go_sem, reduceIte, Nat.reduceEqDiff, FF, hE, hN, hP] <;> rfl) (by rfl) (by simp only [go_sem, reduceIte, Nat.reduceEqDiff, FF, hE, hN, hP] <;> rfl) (k_move (by simp only [go_sem, reduceIte, Nat.reduceEqDiff, FF, hE, hN, hP] <;> rfl)) ?_
        refine sg0 rfl rfl (by simp only [go_sem, reduceIte, Nat.reduceEqDiff, FF, hE, hN, hP] <;> rfl) (by rfl) (by simp only [go_sem, reduceIte, Nat.reduceEqDiff, FF, hE, hN, hP] <;> rfl) (k_bin (by simp only [go_sem, reduceIte, Nat.reduceEqDiff, FF, hE, hN, hP] <;> rfl) (by simp only [go_sem, reduceIte, Nat.reduceEqDiff, FF, hE, hN, hP] <;> rfl) (by rfl) (by rfl) (by simp only [go_sem, reduceIte, Nat.reduceEqDiff, FF, hE, hN, hP] <;> rfl) (by intro hG; simp only [go_sem, hG])) ?_
        refine sg0 rfl rfl (by simp only [go_sem, reduceIte, Nat.reduceEqDiff, FF, hE, hN, hP] <;> rfl) (by rfl) (by simp only [go_sem, reduceIte, Nat.reduceEqDiff, FF, hE, hN, hP] <;> rfl) (k_move (by simp only [go_sem, reduceIte, Nat.reduceEqDiff, FF, hE, hN, hP] <;> rfl)) ?_
        refine sgF rfl (by simp only [go_sem, reduceIte, Nat.reduceEqDiff, FF, hE, hN, hP] <;> rfl) (by rfl) (by simp only [go_sem, reduceIte, Nat.reduceEqDiff, FF, hE, hN, hP, hP] <;> rfl) ?_
        refine sgF rfl (by simp only [go_sem, reduceIte, Nat.reduceEqDiff, FF, hE, hN, hP] <;> rfl) (by rfl) (by simp only [go_sem, reduceIte, Nat.reduceEqDiff, FF, hE, hN, hP, hP] <;> rfl) ?_
        refine sgF rfl (by simp only [go_sem, reduceIte, Nat.reduceEqDiff, FF, hE, hN, hP] <;> rfl) (by rfl) (by simp only [go_sem, reduceIte, Nat.reduceEqDiff, FF, hE, hN, hP, hP] <;> rfl) ?_
        refine sgF rfl (by simp only [go_sem, reduceIte, Nat.reduceEqDiff, FF, hE, hN, hP] <;> rfl) (by rfl) (by simp only [go_sem, reduceIte, Nat.reduceEqDiff, FF, hE, hN, hP, hP] <;> rfl) ?_
        refine sg0 rfl rfl (by simp only [go_sem, reduceIte, Nat.reduceEqDiff, FF, hE, hN, hP] <;> rfl) (by rfl) (by simp only [go_sem, reduceIte, Nat.reduceEqDiff, FF, hE, hN, hP] <;> rfl) (k_pick (by simp only [go_sem, reduceIte, Nat.reduceEqDiff, FF, hE, hN, hP] <;> rfl) (by simp only [go_sem, reduceIte, Nat.reduceEqDiff, FF, hE, hN, hP] <;> rfl) (by simp only [go_sem, reduceIte, Nat.reduceEqDiff, FF, hE, hN, hP] <;> rfl) (by rfl) (by rfl) (by rfl) (by intro hG; first | (simp only [go_sem, reduceIte, Nat.reduceEqDiff, FF, hE, hN, hP, hP]; done) | (simp [go_sem]; done) | (simp [go_sem] at hG ⊢ <;> simp [hG] <;> (intros; simp_all))) (by first | (simp only [go_sem, reduceIte, Nat.reduceEqDiff, FF, hE, hN, hP] <;> rfl) | rfl)) ?_
        refine st0 rfl (k_pick (by simp only [go_sem, reduceIte, Nat.reduceEqDiff, FF, hE, hN, hP] <;> rfl) (by simp only [go_sem, reduceIte, Nat.reduceEqDiff, FF, hE, hN, hP] <;> rfl) (by simp only [go_sem, reduceIte, Nat.reduceEqDiff, FF, hE, hN, hP] <;> rfl) (by rfl) (by rfl) (by rfl) (by intro hG; first | (simp only [go_sem, reduceIte, Nat.reduceEqDiff, FF, hE, hN, hP, hP]; done) | (simp [go_sem]; done) | (simp [go_sem] at hG ⊢ <;> simp [hG] <;> (intros; simp_all))) (by first | (simp only [go_sem, reduceIte, Nat.reduceEqDiff, FF, hE, hN, hP] <;> rfl) | rfl)) ?_
        refine hKK _ _ ?_
        clear hKK KK
        refine awp_cond (by simp only [go_sem, reduceIte, Nat.reduceEqDiff, FF, hE, hN, hP] <;> rfl) (fun hc => ?_) (fun hc => ?_)
        · cases hc
        · refine awp_skip ?_
          try rw [thenQ_normal]
          refine ⟨(), ?_, (by simp only [List.forall_mem_cons, List.forall_mem_nil, go_sem, reduceIte, Nat.reduceEqDiff, FF]; all_goals ((repeat' apply And.intro) <;> first | trivial | rfl | exact objLe_refl _ | (intro _ _; exact Subs.refl _))), (by simp only [List.forall_mem_cons, List.forall_mem_nil, go_sem, reduceIte, Nat.reduceEqDiff, FF]; all_goals ((repeat' apply And.intro) <;> first | trivial | rfl | exact objLe_refl _ | (intro _ _; exact Subs.refl _)))⟩
          omega
    | false =>
      have hE' : ¬ e = 0 := by simpa using hE
      have hP : decide ((0 : Int) < (e : Nat)) = true := by simp; omega
      refine awp_rseq (by decide) fun KK hKK => ?_
      refine st0 rfl (k_move (by simp only [go_sem, reduceIte, Nat.reduceEqDiff, FF, hE, hP] <;> rfl)) ?_
      refine st0 rfl (k_bin (by simp only [go_sem, reduceIte, Nat.reduceEqDiff, FF, hE, hP] <;> rfl) (by simp only [go_sem, reduceIte, Nat.reduceEqDiff, FF, hE, hP] <;> rfl) (by rfl) (by rfl) (by simp only [go_sem, reduceIte, Nat.reduceEqDiff, FF, hE, hP] <;> rfl) (by intro hG; simp only [go_sem])) ?_
      refine st0 rfl (k_move (by simp only [go_sem, reduceIte, Nat.reduceEqDiff, FF, hE, hP] <;> rfl)) ?_
      refine sgF rfl (by simp only [go_sem, reduceIte, Nat.reduceEqDiff, FF, hE, hP] <;> rfl) (by rfl) (by simp only [go_sem, reduceIte, Nat.reduceEqDiff, FF, hE, hP, hE] <;> rfl) ?_
      refine sgF rfl (by simp only [go_sem, reduceIte, Nat.reduceEqDiff, FF, hE, hP] <;> rfl) (by rfl) (by simp only [go_sem, reduceIte, Nat.reduceEqDiff, FF, hE, hP, hE] <;> rfl) ?_
      refine st0 rfl (k_pick (by simp only [go_sem, reduceIte, Nat.reduceEqDiff, FF, hE, hP] <;> rfl) (by simp only [go_sem, reduceIte, Nat.reduceEqDiff, FF, hE, hP] <;> rfl) (by simp only [go_sem, reduceIte, Nat.reduceEqDiff, FF, hE, hP] <;> rfl) (by rfl) (by rfl) (by rfl) (by intro hG; first | (simp only [go_sem, reduceIte, Nat.reduceEqDiff, FF, hE, hP, hE]; done) | (simp [go_sem]; done) | (simp [go_sem] at hG ⊢ <;> simp [hG] <;> (intros; simp_all))) (by first | (simp only [go_sem, reduceIte, Nat.reduceEqDiff, FF, hE, hP] <;> rfl) | rfl)) ?_
      refine st0 rfl (k_move (by simp only [go_sem, reduceIte, Nat.reduceEqDiff, FF, hE, hP] <;> rfl)) ?_
      refine sg0 rfl rfl (by simp only [go_sem, reduceIte, Nat.reduceEqDiff, FF, hE, hP] <;> rfl) (by rfl) (by simp only [go_sem, reduceIte, Nat.reduceEqDiff, FF, hE, hP] <;> rfl) (k_move (by simp only [go_sem, reduceIte, Nat.reduceEqDiff, FF, hE, hP] <;> rfl)) ?_
      refine sg0 rfl rfl (by simp only [go_sem, reduceIte, Nat.reduceEqDiff, FF, hE, hP] <;> rfl) (by rfl) (by simp only [go_sem, reduceIte, Nat.reduceEqDiff, FF, hE, hP] <;> rfl) (k_bin (by simp only [go_sem, reduceIte, Nat.reduceEqDiff, FF, hE, hP] <;> rfl) (by simp only [go_sem, reduceIte, Nat.reduceEqDiff, FF, hE, hP] <;> rfl) (by rfl) (by rfl) (by simp only [go_sem, reduceIte, Nat.reduceEqDiff, FF, hE, hP] <;> rfl) (by intro hG; simp only [go_sem, hG])) ?_
      refine sg0 rfl rfl (by simp only [go_sem, reduceIte, Nat.reduceEqDiff, FF, hE, hP] <;> rfl) (by rfl) (by simp only [go_sem, reduceIte, Nat.reduceEqDiff, FF, hE, hP] <;> rfl) (k_move (by simp only [go_sem, reduceIte, Nat.reduceEqDiff, FF, hE, hP] <;> rfl)) ?_
      refine sg0 rfl rfl (by simp only [go_sem, reduceIte, Nat.reduceEqDiff, FF, hE, hP] <;> rfl) (by rfl) (by simp only [go_sem, reduceIte, Nat.reduceEqDiff, FF, hE, hP] <;> rfl) (k_move (by simp only [go_sem, reduceIte, Nat.reduceEqDiff, FF, hE, hP] <;> rfl)) ?_
      refine sg0 rfl rfl (by simp only [go_sem, reduceIte, Nat.reduceEqDiff, FF, hE, hP] <;> rfl) (by rfl) (by simp only [go_sem, reduceIte, Nat.reduceEqDiff, FF, hE, hP] <;> rfl) (k_move (by simp only [go_sem, reduceIte, Nat.reduceEqDiff, FF, hE, hP] <;> rfl)) ?_
      refine sg1 rfl rfl (by simp only [go_sem, reduceIte, Nat.reduceEqDiff, FF, hE, hP] <;> rfl) (by rfl) (by simp only [go_sem, reduceIte, Nat.reduceEqDiff, FF, hE, hP] <;> rfl) (k_len (by simp only [go_sem, reduceIte, Nat.reduceEqDiff, FF, hE, hP] <;> rfl) (by intro hG; simp only [go_sem, hG]) (by first | exact nm_im (by simp only [go_sem] <;> rfl) | exact nm_own (by simp only [go_sem] <;> rfl) (by simp only [go_sem, reduceIte, Nat.reduceEqDiff, FF, hE, hP] <;> rfl) (by intro hG; (repeat' apply And.intro) <;> first | rfl | omega | (simp only [Bool.not_eq_true', Bool.or_eq_false_iff, Bool.and_eq_true, decide_eq_true_eq, decide_eq_false_iff_not, beq_iff_eq] at hG; omega) | (dsimp only; omega) | (simp; done)) | exact nm_emp (by simp only [go_sem] <;> rfl) | exact nm_osub (by simp only [go_sem] <;> rfl) (by simp only [go_sem, reduceIte, Nat.reduceEqDiff, FF, hE, hP] <;> rfl) (by intro hG; (repeat' apply And.intro) <;> first | rfl | omega | (simp only [Bool.not_eq_true', Bool.or_eq_false_iff, Bool.and_eq_true, decide_eq_true_eq, decide_eq_false_iff_not, beq_iff_eq] at hG; omega) | (dsimp only; omega) | (simp; done)) | exact nm_str (by simp only [go_sem] <;> rfl))) ?_
      refine sg0 rfl rfl (by simp only [go_sem, reduceIte, Nat.reduceEqDiff, FF, hE, hP] <;> rfl) (by rfl) (by simp only [go_sem, reduceIte, Nat.reduceEqDiff, FF, hE, hP] <;> rfl) (k_bin (by simp only [go_sem, reduceIte, Nat.reduceEqDiff, FF, hE, hP] <;> rfl) (by simp only [go_sem, reduceIte, Nat.reduceEqDiff, FF, hE, hP] <;> rfl) (by rfl) (by rfl) (by simp only [go_sem, reduceIte, Nat.reduceEqDiff, FF, hE, hP] <;> rfl) (by intro hG; simp only [go_sem, hG])) ?_
      refine sg0 rfl rfl (by simp only [go_sem, reduceIte, Nat.reduceEqDiff, FF, hE, hP] <;> rfl) (by rfl) (by simp only [go_sem, reduceIte, Nat.reduceEqDiff, FF, hE, hP] <;> rfl) (k_pick (by simp only [go_sem, reduceIte, Nat.reduceEqDiff, FF, hE, hP] <;> rfl) (by simp only [go_sem, reduceIte, Nat.reduceEqDiff, FF, hE, hP] <;> rfl) (by simp only [go_sem, reduceIte, Nat.reduceEqDiff, FF, hE, hP] <;> rfl) (by rfl) (by rfl) (by rfl) (by intro hG; first | (simp only [go_sem, reduceIte, Nat.reduceEqDiff, FF, hE, hP, hE]; done) | (simp [go_sem]; done) | (simp [go_sem] at hG ⊢ <;> simp [hG] <;> (intros; simp_all))) (by first | (simp only [go_sem, reduceIte, Nat.reduceEqDiff, FF, hE, hP] <;> rfl) | rfl)) ?_
      refine st0 rfl (k_pick (by simp only [go_sem, reduceIte, Nat.reduceEqDiff, FF, hE, hP] <;> rfl) (by simp only [go_sem, reduceIte, Nat.reduceEqDiff, FF, hE, hP] <;> rfl) (by simp only [go_sem, reduceIte, Nat.reduceEqDiff, FF, hE, hP] <;> rfl) (by rfl) (by rfl) (by rfl) (by intro hG; first | (simp only [go_sem, reduceIte, Nat.reduceEqDiff, FF, hE, hP, hE]; done) | (simp [go_sem]; done) | (simp [go_sem] at hG ⊢ <;> simp [hG] <;> (intros; simp_all))) (by first | (simp only [go_sem, reduceIte, Nat.reduceEqDiff, FF, hE, hP] <;> rfl) | rfl)) ?_
      refine hKK _ _ ?_
      clear hKK KK
      refine awp_cond (by simp only [go_sem, reduceIte, Nat.reduceEqDiff, FF, hE, hP] <;> rfl) (fun hc => ?_) (fun hc => ?_)
      · have hc' : nameTo s k = s.size := by
          have : ((e : Nat) : Int) = (sfx s k).size := by simpa using hc
          rw [hz] at this
          omega
        refine awp_rseq (by decide) fun KK hKK => ?_
        refine m_move ?_
        refine m_assign ?_
        refine m_assign ?_
        refine m_assign ?_
        refine hKK _ _ ?_
        clear hKK KK
        refine awp_ret ⟨[_, _, _], ⟨⟨(by simp only [go_sem, reduceIte, Nat.reduceEqDiff, FF]), (by simp only [go_sem, reduceIte, Nat.reduceEqDiff, FF] <;> rfl)⟩, ⟨(by simp only [go_sem, reduceIte, Nat.reduceEqDiff, FF]), (by simp only [go_sem, reduceIte, Nat.reduceEqDiff, FF] <;> rfl)⟩, ⟨(by simp only [go_sem, reduceIte, Nat.reduceEqDiff, FF]), (by simp only [go_sem, reduceIte, Nat.reduceEqDiff, FF] <;> rfl)⟩, trivial⟩, ?_⟩
        simp only [go_sem, reduceIte, Nat.reduceEqDiff, FF, tupled]
        rw [hret hc']
        exact CV.Sub.refl _
      · have hc' : ¬ nameTo s k = s.size := by
          have : ¬ ((e : Nat) : Int) = (sfx s k).size := by simpa using hc
          rw [hz] at this
          omega
        refine awp_skip ?_
        try rw [thenQ_normal]
        refine ⟨(), ?_, (by simp only [List.forall_mem_cons, List.forall_mem_nil, go_sem, reduceIte, Nat.reduceEqDiff, FF]; all_goals ((repeat' apply And.intro) <;> first | trivial | rfl | exact objLe_refl _ | (intro _ _; exact Subs.refl _))), (by simp only [List.forall_mem_cons, List.forall_mem_nil, go_sem, reduceIte, Nat.reduceEqDiff, FF]; all_goals ((repeat' apply And.intro) <;> first | trivial | rfl | exact objLe_refl _ | (intro _ _; exact Subs.refl _)))⟩
        exact hc'
  rintro - hc'
  refine awp_seq ?_
  refine awp_rseq (by decide) fun KK hKK => ?_
  refine m_move ?_
  refine m_bin ?_
  refine hKK _ _ ?_
  clear hKK KK
  refine m_cond (fun hc => ?_) (fun hc => ?_)
  · have h0 : nameTo s k = k := by
      simp only [beq_iff_eq] at hc
      omega
    refine awp_rseq (by decide) fun KK hKK => ?_
    refine m_move ?_
    refine m_assign ?_
    refine m_assign ?_
    refine m_assign ?_
    refine hKK _ _ ?_
    clear hKK KK
    refine awp_ret ⟨[_, _, _], ⟨⟨(by simp only [go_sem, reduceIte, Nat.reduceEqDiff, FF]), (by simp only [go_sem, reduceIte, Nat.reduceEqDiff, FF] <;> rfl)⟩, ⟨(by simp only [go_sem, reduceIte, Nat.reduceEqDiff, FF]), (by simp only [go_sem, reduceIte, Nat.reduceEqDiff, FF] <;> rfl)⟩, ⟨(by simp only [go_sem, reduceIte, Nat.reduceEqDiff, FF]), (by simp only [go_sem, reduceIte, Nat.reduceEqDiff, FF] <;> rfl)⟩, trivial⟩, ?_⟩
    simp only [go_sem, reduceIte, Nat.reduceEqDiff, FF, tupled]
    have : nameR s k = (⟨#[]⟩, k, 8) := by rw [nameR, if_pos h0, failAt, if_neg (by omega)]
    rw [this]
    exact CV.Sub.refl _
  have h0 : ¬ nameTo s k = k := by
    simp only [beq_eq_false_iff_ne] at hc
    omega
  refine awp_skip ?_
  first | rw [thenQ_normal] | rw [blockQ_normal, thenQ_normal]
  have x1 : (sfx s k).extract 0 e = s.extract k (nameTo s k) := by
    rw [sfx_ext s (by omega), ← he]
    rfl
  have x2 : (sfx s k).extract e (sfx s k).size = sfx s (nameTo s k) := by rw [sfx_sfx s hk, he]
  refine awp_rseq_draw Tryz.mixed (by decide) (by kernel_rfl) fun KK hKK => ?_
  refine m_move ?_
  refine m_move ?_
  first | refine m_slOwn ?_ | refine m_slIm ?_ | refine m_slStr ?_
  refine m_move ?_
  refine m_move ?_
  first | refine m_slOwn ?_ | refine m_slIm ?_ | refine m_slStr ?_
  refine m_assign ?_
  refine m_assign ?_
  refine m_assign ?_
  refine hKK _ _ ?_
  clear hKK KK
  refine awp_ret ⟨[_, _, _], ⟨⟨(by simp only [go_sem, reduceIte, Nat.reduceEqDiff, FF]), (by simp only [go_sem, reduceIte, Nat.reduceEqDiff, FF] <;> rfl)⟩, ⟨(by simp only [go_sem, reduceIte, Nat.reduceEqDiff, FF]), (by simp only [go_sem, reduceIte, Nat.reduceEqDiff, FF] <;> rfl)⟩, ⟨(by simp only [go_sem, reduceIte, Nat.reduceEqDiff, FF]), (by simp only [go_sem, reduceIte, Nat.reduceEqDiff, FF] <;> rfl)⟩, trivial⟩, ?_⟩
  simp only [go_sem, reduceIte, Nat.reduceEqDiff, FF, tupled]
  rw [nameR, if_neg h0, if_neg hc', x1, x2]
  exact CV.Sub.refl _
end Go.Am

/- Contracts: the reference reads a number at the beginning of what is left. No condition. -/
namespace Go.Am
open Go.Proofs
attribute [local go_sem ↓] ofL_cons ofH_cons upd_apply
set_option maxHeartbeats 4000000
set_option linter.unusedSimpArgs false

/-- Where the digits end. -/
def digEnd (s : ByteArray) : Nat → Nat → Nat
  | 0, k => k
  | n + 1, k => if digAt s k then digEnd s n (k + 1) else k
def digTo (s : ByteArray) (k : Nat) : Nat := digEnd s (s.size - numFst s k) (numFst s k)
/-- The number, where it ends, the error. -/
def numR (s : ByteArray) (k : Nat) : Int × Nat × Int :=
  if digTo s k = s.size ∧ (k = s.size ∨ (sfx s k).toList = [45]) then (0, k, 9) else if (numB (s.extract k (digTo s k))).2 ≠ 0 then (0, k, 8) else if digTo s k = s.size then (0, k, 9) else ((numB (s.extract k (digTo s k))).1, digTo s k, 0)
theorem minus_list : (⟨#[45]⟩ : ByteArray).toList = [45] := by rw [Lib.toList_data]

variable [Glb]

theorem rnumber2_ok (s : ByteArray) (k : Nat) (hs : s.size ≤ 1000000000) (hk : k ≤ s.size) : APure Tryz.prog 36 [.str (sfx s k)] (.tup [.int (numR s k).1, .str (sfx s (numR s k).2.1), .int (numR s k).2.2]) := by
  have FF : True := trivial
  refine apure_of Tryz.func36 rfl (by kernel_rfl) (by simp [Tryz.ntmps36]) ?_
  rw [Tryz.ntmps36]
  have hz := sfx_size s (k := k)
  refine awp_rseq (by decide) fun KK hKK => ?_
  refine m_assign ?_
  refine m_assign ?_
  refine m_assign ?_
  refine hKK _ _ ?_
  clear hKK KK
  refine awp_rseq (by decide) fun KK hKK => ?_
  refine m_assign ?_
  refine hKK _ _ ?_
  clear hKK KK
  refine m_join (ι := Nat) (fun f => [(0, .str (sfx s k)), (5, .int (f : Nat))]) (fun f => []) (fun f => k + f = numFst s k ∧ k + f ≤ s.size) ?_ ?_
  · have hnf := numFst_le hk
    have hcond : (decide ((0 : Int) < (sfx s k).size) && byteAt (sfx s k) 0 == 45) = isAt s k 45 := by
      by_cases hlt : k < s.size
      · have hb : byteAt (sfx s k) 0 = byteAt s k := by
          have := sfx_byte s (k := k) (i := 0) (by omega)
          simpa using this
        rw [hb, hz, isAt]
        have h1 : decide ((0 : Int) < ((s.size - k : Nat) : Int)) = true := by simp; omega
        have h2 : decide (k < s.size) = true := by simp; omega
        rw [h1, h2]
        rfl
      · have h1 : decide ((0 : Int) < ((s.size - k : Nat) : Int)) = false := by simp; omega
        have h2 : decide (k < s.size) = false := by simp; omega
        rw [hz, isAt, h1, h2]
        rfl
    refine awp_rseq (by decide) fun KK hKK => ?_
    refine m_move ?_
    refine m_len ?_
    refine m_bin ?_
    refine m_move ?_
    refine g_move ?_
    refine g_idx ?_
    refine g_bin ?_
    refine m_pick ?_
    refine hKK _ _ ?_
    clear hKK KK
    refine m_cond (fun hc => ?_) (fun hc => ?_)
    · have hc' : isAt s k 45 = true := by rw [← hcond]; exact hc
      have hlt := isAt_lt hc'
      refine awp_rlast (by decide) fun KK hKK => ?_
      refine m_assign ?_
      refine hKK _ _ ?_
      clear hKK KK
      try rw [thenQ_normal]
      refine ⟨1, ?_, (by simp only [List.forall_mem_cons, List.forall_mem_nil, go_sem, reduceIte, Nat.reduceEqDiff, FF]; all_goals ((repeat' apply And.intro) <;> first | trivial | rfl | exact objLe_refl _ | (intro _ _; exact Subs.refl _))), (by simp only [List.forall_mem_cons, List.forall_mem_nil, go_sem, reduceIte, Nat.reduceEqDiff, FF]; all_goals ((repeat' apply And.intro) <;> first | trivial | rfl | exact objLe_refl _ | (intro _ _; exact Subs.refl _)))⟩
      exact ⟨by rw [numFst, if_pos hc'], by omega⟩
    · have hc' : isAt s k 45 = false := by rw [← hcond]; exact hc
      refine awp_skip ?_
      try rw [thenQ_normal]
      refine ⟨0, ?_, (by simp only [List.forall_mem_cons, List.forall_mem_nil, go_sem, reduceIte, Nat.reduceEqDiff, FF]; all_goals ((repeat' apply And.intro) <;> first | trivial | rfl | exact objLe_refl _ | (intro _ _; exact Subs.refl _))), (by simp only [List.forall_mem_cons, List.forall_mem_nil, go_sem, reduceIte, Nat.reduceEqDiff, FF]; all_goals ((repeat' apply And.intro) <;> first | trivial | rfl | exact objLe_refl _ | (intro _ _; exact Subs.refl _)))⟩
      exact ⟨by rw [numFst, if_neg (by rw [hc']; decide)]; rfl, by omega⟩
  rintro f ⟨hf, hfs⟩
  refine m_join (ι := Nat) (fun e => [(0, .str (sfx s k)), (5, .int (e : Nat))]) (fun e => []) (fun e => k + e = digTo s k ∧ k + e ≤ s.size) ?_ ?_
  · refine awp_block ?_
    refine m_for (ι := Nat) (fun e => [(0, .str (sfx s k)), (5, .int (e : Nat))]) (fun e => []) (fun e => s.size - k - e) (fun e => k + e ≤ s.size ∧ digEnd s (s.size - (k + e)) (k + e) = digTo s k) (f) ?_ ?_
    · exact ⟨hfs, by rw [digTo, ← hf]⟩
    rintro e ⟨he, hres⟩
    have w3 : IntKind.i64.wrap ((e : Int) + 1) = ((e + 1 : Nat) : Int) := wrap_in (by omega)
    refine awp_seq ?_
    have hcond : ((decide ((e : Int) < (sfx s k).size) && decide (48 ≤ byteAt (sfx s k) e)) && decide (byteAt (sfx s k) e ≤ 57)) = digAt s (k + e) := by
      by_cases hlt : k + e < s.size
      · have hb : byteAt (sfx s k) e = byteAt s (k + e) := sfx_byte s hlt
        rw [hb, hz, digAt]
        have h1 : decide ((e : Int) < ((s.size - k : Nat) : Int)) = true := by simp; omega
        have h2 : decide (k + e < s.size) = true := by simp; omega
        rw [h1, h2]
      · have h1 : decide ((e : Int) < ((s.size - k : Nat) : Int)) = false := by simp; omega
        have h2 : decide (k + e < s.size) = false := by simp; omega
        rw [hz, digAt, h1, h2]
        rfl
    refine awp_rseq (by decide) fun KK hKK => ?_
    refine m_move ?_
    refine m_move ?_
    refine m_len ?_
    refine m_bin ?_
    refine m_move ?_
    refine g_move ?_
    refine g_move ?_
    refine g_idx ?_
    refine g_bin ?_
    refine m_pick ?_
    refine m_move ?_
    refine g_move ?_
    refine g_move ?_
    refine g_idx ?_
    refine g_bin ?_
    refine m_pick ?_
    refine hKK _ _ ?_
    clear hKK KK
    refine m_cond (fun hc => ?_) (fun hc => ?_)
    · have hc' : digAt s (k + e) = true := by rw [← hcond]; exact hc
      have hlt : k + e < s.size := by
        simp only [digAt, Bool.and_eq_true, decide_eq_true_eq] at hc'
        exact hc'.1.1
      refine awp_skip ?_
      first | rw [thenQ_normal] | rw [blockQ_normal, thenQ_normal]
      refine awp_block ?_
      have FF := And.intro w3 FF
      refine awp_rlast (by decide) fun KK hKK => ?_
      refine m_move ?_
      refine m_bin ?_
      refine m_assign ?_
      refine hKK _ _ ?_
      clear hKK KK
      rw [blockQ_normal]
      try rw [thenQ_normal]
      refine m_next (e + 1) ?_ ?_
      · refine ⟨by omega, ?_⟩
        rw [← hres, show s.size - (k + e) = (s.size - (k + (e + 1))) + 1 by omega, digEnd, if_pos hc']
        rfl
      · omega
    · have hc' : ¬ digAt s (k + e) = true := by rw [← hcond]; simpa using hc
      refine awp_exit ?_
      simp only [thenQ_exit, blockQ_exit, reduceIte, Nat.reduceEqDiff]
      try rw [thenQ_normal]
      try rw [thenQ_normal]
      refine ⟨e, ?_, (by simp only [List.forall_mem_cons, List.forall_mem_nil, go_sem, reduceIte, Nat.reduceEqDiff, FF]; all_goals ((repeat' apply And.intro) <;> first | trivial | rfl | exact objLe_refl _ | (intro _ _; exact Subs.refl _))), (by simp only [List.forall_mem_cons, List.forall_mem_nil, go_sem, reduceIte, Nat.reduceEqDiff, FF]; all_goals ((repeat' apply And.intro) <;> first | trivial | rfl | exact objLe_refl _ | (intro _ _; exact Subs.refl _)))⟩
      refine ⟨?_, he⟩
      rw [← hres]
      cases h : s.size - (k + e) with
      | zero => rw [digEnd]
      | succ n => rw [digEnd, if_neg hc']
  rintro e ⟨he, hle⟩
  clear hf hfs f
  have hmin : ((sfx s k).toList == (⟨#[45]⟩ : ByteArray).toList) = decide ((sfx s k).toList = [45]) := by
    rw [minus_list, Bool.eq_iff_iff]
    simp
  refine m_join (ι := Unit) (fun i => [(0, .str (sfx s k)), (5, .int (e : Nat))]) (fun i => []) (fun i => ¬ (digTo s k = s.size ∧ (k = s.size ∨ (sfx s k).toList = [45]))) ?_ ?_
  · cases hE : ((e : Nat) : Int) == (sfx s k).size with
    | true =>
      have hE' : digTo s k = s.size := by
        have : ((e : Nat) : Int) = (sfx s k).size := by simpa using hE
        rw [hz] at this
        omega
      cases hN : (sfx s k).toList == (⟨#[]⟩ : ByteArray).toList with
      | true =>
        have hks : k = s.size := by rw [sfx_nil hk] at hN; simpa using hN
        refine awp_rseq (by decide) fun KK hKK => ?_
        refine st0 rfl (k_move (by simp only [go_sem, reduceIte, Nat.reduceEqDiff, FF, hE, hN] <;> rfl)) ?_
        refine st0 rfl (k_move (by simp only [go_sem, reduceIte, Nat.reduceEqDiff, FF, hE, hN] <;> rfl)) ?_
        refine st1 rfl (k_len (by simp only [go_sem, reduceIte, Nat.reduceEqDiff, FF, hE, hN] <;> rfl) (by intro hG; simp only [go_sem]) (by first | exact nm_im (by simp only [go_sem] <;> rfl) | exact nm_own (by simp only [go_sem] <;> rfl) (by simp only [go_sem, reduceIte, Nat.reduceEqDiff, FF, hE, hN] <;> rfl) (by intro hG; (repeat' apply And.intro) <;> first | rfl | omega | (dsimp only; omega) | (simp; done)) | exact nm_emp (by simp only [go_sem] <;> rfl) | exact nm_osub (by simp only [go_sem] <;> rfl) (by simp only [go_sem, reduceIte, Nat.reduceEqDiff, FF, hE, hN] <;> rfl) (by intro hG; (repeat' apply And.intro) <;> first | rfl | omega | (dsimp only; omega) | (simp; done)) | exact nm_str (by simp only [go_sem] <;> rfl))) ?_
        refine st0 rfl (k_bin (by simp only [go_sem, reduceIte, Nat.reduceEqDiff, FF, hE, hN] <;> rfl) (by simp only [go_sem, reduceIte, Nat.reduceEqDiff, FF, hE, hN] <;> rfl) (by rfl) (by rfl) (by simp only [go_sem, reduceIte, Nat.reduceEqDiff, FF, hE, hN] <;> rfl) (by intro hG; simp only [go_sem])) ?_
        refine st0 rfl (k_move (by simp only [go_sem, reduceIte, Nat.reduceEqDiff, FF, hE, hN] <;> rfl)) ?_
        refine sg0 rfl rfl (by simp only [go_sem, reduceIte, Nat.reduceEqDiff, FF, hE, hN] <;> rfl) (by rfl) (by simp only [go_sem, reduceIte, Nat.reduceEqDiff, FF, hE, hN] <;> rfl) (k_move (by simp only [go_sem, reduceIte, Nat.reduceEqDiff, FF, hE, hN] <;> rfl)) ?_
        refine sg0 rfl rfl (by simp only [go_sem, reduceIte, Nat.reduceEqDiff, FF, hE, hN] <;> rfl) (by rfl) (by simp only [go_sem, reduceIte, Nat.reduceEqDiff, FF, hE, hN] <;> rfl) (k_bin (by simp only [go_sem, reduceIte, Nat.reduceEqDiff, FF, hE, hN] <;> rfl) (by simp only [go_sem, reduceIte, Nat.reduceEqDiff, FF, hE, hN] <;> rfl) (by rfl) (by rfl) (by simp only [go_sem, reduceIte, Nat.reduceEqDiff, FF, hE, hN] <;> rfl) (by intro hG; simp only [go_sem, hG])) ?_
        refine sg0 rfl rfl (by simp only [go_sem, reduceIte, Nat.reduceEqDiff, FF, hE, hN] <;> rfl) (by rfl) (by simp only [go_sem, reduceIte, Nat.reduceEqDiff, FF, hE, hN] <;> rfl) (k_move (by simp only [go_sem, reduceIte, Nat.reduceEqDiff, FF, hE, hN] <;> rfl)) ?_
        refine sgF rfl (by simp only [go_sem, reduceIte, Nat.reduceEqDiff, FF, hE, hN] <;> rfl) (by rfl) (by simp only [go_sem, reduceIte, Nat.reduceEqDiff, FF, hE, hN, hN] <;> rfl) ?_
        refine sgF rfl (by simp only [go_sem, reduceIte, Nat.reduceEqDiff, FF, hE, hN] <;> rfl) (by rfl) (by simp only [go_sem, reduceIte, Nat.reduceEqDiff, FF, hE, hN, hN] <;> rfl) ?_
        refine sg0 rfl rfl (by simp only [go_sem, reduceIte, Nat.reduceEqDiff, FF, hE, hN] <;> rfl) (by rfl) (by simp only [go_sem, reduceIte, Nat.reduceEqDiff, FF, hE, hN] <;> rfl) (k_pick (by simp only [go_sem, reduceIte, Nat.reduceEqDiff, FF, hE, hN] <;> rfl) (by simp only [go_sem, reduceIte, Nat.reduceEqDiff, FF, hE, hN] <;> rfl) (by simp only [go_sem, reduceIte, Nat.reduceEqDiff, FF, hE, hN] <;> rfl) (by rfl) (by rfl) (by rfl) (by intro hG; first | (simp only [go_sem, reduceIte, Nat.reduceEqDiff, FF, hE, hN, hN]; done) | (simp [go_sem]; done) | (simp [go_sem] at hG ⊢ <;> simp [hG] <;> (intros; simp_all))) (by first | (simp only [go_sem, reduceIte, Nat.reduceEqDiff, FF, hE, hN] <;> rfl) | rfl)) ?_
        refine st0 rfl (k_pick (by simp only [go_sem, reduceIte, Nat.reduceEqDiff, FF, hE, hN] <;> rfl) (by simp only [go_sem, reduceIte, Nat.reduceEqDiff, FF, hE, hN] <;> rfl) (by simp only [go_sem, reduceIte, Nat.reduceEqDiff, FF, hE, hN] <;> rfl) (by rfl) (by rfl) (by rfl) (by intro hG; first | (simp only [go_sem, reduceIte, Nat.reduceEqDiff, FF, hE, hN, hN]; done) | (simp [go_sem]; done) | (simp [go_sem] at hG ⊢ <;> simp [hG] <;> (intros; simp_all))) (by first | (simp only [go_sem, reduceIte, Nat.reduceEqDiff, FF, hE, hN] <;> rfl) | rfl)) ?_
        refine hKK _ _ ?_
        clear hKK KK
        refine awp_cond (by simp only [go_sem, reduceIte, Nat.reduceEqDiff, FF, hE, hN] <;> rfl) (fun hc => ?_) (fun hc => ?_)
        · refine awp_rseq (by decide) fun KK hKK => ?_
          refine m_move ?_
          refine m_assign ?_
          refine m_assign ?_
          refine m_assign ?_
          refine hKK _ _ ?_
          clear hKK KK
          refine awp_ret ⟨[_, _, _], ⟨⟨(by simp only [go_sem, reduceIte, Nat.reduceEqDiff, FF]), (by simp only [go_sem, reduceIte, Nat.reduceEqDiff, FF] <;> rfl)⟩, ⟨(by simp only [go_sem, reduceIte, Nat.reduceEqDiff, FF]), (by simp only [go_sem, reduceIte, Nat.reduceEqDiff, FF] <;> rfl)⟩, ⟨(by simp only [go_sem, reduceIte, Nat.reduceEqDiff, FF]), (by simp only [go_sem, reduceIte, Nat.reduceEqDiff, FF] <;> rfl)⟩, trivial⟩, ?_⟩
          simp only [go_sem, reduceIte, Nat.reduceEqDiff, FF, tupled]
          rw [numR, if_pos ⟨hE', .inl hks⟩]
          exact CV.Sub.refl _
        · cases hc
      | false =>
        have hks : ¬ k = s.size := by rw [sfx_nil hk] at hN; simpa using hN
        have FF := And.intro hE (And.intro hN FF)
        refine awp_rseq (by decide) fun KK hKK => ?_
        refine m_move ?_
        refine m_move ?_
        refine m_len ?_
        refine m_bin ?_
        refine m_move ?_
        refine g_move ?_
        refine g_bin ?_
        refine g_move ?_
        refine g_move ?_
        refine g_bin ?_
        refine g_pick ?_
        refine m_pick ?_
        refine hKK _ _ ?_
        clear hKK KK
        refine m_cond (fun hc => ?_) (fun hc => ?_)
        · have hm : (sfx s k).toList = [45] := by
            have : ((sfx s k).toList == (⟨#[45]⟩ : ByteArray).toList) = true := by simpa using hc
            rw [hmin] at this
            simpa using this
          refine awp_rseq (by decide) fun KK hKK => ?_
          refine m_move ?_
          refine m_assign ?_
          refine m_assign ?_
          refine m_assign ?_
          refine hKK _ _ ?_
          clear hKK KK
          refine awp_ret ⟨[_, _, _], ⟨⟨(by simp only [go_sem, reduceIte, Nat.reduceEqDiff, FF]), (by simp only [go_sem, reduceIte, Nat.reduceEqDiff, FF] <;> rfl)⟩, ⟨(by simp only [go_sem, reduceIte, Nat.reduceEqDiff, FF]), (by simp only [go_sem, reduceIte, Nat.reduceEqDiff, FF] <;> rfl)⟩, ⟨(by simp only [go_sem, reduceIte, Nat.reduceEqDiff, FF]), (by simp only [go_sem, reduceIte, Nat.reduceEqDiff, FF] <;> rfl)⟩, trivial⟩, ?_⟩
          simp only [go_sem, reduceIte, Nat.reduceEqDiff, FF, tupled]
          rw [numR, if_pos ⟨hE', .inr hm⟩]
          exact CV.Sub.refl _
        · have hm : ¬ (sfx s k).toList = [45] := by
            have : ((sfx s k).toList == (⟨#[45]⟩ : ByteArray).toList) = false := by simpa using hc
            rw [hmin] at this
            simpa using this
          refine awp_skip ?_
          try rw [thenQ_normal]
          refine ⟨(), ?_, (by simp only [List.forall_mem_cons, List.forall_mem_nil, go_sem, reduceIte, Nat.reduceEqDiff, FF]; all_goals ((repeat' apply And.intro) <;> first | trivial | rfl | exact objLe_refl _ | (intro _ _; exact Subs.refl _))), (by simp only [List.forall_mem_cons, List.forall_mem_nil, go_sem, reduceIte, Nat.reduceEqDiff, FF]; all_goals ((repeat' apply And.intro) <;> first | trivial | rfl | exact objLe_refl _ | (intro _ _; exact Subs.refl _)))⟩
          rintro ⟨_, h | h⟩
          · exact hks h
          · exact hm h
    | false =>
      have hE' : ¬ digTo s k = s.size := by
        have : ¬ ((e : Nat) : Int) = (sfx s k).size := by simpa using hE
        rw [hz] at this
        omega
      refine awp_rseq (by decide) fun KK hKK => ?_
      refine st0 rfl (k_move (by simp only [go_sem, reduceIte, Nat.reduceEqDiff, FF, hE] <;> rfl)) ?_
      refine st0 rfl (k_move (by simp only [go_sem, reduceIte, Nat.reduceEqDiff, FF, hE] <;> rfl)) ?_
      refine st1 rfl (k_len (by simp only [go_sem, reduceIte, Nat.reduceEqDiff, FF, hE] <;> rfl) (by intro hG; simp only [go_sem]) (by first | exact nm_im (by simp only [go_sem] <;> rfl) | exact nm_own (by simp only [go_sem] <;> rfl) (by simp only [go_sem, reduceIte, Nat.reduceEqDiff, FF, hE] <;> rfl) (by intro hG; (repeat' apply And.intro) <;> first | rfl | omega | (dsimp only; omega) | (simp; done)) | exact nm_emp (by simp only [go_sem] <;> rfl) | exact nm_osub (by simp only [go_sem] <;> rfl) (by simp only [go_sem, reduceIte, Nat.reduceEqDiff, FF, hE] <;> rfl) (by intro hG; (repeat' apply And.intro) <;> first | rfl | omega | (dsimp only; omega) | (simp; done)) | exact nm_str (by simp only [go_sem] <;> rfl))) ?_
      refine st0 rfl (k_bin (by simp only [go_sem, reduceIte, Nat.reduceEqDiff, FF, hE] <;> rfl) (by simp only [go_sem, reduceIte, Nat.reduceEqDiff, FF, hE] <;> rfl) (by rfl) (by rfl) (by simp only [go_sem, reduceIte, Nat.reduceEqDiff, FF, hE] <;> rfl) (by intro hG; simp only [go_sem])) ?_
      refine st0 rfl (k_move (by simp only [go_sem, reduceIte, Nat.reduceEqDiff, FF, hE] <;> rfl)) ?_
      refine sgF rfl (by simp only [go_sem, reduceIte, Nat.reduceEqDiff, FF, hE] <;> rfl) (by rfl) (by simp only [go_sem, reduceIte, Nat.reduceEqDiff, FF, hE, hE] <;> rfl) ?_
      refine sgF rfl (by simp only [go_sem, reduceIte, Nat.reduceEqDiff, FF, hE] <;> rfl) (by rfl) (by simp only [go_sem, reduceIte, Nat.reduceEqDiff, FF, hE, hE] <;> rfl) ?_
      refine sgF rfl (by simp only [go_sem, reduceIte, Nat.reduceEqDiff, FF, hE] <;> rfl) (by rfl) (by simp only [go_sem, reduceIte, Nat.reduceEqDiff, FF, hE, hE] <;> rfl) ?_
      refine sgF rfl (by simp only [go_sem, reduceIte, Nat.reduceEqDiff, FF, hE] <;> rfl) (by rfl) (by simp only [go_sem, reduceIte, Nat.reduceEqDiff, FF, hE, hE] <;> rfl) ?_
      refine sgF rfl (by simp only [go_sem, reduceIte, Nat.reduceEqDiff, FF, hE] <;> rfl) (by rfl) (by simp only [go_sem, reduceIte, Nat.reduceEqDiff, FF, hE, hE] <;> rfl) ?_
      refine sgF rfl (by simp only [go_sem, reduceIte, Nat.reduceEqDiff, FF, hE] <;> rfl) (by rfl) (by simp only [go_sem, reduceIte, Nat.reduceEqDiff, FF, hE, hE] <;> rfl) ?_
      refine st0 rfl (k_pick (by simp only [go_sem, reduceIte, Nat.reduceEqDiff, FF, hE] <;> rfl) (by simp only [go_sem, reduceIte, Nat.reduceEqDiff, FF, hE] <;> rfl) (by simp only [go_sem, reduceIte, Nat.reduceEqDiff, FF, hE] <;> rfl) (by rfl) (by rfl) (by rfl) (by intro hG; first | (simp only [go_sem, reduceIte, Nat.reduceEqDiff, FF, hE, hE]; done) | (simp [go_sem]; done) | (simp [go_sem] at hG ⊢ <;> simp [hG] <;> (intros; simp_all))) (by first | (simp only [go_sem, reduceIte, Nat.reduceEqDiff, FF, hE] <;> rfl) | rfl)) ?_
      refine hKK _ _ ?_
      clear hKK KK
      refine awp_cond (by simp only [go_sem, reduceIte, Nat.reduceEqDiff, FF, hE] <;> rfl) (fun hc => ?_) (fun hc => ?_)
      · cases hc
      · refine awp_skip ?_
        try rw [thenQ_normal]
        refine ⟨(), ?_, (by simp only [List.forall_mem_cons, List.forall_mem_nil, go_sem, reduceIte, Nat.reduceEqDiff, FF]; all_goals ((repeat' apply And.intro) <;> first | trivial | rfl | exact objLe_refl _ | (intro _ _; exact Subs.refl _))), (by simp only [List.forall_mem_cons, List.forall_mem_nil, go_sem, reduceIte, Nat.reduceEqDiff, FF]; all_goals ((repeat' apply And.intro) <;> first | trivial | rfl | exact objLe_refl _ | (intro _ _; exact Subs.refl _)))⟩
        exact fun h => hE' h.1
  rintro - hno
  have x1 : (sfx s k).extract 0 e = s.extract k (digTo s k) := by
    rw [sfx_ext s (by omega), ← he]
    rfl
  have x2 : (sfx s k).extract e (sfx s k).size = sfx s (digTo s k) := by rw [sfx_sfx s hk, he]
  have numc : APure Tryz.prog 45 [.str ((sfx s k).extract 0 e)] (.tup [.int (numB (s.extract k (digTo s k))).1, .int (numB (s.extract k (digTo s k))).2]) := by
    have := rnumber_ok (s.extract k (digTo s k)) (by rw [ByteArray.size_extract]; omega)
    rw [rnum_eq] at this
    rw [x1]
    exact this
  rw [numR, if_neg hno]
  generalize numB (s.extract k (digTo s k)) = nb at *
  refine awp_rseq (by decide) fun KK hKK => ?_
  refine m_move ?_
  refine m_move ?_
  first | refine m_slOwn ?_ | refine m_slIm ?_ | refine m_slStr ?_
  refine m_call (fun hG => numc) ?_
  refine m_move ?_
  refine m_extract ?_
  refine m_extract ?_
  refine m_assign ?_
  refine m_assign ?_
  refine hKK _ _ ?_
  clear hKK KK
  refine m_cut [(0, .str (sfx s k)), (5, .int (e : Nat)), (6, .int nb.1), (7, .int nb.2)] [] ?_
  refine awp_seq ?_
  refine awp_rseq (by decide) fun KK hKK => ?_
  refine m_move ?_
  refine m_bin ?_
  refine hKK _ _ ?_
  clear hKK KK
  refine m_cond (fun hc => ?_) (fun hc => ?_)
  · have hc' : nb.2 ≠ 0 := by simpa using hc
    rw [if_pos hc']
    refine awp_rseq (by decide) fun KK hKK => ?_
    refine m_move ?_
    refine m_assign ?_
    refine m_assign ?_
    refine m_assign ?_
    refine hKK _ _ ?_
    clear hKK KK
    refine awp_ret ⟨[_, _, _], ⟨⟨(by simp only [go_sem, reduceIte, Nat.reduceEqDiff, FF]), (by simp only [go_sem, reduceIte, Nat.reduceEqDiff, FF] <;> rfl)⟩, ⟨(by simp only [go_sem, reduceIte, Nat.reduceEqDiff, FF]), (by simp only [go_sem, reduceIte, Nat.reduceEqDiff, FF] <;> rfl)⟩, ⟨(by simp only [go_sem, reduceIte, Nat.reduceEqDiff, FF]), (by simp only [go_sem, reduceIte, Nat.reduceEqDiff, FF] <;> rfl)⟩, trivial⟩, ?_⟩
    simp only [go_sem, reduceIte, Nat.reduceEqDiff, FF, tupled]
    exact CV.Sub.refl _
  have hc' : ¬ nb.2 ≠ 0 := by simpa using hc
  rw [if_neg hc']
  refine awp_skip ?_
  first | rw [thenQ_normal] | rw [blockQ_normal, thenQ_normal]
  refine awp_seq ?_
  refine awp_rseq (by decide) fun KK hKK => ?_
  refine m_move ?_
  refine m_move ?_
  refine m_len ?_
  refine m_bin ?_
  refine hKK _ _ ?_
  clear hKK KK
  refine m_cond (fun hc => ?_) (fun hc => ?_)
  · have hd : digTo s k = s.size := by
      simp only [beq_iff_eq, hz] at hc
      omega
    rw [if_pos hd]
    refine awp_rseq (by decide) fun KK hKK => ?_
    refine m_move ?_
    refine m_assign ?_
    refine m_assign ?_
    refine m_assign ?_
    refine hKK _ _ ?_
    clear hKK KK
    refine awp_ret ⟨[_, _, _], ⟨⟨(by simp only [go_sem, reduceIte, Nat.reduceEqDiff, FF]), (by simp only [go_sem, reduceIte, Nat.reduceEqDiff, FF] <;> rfl)⟩, ⟨(by simp only [go_sem, reduceIte, Nat.reduceEqDiff, FF]), (by simp only [go_sem, reduceIte, Nat.reduceEqDiff, FF] <;> rfl)⟩, ⟨(by simp only [go_sem, reduceIte, Nat.reduceEqDiff, FF]), (by simp only [go_sem, reduceIte, Nat.reduceEqDiff, FF] <;> rfl)⟩, trivial⟩, ?_⟩
    simp only [go_sem, reduceIte, Nat.reduceEqDiff, FF, tupled]
    exact CV.Sub.refl _
  have hd : ¬ digTo s k = s.size := by
    simp only [beq_eq_false_iff_ne, hz] at hc
    omega
  rw [if_neg hd]
  refine awp_skip ?_
  first | rw [thenQ_normal] | rw [blockQ_normal, thenQ_normal]
  refine awp_rseq_draw Tryz.mixed (by decide) (by kernel_rfl) fun KK hKK => ?_
  refine m_move ?_
  refine m_move ?_
  refine m_move ?_
  first | refine m_slOwn ?_ | refine m_slIm ?_ | refine m_slStr ?_
  refine m_assign ?_
  refine m_assign ?_
  refine m_assign ?_
  refine hKK _ _ ?_
  clear hKK KK
  refine awp_ret ⟨[_, _, _], ⟨⟨(by simp only [go_sem, reduceIte, Nat.reduceEqDiff, FF]), (by simp only [go_sem, reduceIte, Nat.reduceEqDiff, FF] <;> rfl)⟩, ⟨(by simp only [go_sem, reduceIte, Nat.reduceEqDiff, FF]), (by simp only [go_sem, reduceIte, Nat.reduceEqDiff, FF] <;> rfl)⟩, ⟨(by simp only [go_sem, reduceIte, Nat.reduceEqDiff, FF]), (by simp only [go_sem, reduceIte, Nat.reduceEqDiff, FF] <;> rfl)⟩, trivial⟩, ?_⟩
  simp only [go_sem, reduceIte, Nat.reduceEqDiff, FF, tupled]
  rw [x2]
  exact CV.Sub.refl _
end Go.Am

/- The abstract machine, part 34: what comes in at a law's parameters reads as trees. Generic over the program; no condition. -/
namespace Go.Am
open Go.RowKit Go.WideShapes Go.ChangeShapes

section
variable {H : Type} {enc : TypeId × Value → H} {P : Program} {w : World} {base : Nat} {spare : Nat → Bool} {held : Bool}

/-- The cells of a value read as trees. -/
def RCs (w : World) (Z : Nat → Prop) (vs : List Value) (xs : List CV) : Prop := vs.length = xs.length ∧ ∀ i, i < xs.length → (vs.getD i undef).oneCell' = true ∧ RC w Z (vs.getD i undef) (xs.getD i .any)

theorem RCs.one {Z : Nat → Prop} {v : Value} {x : CV} (h1 : v.oneCell' = true) (h2 : RC w Z v x) : RCs w Z [v] [x] := by
  refine ⟨rfl, fun i hi => ?_⟩
  have : i = 0 := by simpa using hi
  subst this
  exact ⟨h1, h2⟩

theorem RCs.nil {Z : Nat → Prop} : RCs w Z [] [] := ⟨rfl, fun i hi => by simp at hi⟩

theorem RCs.append {Z : Nat → Prop} {vs us : List Value} {xs ys : List CV} (h : RCs w Z vs xs) (k : RCs w Z us ys) : RCs w Z (vs ++ us) (xs ++ ys) := by
  refine ⟨by simp [h.1, k.1], fun i hi => ?_⟩
  have hl := h.1
  by_cases hi' : i < xs.length
  · have := h.2 i hi'
    simp only [List.getD_eq_getElem?_getD] at this ⊢
    rw [List.getElem?_append_left (by omega), List.getElem?_append_left hi']
    exact this
  · have := k.2 (i - xs.length) (by simp at hi; omega)
    simp only [List.getD_eq_getElem?_getD] at this ⊢
    rw [List.getElem?_append_right (by omega), List.getElem?_append_right (by omega), hl]
    exact this

theorem mapM_get {α β : Type} {f : α → Option β} : ∀ {l : List α} {r : List β}, l.mapM f = some r → r.length = l.length ∧ ∀ i (h : i < l.length), ∃ y, f l[i] = some y ∧ r[i]? = some y
  | [], r, h => by
    simp at h
    subst h
    exact ⟨rfl, fun i h => by simp at h⟩
  | x :: l, r, h => by
    rw [List.mapM_cons] at h
    simp only [Option.bind_eq_bind, Option.bind_eq_some_iff, Option.pure_def, Option.some.injEq] at h
    obtain ⟨y, hy, q, hq, rfl⟩ := h
    obtain ⟨h1, h2⟩ := mapM_get hq
    refine ⟨by simp [h1], fun i hi => ?_⟩
    cases i with
    | zero => exact ⟨y, hy, rfl⟩
    | succ i =>
      obtain ⟨z, hz, hr⟩ := h2 i (by simpa using hi)
      exact ⟨z, by simpa using hz, by simpa using hr⟩

theorem mapM_mem {α β : Type} {f : α → Option β} {l : List α} {r : List β} (h : l.mapM f = some r) {x : α} (hx : x ∈ l) : ∃ y, f x = some y := by
  obtain ⟨i, hi, rfl⟩ := List.getElem_of_mem hx
  obtain ⟨y, hy, _⟩ := (mapM_get h).2 i hi
  exact ⟨y, hy⟩

theorem trod_int {fuel : Nat} {t : TypeId} {k : IntKind} {cs : List Value} {x : DataW H × List MemPlace} (h : DataW.trod enc P w base spare held fuel t cs = some x) (hu : P.underlying t = some (.int k)) : ∃ n, cs = [.int k n] ∧ (Lit.int k n).wf = true := by
  cases fuel with
  | zero => simp [DataW.trod] at h
  | succ fuel =>
    unfold DataW.trod at h
    rw [hu] at h
    split at h <;> simp_all

theorem trod_bool {fuel : Nat} {t : TypeId} {cs : List Value} {x : DataW H × List MemPlace} (h : DataW.trod enc P w base spare held fuel t cs = some x) (hu : P.underlying t = some .bool) : ∃ b, cs = [.bool b] := by
  cases fuel with
  | zero => simp [DataW.trod] at h
  | succ fuel =>
    unfold DataW.trod at h
    rw [hu] at h
    split at h <;> simp_all

theorem trod_str {fuel : Nat} {t : TypeId} {cs : List Value} {x : DataW H × List MemPlace} (h : DataW.trod enc P w base spare held fuel t cs = some x) (hu : P.underlying t = some .string) : ∃ s, cs = [.string s] ∧ s.size ≤ maxLen := by
  cases fuel with
  | zero => simp [DataW.trod] at h
  | succ fuel =>
    unfold DataW.trod at h
    rw [hu] at h
    split at h <;> simp_all

theorem trod_struct {fuel : Nat} {t : TypeId} {cs : List Value} {x : DataW H × List MemPlace} {fs : Array Field} (h : DataW.trod enc P w base spare held fuel t cs = some x) (hu : P.underlying t = some (.struct fs)) :
    ∃ n, fuel = n + 1 ∧ cs.length = P.cellsOf t ∧ ∀ f ∈ fs.toList, ∃ y, DataW.trod enc P w base spare held n f.type ((cs.drop f.offset).take (P.cellsOf f.type)) = some y := by
  cases fuel with
  | zero => simp [DataW.trod] at h
  | succ fuel =>
    unfold DataW.trod at h
    simp only [hu] at h
    split at h
    · rename_i hl
      rw [Option.map_eq_some_iff] at h
      obtain ⟨r, hr, _⟩ := h
      exact ⟨fuel, rfl, hl, fun f hf => mapM_mem hr hf⟩
    · cases h

theorem trod_slice {fuel : Nat} {t e : TypeId} {cs : List Value} {x : DataW H × List MemPlace} (h : DataW.trod enc P w base spare held fuel t cs = some x) (hu : P.underlying t = some (.slice e)) :
    ∃ n, fuel = n + 1 ∧ (cs = [.slice none 0 0] ∨ ∃ a len cap, cs = [.slice (some a) len cap] ∧ len ≤ cap ∧ cap ≤ maxLen ∧
      ∀ i, i < len → ∃ vs y, w.cells? base (a.add (i * P.cellsOf e)) (P.cellsOf e) = some vs ∧ DataW.trod enc P w base spare held n e vs = some y) := by
  cases fuel with
  | zero => simp [DataW.trod] at h
  | succ fuel =>
    refine ⟨fuel, rfl, ?_⟩
    unfold DataW.trod at h
    rw [hu] at h
    split at h <;> simp_all only [reduceCtorEq, Option.some.injEq, TypeDesc.slice.injEq]
    · exact .inl trivial
    · refine .inr ⟨_, _, _, rfl, ?_⟩
      rename_i a len cap
      split at h
      · rename_i hl
        refine ⟨hl.2.1, hl.2.2, fun i hi => ?_⟩
        rw [Option.bind_eq_some_iff] at h
        obtain ⟨r, hr, _⟩ := h
        obtain ⟨y, hy⟩ := mapM_mem hr (List.mem_range.2 hi)
        rw [Option.bind_eq_some_iff] at hy
        obtain ⟨vs, h1, h2⟩ := hy
        subst_vars
        exact ⟨vs, y, h1, h2⟩
      · cases h

theorem cells_get {a : Addr} {n : Nat} {vs : List Value} (h : w.cells? base a n = some vs) : vs.length = n ∧ ∀ i, i < n → w.cell? (a.add i) = some (vs.getD i undef) := by
  unfold World.cells? at h
  split at h
  · obtain ⟨h1, h2⟩ := mapM_get h
    refine ⟨by simpa using h1, fun i hi => ?_⟩
    obtain ⟨y, hy, hr⟩ := h2 i (by simpa using hi)
    rw [List.getElem_range] at hy
    rw [hy, List.getD_eq_getElem?_getD, hr]
    rfl
  · cases h

theorem cell_lt {a : Addr} {v : Value} (h : w.cell? a = some v) : a.block < w.heap.size := by
  unfold World.cell? at h
  by_cases hl : a.block < w.heap.size
  · exact hl
  · rw [Array.getElem?_eq_none (by omega)] at h
    cases h

/-- A slice of elements that read as trees reads as a tree. -/
theorem open_slice {X : Type} [Inhabited X] (f : X → List CV) (sz : Nat) (hsz : ∀ x, (f x).length = sz) {fuel : Nat} {t e : TypeId} {cs : List Value} {x : DataW H × List MemPlace} (h : DataW.trod enc P w base spare held fuel t cs = some x)
    (hu : P.underlying t = some (.slice e)) (hc : P.cellsOf e = sz) (hp : 0 < sz) (he : ∀ n, n < fuel → ∀ vs y, DataW.trod enc P w base spare held n e vs = some y → ∃ x, RCs w (fun _ => False) vs (f x)) :
    ∃ l : List X, RCs w (fun _ => False) cs [.im sz l.length fun i => f (l.getD i default)] ∧ l.length ≤ maxLen := by
  obtain ⟨n, rfl, rfl | ⟨a, len, cap, rfl, hl, hm, hel⟩⟩ := trod_slice h hu
  · exact ⟨[], .one rfl (.nul _ _ _ _), Nat.zero_le _⟩
  · rw [hc] at hel
    have hx : ∀ i, i < len → ∃ x, ∀ j, j < sz → ∃ v, w.cell? (a.add (i * sz + j)) = some v ∧ v.oneCell' = true ∧ RC w (fun _ => False) v ((f x).getD j .any) := by
      intro i hi
      obtain ⟨vs, y, h1, h2⟩ := hel i hi
      obtain ⟨x, hx⟩ := he n (Nat.lt_succ_self _) vs y h2
      obtain ⟨h3, h4⟩ := cells_get h1
      refine ⟨x, fun j hj => ⟨vs.getD j undef, ?_, hx.2 j (by rw [hsz]; exact hj)⟩⟩
      have := h4 j hj
      rwa [add_add] at this
    have hl2 : ∃ l : List X, l.length = len ∧ ∀ i, i < len → ∀ j, j < sz → ∃ v, w.cell? (a.add (i * sz + j)) = some v ∧ v.oneCell' = true ∧ RC w (fun _ => False) v ((f (l.getD i default)).getD j .any) := by
      clear hel hl hm h
      induction len with
      | zero => exact ⟨[], rfl, fun i hi => by omega⟩
      | succ len ih =>
        obtain ⟨l, h1, h2⟩ := ih (fun i hi => hx i (by omega))
        obtain ⟨x, h3⟩ := hx len (by omega)
        refine ⟨l ++ [x], by simp [h1], fun i hi => ?_⟩
        by_cases e : i < len
        · have := h2 i e
          rw [List.getD_eq_getElem?_getD, List.getElem?_append_left (by omega), ← List.getD_eq_getElem?_getD]
          exact this
        · have : i = len := by omega
          subst this
          rw [List.getD_eq_getElem?_getD, List.getElem?_append_right (by omega), h1, Nat.sub_self]
          exact h3
    obtain ⟨l, h1, h2⟩ := hl2
    refine ⟨l, .one rfl ?_, by omega⟩
    rw [h1]
    cases Nat.eq_zero_or_pos len with
    | inl e => subst e; exact .nul _ _ _ _
    | inr e =>
      have hg : ∀ j, j < len * sz → ∃ v, w.cell? (a.add j) = some v ∧ v.oneCell' = true := by
        intro j hj
        obtain ⟨v, q1, q2, _⟩ := h2 (j / sz) (Nat.div_lt_of_lt_mul (by rw [Nat.mul_comm]; exact hj)) (j % sz) (Nat.mod_lt _ hp)
        rw [Nat.mul_comm, Nat.div_add_mod] at q1
        exact ⟨v, q1, q2⟩
      refine .im a len cap sz _ (fun j => (w.cell? (a.add j)).getD undef) (fun h => h) ?_ hl (fun j hj => ?_) (fun j hj => ?_) (fun i _ => hsz _) fun i j hi hj => ?_
      · obtain ⟨v, q1, _⟩ := hg 0 (Nat.mul_pos e hp)
        have := cell_lt q1
        rwa [block_add] at this
      · obtain ⟨v, q1, _⟩ := hg j hj
        rw [q1]
        rfl
      · obtain ⟨v, q1, q2⟩ := hg j hj
        rw [q1]
        exact q2
      · obtain ⟨v, q1, _, q3⟩ := h2 i hi j hj
        rw [q1]
        exact q3
end

theorem wf_i64 {n : Int} (h : (Lit.int .i64 n).wf = true) : -9223372036854775808 ≤ n ∧ n ≤ 9223372036854775807 := by
  simp only [Lit.wf, Bool.and_eq_true, decide_eq_true_eq] at h
  exact h
theorem wf_u8 {n : Int} (h : (Lit.int .u8 n).wf = true) : 0 ≤ n ∧ n ≤ 255 := by
  simp only [Lit.wf, Bool.and_eq_true, decide_eq_true_eq] at h
  exact h

section
variable {H : Type} {enc : TypeId × Value → H} {P : Program}

/-- All arguments read behind the call as before it. -/
theorem trodAll_stays (hl : laidOutB P = true) {W W' : World} (hb : Below W.heap.size W W') {sp : Nat → Bool} : ∀ {ts : List TypeId} {vs : List Value} {ds : List (DataW H)} {ps : List MemPlace}, (∀ t ∈ ts, P.readableRec t = true ∧ t < P.types.size) →
    DataW.TrodAll enc P W 0 (fun _ => true) true ts vs ds ps → (∀ x ∈ ps, x.block < W.heap.size) → (∀ x ∈ ps, sp x.block = true) → DataW.TrodAll enc P W' 0 sp true ts vs ds ps
  | [], [], [], ps, _, h, _, _ => h
  | t :: ts, v :: vs, d :: ds, ps, hr, h, hlt, hs => by
    obtain ⟨p, q, h1, h2, rfl⟩ := h
    have ht := hr t (List.mem_cons_self ..)
    exact ⟨p, q, WideElems.Trod_stays hl ht.1 ht.2 h1 (fun x hx => hb.same (hlt x (List.mem_append_left _ hx))) (fun x hx => hs x (List.mem_append_left _ hx)),
      trodAll_stays hl hb (fun t ht => hr t (List.mem_cons_of_mem _ ht)) h2 (fun x hx => hlt x (List.mem_append_right _ hx)) (fun x hx => hs x (List.mem_append_right _ hx)), rfl⟩
  | [], [], _ :: _, _, _, h, _, _ => h.elim
  | [], _ :: _, _, _, _, h, _, _ => h.elim
  | _ :: _, [], _, _, _, h, _, _ => h.elim
  | _ :: _, _ :: _, [], _, _, h, _, _ => h.elim

/-- THE END OF A LAW: it returned true, and nothing that was there has changed. -/
theorem law_post {f : Func} {s : ChangeSpec} {apart fresh handsOn again : Bool} {W W' : World} {args : Array Value} {ds : List (DataW H)} {before : List MemPlace} {tb : TypeId}
    (hl : laidOutB P = true) (hr : ∀ t ∈ f.params.toList, P.readableRec t = true ∧ t < P.types.size) (hv : s.vars = []) (hrt : f.resultTypes = #[tb]) (hub : P.underlying tb = some .bool)
    (hW : DataW.Whole enc P f.params.toList s.vars apart W args.toList ds [] before) (hf : s.fn H (ds ++ []) = { results := [.lit (.bool true)], args := ds }) (hb : Below W.heap.size W W') :
    s.post enc P f apart fresh handsOn again W args (.bool true) W' := by
  have hlt : ∀ p ∈ before, p.block < W.heap.size := fun p hp => hW.lt p hp
  have hW' := hW
  obtain ⟨pa, pv, hA, hV, hps, hz, hn⟩ := hW
  rw [hv] at hV
  have hpv : pv = [] := hV
  subst hpv
  rw [List.append_nil] at hps
  subst hps
  have hres : ∀ (b : Nat) (sp : Nat → Bool) (hd : Bool), DataW.TrodAll enc P W' b sp hd f.resultTypes.toList ((Value.bool true).resultList f.resultTypes.size) (s.fn H (ds ++ [])).results [] := by
    intro b sp hd
    rw [hf, hrt]
    exact ⟨[], [], shut_bool hub true, rfl, rfl⟩
  have hargs : ∀ sp : Nat → Bool, (∀ p ∈ before, sp p.block = true) → DataW.TrodAll enc P W' 0 sp true f.params.toList args.toList (s.fn H (ds ++ [])).args before := by
    intro sp hs
    rw [hf]
    exact trodAll_stays hl hb hr hA hlt hs
  have hold : ∀ p ∈ before, (fun b => decide (b < W.heap.size)) p.block = true := fun p hp => by simpa using hlt p hp
  refine ⟨ds, [], before, [], before, [], hW', hres _ _ _, hargs _ hold, ?_, World.keptBut_mono (fun p hp => ⟨hp, ?_⟩) (hb.frame (· ∈ before)), fun _ => ?_⟩
  · rw [hv, hf]; exact rfl
  · exact Or.inr (by simpa using hp)
  · refine ⟨?_, _, ([] : List (DataW H)), ([] ++ before) ++ [], ⟨[] ++ before, [], trodAll_append (hargs _ (fun _ _ => rfl)) (hres _ _ _), ?_, rfl, ?_, ?_⟩, ?_⟩
    · exact ok_one hrt rfl (okWide_bool_mk hub true)
    · rw [hv]; exact rfl
    · intro b off hp
      have hin : MemPlace.cell b off ∈ before := by simpa using hp
      rw [hb.frozen (hlt _ hin)]
      exact hz b off hin
    · intro ha
      simpa using hn ha
    · intro p hp _
      simpa using hp
end
end Go.Am

/- The abstract machine: an empty slice without room in a variable's cell, as a tree and back. Generic over the program; no condition. -/
namespace Go.Am

/-- A cell of a variable reads otherwise. -/
theorem weak_cellB [Glb] {fo : List Nat} {s : Slots} {h : AH} (b k : Nat) (x y : AV) {tb : TypeId} {cells : List AV} (hb : h b = .box tb cells) (hk : cells.getD k default = x)
    (hxy : ∀ (w : World) (Z : Nat → Prop) (h : AH) (gs : Gs) (v : Value), RA w Z h gs v x → RA w Z h gs v y) : Weak fo s h s (upd h b (.box tb (cells.set k y))) := by
  intro E nt a w I ⟨gs, R⟩
  refine ⟨_, R.eff b (.box tb (cells.set k y)) (gs b) rfl rfl rfl (Nat.le_refl _) (fun _ _ _ => rfl) (.inl rfl) (fun ty cs e => ⟨⟨_, _, rfl⟩, rfl⟩) (fun ty sz n f e => by rw [hb] at e; cases e) fun hL hr => ?_⟩
  have hob := R.objs b
  rw [hb] at hob
  obtain ⟨b', K, cur, g1, g2, g3, g4, g5⟩ := hob
  refine ⟨b', K, cur, by rw [upd_same]; exact g1, g2, by rw [List.length_set]; exact g3, fun j hj => g4 j (by rw [List.length_set] at hj; exact hj), fun j hj => ?_⟩
  rw [List.length_set] at hj
  have h5 := (g5 j hj).later hL hr
  by_cases hjk : j = k
  · subst hjk
    rw [hk] at h5
    have e : (cells.set j y).getD j default = y := by simp [List.getD_eq_getElem?_getD, hj]
    rw [e]
    exact hxy _ _ _ _ _ h5
  · have e : (cells.set k y).getD j default = cells.getD j default := by simp [List.getD_eq_getElem?_getD, List.getElem?_set_ne (Ne.symm hjk)]
    rw [e]
    exact h5
theorem weak_empC [Glb] {fo : List Nat} {s : Slots} {h : AH} (b k : Nat) {tb : TypeId} {cells : List AV} (hb : h b = .box tb cells) (hk : cells.getD k default = .emp) : Weak fo s h s (upd h b (.box tb (cells.set k (.c .emp)))) :=
  weak_cellB b k _ _ hb hk fun _ _ _ _ _ q => by cases q with | emp A => exact .c _ _ (.emp A)
theorem weak_Cemp [Glb] {fo : List Nat} {s : Slots} {h : AH} (b k : Nat) {tb : TypeId} {cells : List AV} (hb : h b = .box tb cells) (hk : cells.getD k default = .c .emp) : Weak fo s h s (upd h b (.box tb (cells.set k .emp))) :=
  weak_cellB b k _ _ hb hk fun _ _ _ _ _ q => by cases q with | c _ _ q => cases q with | emp A => exact .emp A
end Go.Am

