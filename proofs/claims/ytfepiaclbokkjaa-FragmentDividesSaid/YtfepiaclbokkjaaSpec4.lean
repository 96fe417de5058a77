/- Counting words: edges of a plan, and gaps. Plain; no condition. -/
import Derived.Test.YtfepiaclbokkjaaSpec3
namespace Go.Am

def bit (b : Bool) : Int := if b then 1 else 0
def inE (e : Ed) (q : Nat) : Bool := decide (e.frm ≤ (q : Int)) && decide ((q : Int) < e.to)
def covCnt (c : Ch) : List Int → Nat → Int
  | [], _ => 0
  | k :: r, q => bit (inE (edgeAt c k) q) + covCnt c r q
def inS (s : Int × Int) (q : Nat) : Bool := decide (s.1 ≤ (q : Int)) && decide ((q : Int) < s.2)
def gapCnt : List (Int × Int) → Nat → Int
  | [], _ => 0
  | s :: r, q => bit (inS s q) + gapCnt r q

theorem covCnt_append (c : Ch) (q : Nat) : ∀ l r, covCnt c (l ++ r) q = covCnt c l q + covCnt c r q
  | [], r => by simp [covCnt]
  | k :: l, r => by
    have := covCnt_append c q l r
    simp only [List.cons_append, covCnt]
    omega
theorem gapCnt_append (q : Nat) : ∀ l r, gapCnt (l ++ r) q = gapCnt l q + gapCnt r q
  | [], r => by simp [gapCnt]
  | k :: l, r => by
    have := gapCnt_append q l r
    simp only [List.cons_append, gapCnt]
    omega

theorem covCnt_low {c : Ch} (h : Ok c) : ∀ (l : List Int) (a : Int) (q : Nat), planR c a l → (q : Int) < a → covCnt c l q = 0
  | [], _, _, _, _ => rfl
  | k :: r, a, q, hp, hq => by
    have hs := edge_span h (k := k.toNat) (by have := hp.1; omega)
    have h3 := hp.1.2.2
    have e : edgeAt c k = c.edges.getD k.toNat default := rfl
    rw [e] at h3
    have ih := covCnt_low h r _ q hp.2 (by rw [e]; omega)
    rw [covCnt, ih, e]
    have : inE (c.edges.getD k.toNat default) q = false := by
      unfold inE
      rw [decide_eq_false (by omega)]
      rfl
    rw [this]
    rfl

theorem covCnt_plan {c : Ch} (h : Ok c) : ∀ (l : List Int) (a : Int) (q : Nat), planR c a l → covCnt c l q = bit (coveredF c l q)
  | [], _, _, _ => rfl
  | k :: r, a, q, hp => by
    have hr := hp.1
    have ih := covCnt_plan h r _ q hp.2
    have e2 : covE c q k = inE (edgeAt c k) q := by
      unfold covE inE
      simp [hr.1, hr.2.1]
    have e3 : coveredF c (k :: r) q = (inE (edgeAt c k) q || coveredF c r q) := by
      unfold coveredF
      rw [List.any_cons, e2]
    rw [covCnt, e3]
    cases hi : inE (edgeAt c k) q with
    | false => rw [ih, Bool.false_or]; simp [bit]
    | true =>
      have : (q : Int) < (edgeAt c k).to := by
        unfold inE at hi
        simp only [Bool.and_eq_true, decide_eq_true_eq] at hi
        exact hi.2
      rw [covCnt_low h r _ q hp.2 this]
      rfl

/-- The spans of gaps. -/
theorem gaps_span (p : Nat → Bool) : ∀ w, ∀ s ∈ gapsTo p w, 0 ≤ s.1 ∧ s.1 < s.2 ∧ s.2 ≤ (w : Int) ∧ ∀ x : Nat, s.1 ≤ (x : Int) → (x : Int) < s.2 → p x = false
  | 0, s, hs => by simp [gapsTo] at hs
  | w + 1, s, hs => by
    have ih := gaps_span p w
    rw [gapsTo] at hs
    split at hs
    · obtain ⟨h1, h2, h3, h4⟩ := ih s hs
      exact ⟨h1, h2, by omega, h4⟩
    · rename_i hp
      have hp : p w = false := by simpa using hp
      unfold gapStep at hs
      split at hs
      · rename_i hc
        simp only [Bool.and_eq_true, decide_eq_true_eq, beq_iff_eq] at hc
        rcases List.mem_or_eq_of_mem_set hs with hs | rfl
        · obtain ⟨h1, h2, h3, h4⟩ := ih s hs
          exact ⟨h1, h2, by omega, h4⟩
        · have hl : (gapsTo p w).length - 1 < (gapsTo p w).length := by omega
          obtain ⟨h1, h2, h3, h4⟩ := ih ((gapsTo p w).getD ((gapsTo p w).length - 1) (0, 0)) (by rw [getD_lt hl]; exact List.getElem_mem _)
          refine ⟨h1, by dsimp only; omega, Int.le_refl _, fun x q1 q2 => ?_⟩
          dsimp only at q1 q2
          by_cases e : x = w
          · rw [e]; exact hp
          · exact h4 x q1 (by omega)
      · rcases List.mem_append.1 hs with hs | hs
        · obtain ⟨h1, h2, h3, h4⟩ := ih s hs
          exact ⟨h1, h2, by omega, h4⟩
        · rw [List.mem_singleton] at hs
          subst hs
          refine ⟨by dsimp only; omega, by dsimp only; omega, Int.le_refl _, fun x q1 q2 => ?_⟩
          dsimp only at q1 q2
          obtain rfl : x = w := by omega
          exact hp

theorem gapCnt_set {O : List (Int × Int)} (hO : 0 < O.length) (t : Int) (q : Nat) (h1 : (O.getD (O.length - 1) (0, 0)).1 ≤ (O.getD (O.length - 1) (0, 0)).2) (h2 : t = (O.getD (O.length - 1) (0, 0)).2 + 1) :
    gapCnt (O.set (O.length - 1) ((O.getD (O.length - 1) (0, 0)).1, t)) q = gapCnt O q + bit (decide ((q : Int) = (O.getD (O.length - 1) (0, 0)).2)) := by
  rcases List.eq_nil_or_concat O with rfl | ⟨I, s, rfl⟩
  · simp at hO
  · have e1 : (I ++ [s]).length - 1 = I.length := by simp
    rw [List.concat_eq_append] at h1 h2 ⊢
    have e2 : (I ++ [s]).getD ((I ++ [s]).length - 1) (0, 0) = s := by rw [e1]; simp
    rw [e2] at h1 h2 ⊢
    rw [e1]
    have e3 : (I ++ [s]).set I.length (s.1, t) = I ++ [(s.1, t)] := by simp
    rw [e3, gapCnt_append, gapCnt_append]
    simp only [gapCnt]
    unfold inS bit
    subst h2
    by_cases q1 : s.1 ≤ (q : Int) <;> by_cases q2 : (q : Int) < s.2 <;> by_cases q3 : (q : Int) = s.2 <;> by_cases q4 : (q : Int) < s.2 + 1 <;> simp [q1, q2, q3, q4] <;> omega

theorem gapCnt_to (p : Nat → Bool) : ∀ w q : Nat, gapCnt (gapsTo p w) q = bit (decide (q < w) && !p q)
  | 0, q => by simp [gapsTo, gapCnt, bit]
  | w + 1, q => by
    have ih := gapCnt_to p w q
    have hsp := gaps_span p w
    rw [gapsTo]
    cases hp : p w with
    | true =>
      rw [if_pos rfl, ih]
      by_cases e : q = w
      · subst e; simp [hp]
      · have : q < w + 1 ↔ q < w := by omega
        simp [this]
    | false =>
      rw [if_neg (by decide)]
      have hgoal : gapCnt (gapsTo p w) q + bit (decide (q = w)) = bit (decide (q < w + 1) && !p q) := by
        rw [ih]
        by_cases e : q = w
        · subst e; simp [hp, bit]
        · have : q < w + 1 ↔ q < w := by omega
          simp [this, e, bit]
      rw [← hgoal]
      unfold gapStep
      split
      · rename_i hc
        simp only [Bool.and_eq_true, decide_eq_true_eq, beq_iff_eq] at hc
        have hl : (gapsTo p w).length - 1 < (gapsTo p w).length := by omega
        have hs := hsp ((gapsTo p w).getD ((gapsTo p w).length - 1) (0, 0)) (by rw [getD_lt hl]; exact List.getElem_mem _)
        rw [gapCnt_set (by omega) _ _ (by omega) (by omega), hc.2]
        simp [Int.ofNat_inj]
      · rw [gapCnt_append]
        congr 1
        simp only [gapCnt]
        unfold inS bit
        by_cases e : q = w
        · subst e; simp; omega
        · have : ¬ ((w : Int) ≤ (q : Int) ∧ (q : Int) < ((w + 1 : Nat) : Int)) := by omega
          by_cases q1 : (w : Int) ≤ (q : Int) <;> by_cases q2 : (q : Int) < ((w + 1 : Nat) : Int) <;> simp [q1, q2, e] <;> omega

/-- Each word is in exactly one edge of the cover or in exactly one gap. -/
theorem count_one {c : Ch} (h : Ok c) {q : Nat} (hq : q < c.words.toNat) : covCnt c (coverF c) q + gapCnt (gapsF c (coverF c)) q = 1 := by
  unfold gapsF
  rw [covCnt_plan h _ _ _ (cover_plan h), gapCnt_to]
  cases coveredF c (coverF c) q <;> simp [bit, hq]

def allTo (p : Nat → Bool) (f : Nat) : Nat → Bool
  | 0 => true
  | n + 1 => allTo p f n && p (f + n)
theorem allTo_false (p : Nat → Bool) (f : Nat) : ∀ (n x : Nat), x < n → p (f + x) = false → allTo p f n = false
  | n + 1, x, hx, h => by
    rw [allTo]
    by_cases e : x = n
    · subst e; rw [h, Bool.and_false]
    · rw [allTo_false p f n x (by omega) h, Bool.false_and]
theorem cover_free {c : Ch} (h : Ok c) {i : Nat} (hi : i < c.edges.length) {F T : Nat} (hF : (c.edges.getD i default).frm = (F : Int)) (hT : (c.edges.getD i default).to = (T : Int)) :
    allTo (fun q => !coveredF c (coverF c) q) F (T - F) = false := by
  obtain ⟨w, h1, h2, h3⟩ := cover_meets h hi
  refine allTo_false _ _ _ (w - F) (by omega) ?_
  rw [show F + (w - F) = w by omega, h3]
  rfl
end Go.Am
