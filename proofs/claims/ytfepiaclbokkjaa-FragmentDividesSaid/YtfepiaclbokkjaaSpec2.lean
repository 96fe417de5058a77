/- The cover of a chart, in plain Lean. No condition. -/
import Derived.Test.YtfepiaclbokkjaaW9
namespace Go.Am

/-- One more edge for the words from at_ on; P: the plans behind. -/
def planI (c : Ch) (P : Nat → Pl) (i : Nat) : Pl := ((P (c.edges.getD i default).to.toNat).1 + ((c.edges.getD i default).to - (c.edges.getD i default).frm), (i : Int) :: (P (c.edges.getD i default).to.toNat).2)
def rowStep (c : Ch) (at_ : Nat) (P : Nat → Pl) (row : Pl) (i : Nat) : Pl :=
  if (c.edges.getD i default).frm != (at_ : Int) then row else if betterF (planI c P i) row then planI c P i else row
def rowTo (c : Ch) (at_ : Nat) (P : Nat → Pl) : Nat → Pl
  | 0 => P (at_ + 1)
  | i + 1 => rowStep c at_ P (rowTo c at_ P i) i
def rowF (c : Ch) (at_ : Nat) (P : Nat → Pl) : Pl := rowTo c at_ P c.edges.length

/-- The plans for the words from W - k on. -/
def dpB (c : Ch) : Nat → Nat → Pl
  | 0 => fun _ => (0, [])
  | k + 1 => upd (dpB c k) (c.words.toNat - (k + 1)) (rowF c (c.words.toNat - (k + 1)) (dpB c k))
def coverF (c : Ch) : List Int := (dpB c c.words.toNat 0).2

/-- What a plan for the words from q on is. -/
def PlOk (W q : Nat) (p : Pl) : Prop := p.2.length ≤ W - q ∧ 0 ≤ p.1 ∧ p.1 ≤ ((W - q : Nat) : Int)

theorem rowTo_ok {c : Ch} (h : Ok c) {P : Nat → Pl} {at_ : Nat} (ha : at_ < c.words.toNat) (hP : ∀ q, at_ < q → q ≤ c.words.toNat → PlOk c.words.toNat q (P q)) : ∀ i, i ≤ c.edges.length → PlOk c.words.toNat at_ (rowTo c at_ P i)
  | 0, _ => by
    obtain ⟨h1, h2, h3⟩ := hP (at_ + 1) (by omega) (by omega)
    exact ⟨by rw [rowTo]; omega, h2, by rw [rowTo]; omega⟩
  | i + 1, hi => by
    have ih := rowTo_ok h ha hP i (by omega)
    have hs := h.span (c.edges.getD i default) (by rw [getD_lt (by omega)]; exact List.getElem_mem _)
    have hw := h.words
    rw [rowTo, rowStep]
    split
    · exact ih
    · rename_i hf
      have hf : (c.edges.getD i default).frm = (at_ : Int) := by simpa using hf
      split
      · obtain ⟨q1, q2, q3⟩ := hP (c.edges.getD i default).to.toNat (by omega) (by omega)
        refine ⟨?_, ?_, ?_⟩
        · show (_ :: _ : List Int).length ≤ _
          rw [List.length_cons]
          omega
        · show 0 ≤ _ + _
          omega
        · show _ + _ ≤ _
          omega
      · exact ih

theorem dpB_ok {c : Ch} (h : Ok c) : ∀ k, k ≤ c.words.toNat → ∀ q, c.words.toNat - k ≤ q → q ≤ c.words.toNat → PlOk c.words.toNat q (dpB c k q)
  | 0, _, q, _, _ => ⟨Nat.zero_le _, Int.le_refl _, by show (0 : Int) ≤ _; omega⟩
  | k + 1, hk, q, h1, h2 => by
    rw [dpB, upd_apply]
    split
    · rename_i e
      subst e
      exact rowTo_ok h (by omega) (fun q hq1 hq2 => dpB_ok h k (by omega) q (by omega) hq2) _ (Nat.le_refl _)
    · exact dpB_ok h k (by omega) q (by omega) h2
end Go.Am
