/- What the functions on charts compute, in plain Lean. No condition. -/
import Derived.Test.YtfepiaclbokkjaaData
namespace Go.Am

def edgeAt (c : Ch) (k : Int) : Ed := c.edges.getD k.toNat default

/-- The derivation of an edge; N bounds the numbers of its kids. -/
def derE (c : Ch) : Nat → Ed → Dv
  | 0, e => if e.kind == 1 then e.lex else .mk 2 e.name e.frm e.to []
  | N + 1, e => if e.kind == 1 then e.lex else .mk 2 e.name e.frm e.to (e.kids.map fun k => derE c N (edgeAt c k))

/-- The kids of an edge are edges with numbers below N. -/
def kidsIn (N : Nat) (e : Ed) : Prop := e.kids.length ≤ 1000 ∧ ∀ k ∈ e.kids, 0 ≤ k ∧ k < (N : Int)
/-- The kids of each edge stand before it. -/
def Founded (c : Ch) : Prop := c.edges.length ≤ 1000 ∧ ∀ i, i < c.edges.length → kidsIn i (c.edges.getD i default)

theorem kidsIn.mono {M N : Nat} {e : Ed} (h : kidsIn M e) (hl : M ≤ N) : kidsIn N e := ⟨h.1, fun k hk => ⟨(h.2 k hk).1, by have := (h.2 k hk).2; omega⟩⟩

theorem derE_lex (c : Ch) (N : Nat) (e : Ed) (h : (e.kind == 1) = true) : derE c N e = e.lex := by cases N <;> simp [derE, h]
theorem derE_rule (c : Ch) (N : Nat) (e : Ed) (h : (e.kind == 1) = false) : derE c (N + 1) e = .mk 2 e.name e.frm e.to (e.kids.map fun k => derE c N (edgeAt c k)) := by simp [derE, h]

theorem derE_eq (c : Ch) (N : Nat) (e : Ed) (h : (e.kind == 1) = false) (hk : kidsIn N e) : derE c N e = .mk 2 e.name e.frm e.to (e.kids.map fun k => derE c (N - 1) (edgeAt c k)) := by
  cases N with
  | zero =>
    have : e.kids = [] := by
      cases hks : e.kids with
      | nil => rfl
      | cons k r =>
        have := hk.2 k (by rw [hks]; exact List.mem_cons_self ..)
        omega
    simp [derE, h, this]
  | succ N => simp [derE, h]

theorem take_snoc {α : Type} {l : List α} {i : Nat} (h : i < l.length) : l.take (i + 1) = l.take i ++ [l[i]] := by rw [List.take_succ_eq_append_getElem h]
def nodeOk (n : Int × List (Int × Int)) : Bool := !decide (20 < (n.2.length : Int))

def newF (words : Int) : Ch × Int := if words < 1 || 32 < words then (⟨0, []⟩, 2) else (⟨words, []⟩, 0)

/-- The words that the kids cover, where they follow each other. -/
def chain (c : Ch) : List Int → Int → Option Int
  | [], at_ => some at_
  | k :: r, at_ => if decide (k < 0) || decide ((c.edges.length : Int) ≤ k) || (edgeAt c k).frm != at_ then none else chain c r (edgeAt c k).to

def unaryOf (c : Ch) (e : Ed) : Int := if ((e.kids.length : Nat) : Int) == 1 then IntKind.i64.wrap ((edgeAt c (e.kids.getD 0 0)).unary + 1) else 0

def formedR (c : Ch) (e : Ed) : Option Int → Bool
  | none => false
  | some at_ => !(at_ != e.to) && (e.unary == unaryOf c e && decide (unaryOf c e ≤ 2))
def formedF (c : Ch) (e : Ed) : Bool :=
  if e.kind == 1 then e.name.toList == e.lex.name.toList && ((e.kids.length : Nat) : Int) == 0 && e.unary == 0 && lexicalD e.lex && e.lex.frm == e.frm && e.lex.to == e.to
  else if e.name.toList == (ByteArray.mk #[]).toList || !zeroD e.lex || decide (((e.kids.length : Nat) : Int) < 1) || decide (2 < ((e.kids.length : Nat) : Int)) then false
  else formedR c e (chain c e.kids e.frm)

theorem chain_in (c : Ch) : ∀ (ks : List Int) (at_ r : Int), chain c ks at_ = some r → ∀ k ∈ ks, 0 ≤ k ∧ k < (c.edges.length : Int)
  | [], _, _, _, k, hk => by cases hk
  | k :: q, at_, r, h, k', hk => by
    rw [chain] at h
    split at h
    · cases h
    · rename_i hn
      simp only [Bool.or_eq_true, decide_eq_true_eq, not_or] at hn
      rcases List.mem_cons.1 hk with rfl | hk
      · omega
      · exact chain_in c q _ r h k' hk

theorem formed_kids (c : Ch) (e : Ed) (h : formedF c e = true) : kidsIn c.edges.length e := by
  unfold formedF at h
  split at h
  · simp only [Bool.and_eq_true, beq_iff_eq] at h
    have h0 : e.kids = [] := List.length_eq_zero_iff.1 (by omega)
    exact ⟨by rw [h0]; decide, fun k hk => by rw [h0] at hk; cases hk⟩
  · split at h
    · cases h
    · rename_i hn
      simp only [Bool.or_eq_true, decide_eq_true_eq, not_or] at hn
      cases hr : chain c e.kids e.frm with
      | none => rw [hr] at h; cases h
      | some r => exact ⟨by omega, chain_in c _ _ _ hr⟩

/-- The first number from i on, of n, that p takes. -/
def firstFrom (p : Nat → Bool) : Nat → Nat → Option Nat
  | _, 0 => none
  | i, n + 1 => if p i then some i else firstFrom p (i + 1) n

/-- The derivation of the edge n. -/
def derN (c : Ch) (n : Int) : Dv := if n < 0 || (c.edges.length : Int) ≤ n then .mk 0 ⟨#[]⟩ 0 0 [] else derE c c.edges.length (edgeAt c n)

def dupF (c : Ch) (e : Ed) : Nat → Bool := fun i => cmpD (derN c i) (derE c c.edges.length e) == 0
def addF (c : Ch) (e : Ed) : Ch × Int × Int :=
  if decide (e.frm < 0) || decide (e.to ≤ e.frm) || decide (c.words < e.to) then (c, 0, 2)
  else if e.kind != 1 && e.kind != 2 then (c, 0, 14)
  else if !formedF c e then (c, 0, 13)
  else match firstFrom (dupF c e) 0 c.edges.length with
    | some i => (c, i, 4)
    | none => (⟨c.words, c.edges ++ [e]⟩, c.edges.length, 0)

def addS (c : Ch) (e : Ed) : Ch := if (addF c e).2.2 == 0 then (addF c e).1 else c
def buildF (words : Int) (l : List Ed) : Ch := l.foldl addS (newF words).1

/-- A chart that was built. -/
structure WF (c : Ch) : Prop where
  founded : Founded c
  lex : ∀ e ∈ c.edges, okD e.lex
  span : ∀ e ∈ c.edges, 0 ≤ e.frm ∧ e.frm < e.to ∧ e.to ≤ c.words
  words : 0 ≤ c.words ∧ c.words ≤ 32

theorem Founded.nil (w : Int) : Founded ⟨w, []⟩ := ⟨by simp, fun i hi => by simp at hi⟩
theorem new_wf (words : Int) : WF (newF words).1 ∧ (newF words).1.edges = [] := by
  unfold newF
  split
  · exact ⟨⟨Founded.nil _, fun e he => by simp at he, fun e he => by simp at he, by decide⟩, rfl⟩
  · rename_i h
    simp only [Bool.or_eq_true, decide_eq_true_eq, not_or] at h
    exact ⟨⟨Founded.nil _, fun e he => by simp at he, fun e he => by simp at he, by constructor <;> (dsimp only; omega)⟩, rfl⟩

theorem Founded.snoc {c : Ch} {e : Ed} (h : Founded c) (hl : c.edges.length < 1000) (hk : kidsIn c.edges.length e) : Founded ⟨c.words, c.edges ++ [e]⟩ := by
  refine ⟨by simp; omega, fun i hi => ?_⟩
  simp only [List.length_append, List.length_cons, List.length_nil] at hi
  by_cases hi' : i < c.edges.length
  · have := h.2 i hi'
    simpa only [List.getD_eq_getElem?_getD, List.getElem?_append_left hi'] using this
  · have : i = c.edges.length := by omega
    subst this
    simpa using hk

theorem addF_ok {c : Ch} {e : Ed} (h : (addF c e).2.2 = 0) : addF c e = ((⟨c.words, c.edges ++ [e]⟩ : Ch), (c.edges.length : Int), (0 : Int)) ∧ formedF c e = true ∧ 0 ≤ e.frm ∧ e.frm < e.to ∧ e.to ≤ c.words := by
  unfold addF at h ⊢
  split at h
  · cases h
  · rename_i h1
    split at h
    · cases h
    · rename_i h2
      split at h
      · cases h
      · rename_i h3
        split at h
        · cases h
        · rename_i h4
          refine ⟨by rw [if_neg h1, if_neg h2, if_neg h3], ?_⟩
          simp only [Bool.or_eq_true, decide_eq_true_eq, not_or] at h1
          exact ⟨by simpa using h3, by omega, by omega, by omega⟩

theorem add_wf {c : Ch} {e : Ed} (h : WF c) (hl : c.edges.length < 1000) (hx : okD e.lex) : WF (addS c e) ∧ (addS c e).edges.length ≤ c.edges.length + 1 ∧ (addS c e).words = c.words := by
  unfold addS
  split
  · rename_i h0
    obtain ⟨e1, e2, e3, e4, e5⟩ := addF_ok (by simpa using h0)
    rw [e1]
    refine ⟨⟨h.founded.snoc hl (formed_kids c e e2), fun x hx' => ?_, fun x hx' => ?_, h.words⟩, by simp, rfl⟩
    · rcases List.mem_append.1 hx' with q | q
      · exact h.lex x q
      · rw [List.mem_singleton.1 q]; exact hx
    · rcases List.mem_append.1 hx' with q | q
      · exact h.span x q
      · rw [List.mem_singleton.1 q]; exact ⟨e3, e4, e5⟩
  · exact ⟨h, by omega, rfl⟩

theorem fold_wf : ∀ (l : List Ed) (c : Ch), WF c → c.edges.length + l.length ≤ 1000 → (∀ e ∈ l, okD e.lex) → WF (l.foldl addS c) ∧ (l.foldl addS c).edges.length ≤ c.edges.length + l.length ∧ (l.foldl addS c).words = c.words
  | [], c, h, _, _ => ⟨h, by simp, rfl⟩
  | e :: r, c, h, hl, ho => by
    rw [List.length_cons] at hl
    have h1 := add_wf h (by omega) (ho e (List.mem_cons_self ..))
    have h2 := fold_wf r (addS c e) h1.1 (by omega) fun x hx => ho x (List.mem_cons_of_mem _ hx)
    rw [List.foldl_cons, List.length_cons]
    exact ⟨h2.1, by omega, h2.2.2.trans h1.2.2⟩

/-- The canonical order of edges. -/
def beforeF (c : Ch) (i k : Nat) : Bool :=
  if IntKind.i64.wrap ((c.edges.getD i default).to - (c.edges.getD i default).frm) != IntKind.i64.wrap ((c.edges.getD k default).to - (c.edges.getD k default).frm) then
    decide (IntKind.i64.wrap ((c.edges.getD i default).to - (c.edges.getD i default).frm) < IntKind.i64.wrap ((c.edges.getD k default).to - (c.edges.getD k default).frm))
  else if (c.edges.getD i default).frm != (c.edges.getD k default).frm then decide ((c.edges.getD i default).frm < (c.edges.getD k default).frm)
  else if (c.edges.getD i default).unary != (c.edges.getD k default).unary then decide ((c.edges.getD i default).unary < (c.edges.getD k default).unary)
  else decide (cmpD (derN c i) (derN c k) < 0)

def cnt (p : Nat → Bool) : Nat → Nat
  | 0 => 0
  | n + 1 => if p n then cnt p n + 1 else cnt p n
theorem cnt_le (p : Nat → Bool) : ∀ n, cnt p n ≤ n
  | 0 => Nat.le_refl _
  | n + 1 => by
    have := cnt_le p n
    rw [cnt]
    split <;> omega

def numAt (c : Ch) (i : Nat) : Int := (cnt (fun k => beforeF c k i) c.edges.length : Nat)
def nums (c : Ch) : List Int := (List.range c.edges.length).map (numAt c)
theorem nums_length (c : Ch) : (nums c).length = c.edges.length := by simp [nums]
theorem nums_get (c : Ch) {i : Nat} (h : i < c.edges.length) : (nums c).getD i 0 = numAt c i := by
  rw [getD_lt (by rw [nums_length]; exact h)]
  simp [nums]

def renum (c : Ch) (e : Ed) : Ed := { e with kids := e.kids.map fun k => (nums c).getD k.toNat 0 }
def canonI (c : Ch) (n : Nat) (acc : List Ed) (i : Nat) : List Ed := if (nums c).getD i 0 != (n : Int) then acc else acc ++ [renum c (c.edges.getD i default)]
def canonN (c : Ch) (acc : List Ed) (n : Nat) : List Ed := (List.range c.edges.length).foldl (canonI c n) acc
def canonF (c : Ch) : Ch := ⟨c.words, (List.range c.edges.length).foldl (canonN c) []⟩

theorem range_foldl {α : Type} (f : α → Nat → α) (a : α) (n : Nat) : (List.range (n + 1)).foldl f a = f ((List.range n).foldl f a) n := by
  rw [List.range_succ, List.foldl_append]
  rfl

def accN (c : Ch) (n : Nat) : List Ed := (List.range n).foldl (canonN c) []
def accJ (c : Ch) (n j : Nat) : List Ed := (List.range j).foldl (canonI c n) (accN c n)
theorem accJ_succ (c : Ch) (n j : Nat) : accJ c n (j + 1) = canonI c n (accJ c n j) j := range_foldl _ _ _
theorem accN_succ (c : Ch) (n : Nat) : accN c (n + 1) = accJ c n c.edges.length := range_foldl _ _ _

theorem canonI_all (c : Ch) (n : Nat) (P : Ed → Prop) (hP : ∀ i, i < c.edges.length → P (renum c (c.edges.getD i default))) : ∀ (m : Nat) (acc : List Ed), m ≤ c.edges.length → (∀ e ∈ acc, P e) → (∀ e ∈ (List.range m).foldl (canonI c n) acc, P e) ∧ ((List.range m).foldl (canonI c n) acc).length ≤ acc.length + m
  | 0, acc, _, h => ⟨h, Nat.le_refl _⟩
  | m + 1, acc, hm, h => by
    obtain ⟨h1, h2⟩ := canonI_all c n P hP m acc (by omega) h
    rw [range_foldl]
    generalize (List.range m).foldl (canonI c n) acc = A at h1 h2
    unfold canonI
    split
    · exact ⟨h1, by omega⟩
    · refine ⟨fun e he => ?_, by rw [List.length_append, List.length_cons, List.length_nil]; omega⟩
      rcases List.mem_append.1 he with q | q
      · exact h1 e q
      · rw [List.mem_singleton.1 q]; exact hP m (by omega)
theorem canonN_all (c : Ch) (P : Ed → Prop) (hP : ∀ i, i < c.edges.length → P (renum c (c.edges.getD i default))) : ∀ (m : Nat), m ≤ c.edges.length → (∀ e ∈ (List.range m).foldl (canonN c) [], P e) ∧ ((List.range m).foldl (canonN c) []).length ≤ m * c.edges.length
  | 0, _ => ⟨fun e he => by simp at he, by simp⟩
  | m + 1, hm => by
    obtain ⟨h1, h2⟩ := canonN_all c P hP m (by omega)
    rw [range_foldl]
    generalize (List.range m).foldl (canonN c) [] = A at h1 h2
    have := canonI_all c m P hP c.edges.length A (Nat.le_refl _) h1
    refine ⟨this.1, ?_⟩
    have := this.2
    rw [Nat.succ_mul]
    unfold canonN
    omega

/-- A chart for the laws: its words and spans. -/
structure Ok (c : Ch) : Prop where
  words : 0 ≤ c.words ∧ c.words ≤ 32
  span : ∀ e ∈ c.edges, 0 ≤ e.frm ∧ e.frm < e.to ∧ e.to ≤ c.words
  len : c.edges.length ≤ 1000000

theorem canon_ok {c : Ch} (h : WF c) : Ok (canonF c) := by
  have := canonN_all c (fun e => 0 ≤ e.frm ∧ e.frm < e.to ∧ e.to ≤ c.words) (fun i hi => by
    have := h.span (c.edges.getD i default) (by rw [getD_lt hi]; exact List.getElem_mem hi)
    exact this) c.edges.length (Nat.le_refl _)
  refine ⟨h.words, this.1, Nat.le_trans this.2 ?_⟩
  exact Nat.mul_le_mul h.founded.1 h.founded.1
end Go.Am
