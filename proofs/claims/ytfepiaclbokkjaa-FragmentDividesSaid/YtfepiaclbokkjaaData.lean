/- Derivations as trees, and how they are laid out as Go values. Plain; no condition. -/
import Derived.Test.YtfepiaclbokkjaaAmE
namespace Go.Am

/-- A derivation. -/
inductive Dv where
  | mk (kind : Int) (name : ByteArray) (frm to : Int) (kids : List Dv)

instance : Inhabited Dv := ⟨.mk 0 ⟨#[]⟩ 0 0 []⟩

def Dv.kind : Dv → Int | .mk k _ _ _ _ => k
def Dv.name : Dv → ByteArray | .mk _ n _ _ _ => n
def Dv.frm : Dv → Int | .mk _ _ f _ _ => f
def Dv.to : Dv → Int | .mk _ _ _ t _ => t
def Dv.kids : Dv → List Dv | .mk _ _ _ _ ks => ks

mutual
def encD : Dv → List CV
  | .mk k n f t ks => [.int k, .str n, .int f, .int t, .im 5 ks.length fun i => (encDs ks).getD i []]
def encDs : List Dv → List (List CV)
  | [] => []
  | d :: r => encD d :: encDs r
end

mutual
def Dv.size : Dv → Nat
  | .mk _ _ _ _ ks => 1 + sizes ks
def sizes : List Dv → Nat
  | [] => 0
  | d :: r => d.size + sizes r
end

theorem sizes_get : ∀ (ks : List Dv) (i : Nat) (h : i < ks.length), ks[i].size ≤ sizes ks
  | d :: r, 0, _ => by simp [sizes]
  | d :: r, i + 1, h => by
    have := sizes_get r i (by simpa using h)
    simp only [List.getElem_cons_succ, sizes]
    omega

theorem encDs_get : ∀ (ks : List Dv) (i : Nat) (h : i < ks.length), (encDs ks).getD i [] = encD ks[i]
  | d :: r, 0, _ => rfl
  | d :: r, i + 1, h => by
    have := encDs_get r i (by simpa using h)
    simpa [encDs] using this

theorem encD_len (d : Dv) : (encD d).length = 5 := by cases d; rfl
theorem encD_take (d : Dv) : (encD d).take 5 = encD d := by cases d; rfl

theorem encDs_length : ∀ ks : List Dv, (encDs ks).length = ks.length
  | [] => rfl
  | d :: r => by simp [encDs, encDs_length r]

mutual
/-- How many nodes, up to 'most'. -/
def nodesD : Dv → Int → Int
  | .mk _ _ _ _ ks, most => nodesL ks most 1
def nodesL : List Dv → Int → Int → Int
  | [], _, n => n
  | d :: r, most, n => if n < most then nodesL r most (n + nodesD d (most - n)) else n
end

mutual
theorem nodesD_bd : ∀ (d : Dv) (most : Int), 1 ≤ most → 1 ≤ nodesD d most ∧ nodesD d most ≤ most
  | .mk _ _ _ _ ks, most, h => by
    have := nodesL_bd ks most 1 h (Int.le_refl _) h
    simpa [nodesD] using this
theorem nodesL_bd : ∀ (ks : List Dv) (most n : Int), 1 ≤ most → 1 ≤ n → n ≤ most → n ≤ nodesL ks most n ∧ nodesL ks most n ≤ most
  | [], most, n, _, _, h => by simp [nodesL]; exact h
  | d :: r, most, n, h1, h2, h3 => by
    simp only [nodesL]
    split
    · have h4 := nodesD_bd d (most - n) (by omega)
      have h5 := nodesL_bd r most (n + nodesD d (most - n)) h1 (by omega) (by omega)
      omega
    · omega
end


def encKids (ks : List Dv) : CV := .im 5 ks.length fun i => (encDs ks).getD i []
/-- The five cells of a derivation. -/
def cellsD (d : Dv) : List CV := [.int d.kind, .str d.name, .int d.frm, .int d.to, encKids d.kids]
theorem encD_eq (d : Dv) : encD d = cellsD d := by cases d; rfl
theorem kids_get (ks : List Dv) (i : Nat) (h : i < ks.length) : (encDs ks).getD i [] = cellsD ks[i] := by rw [encDs_get ks i h, encD_eq]
theorem encDs_getD {ks : List Dv} {i : Nat} (h : i < ks.length) : (encDs ks).getD i [] = cellsD (ks.getD i default) := by rw [kids_get ks i h, getD_lt h]
theorem encDs_append : ∀ (l r : List Dv), encDs (l ++ r) = encDs l ++ encDs r
  | [], r => rfl
  | d :: l, r => by rw [List.cons_append, encDs, encDs, encDs_append l r]; rfl
theorem snocD_row (l : List Dv) (x : Dv) {ty : TypeId} {sz : Nat} :
    objLe (.row ty sz (l.length + 1) (fun q => if q < l.length then (encDs l).getD q [] else [cellsD x].getD (q - l.length) [])) (.row ty sz (l ++ [x]).length (fun q => (encDs (l ++ [x])).getD q [])) := by
  refine objLe_rown (by simp) fun i hi => ?_
  rw [encDs_append]
  by_cases h : i < l.length
  · simp only [h, if_true, List.getD_eq_getElem?_getD]
    rw [List.getElem?_append_left (by rw [encDs_length]; exact h)]
  · have : i = l.length := by omega
    subst this
    rw [if_neg h, Nat.sub_self, List.getD_cons_zero, List.getD_eq_getElem?_getD, List.getElem?_append_right (by rw [encDs_length]; exact Nat.le_refl _), encDs_length, Nat.sub_self]
    exact (encD_eq x).symm
theorem kids_sizeD (d : Dv) (i : Nat) (h : i < d.kids.length) : (d.kids.getD i default).size < d.size := by
  obtain ⟨k, n, f, t, ks⟩ := d
  have := sizes_get ks i h
  rw [getD_lt h]
  simp only [Dv.size]
  show ks[i].size < _
  omega
theorem kids_size (d : Dv) (i : Nat) (h : i < d.kids.length) : d.kids[i].size < d.size := by
  obtain ⟨k, n, f, t, ks⟩ := d
  have := sizes_get ks i h
  simp only [Dv.size]
  show ks[i].size < _
  omega

mutual
/-- No node has more than 1000 kids. -/
def okD : Dv → Prop
  | .mk _ _ _ _ ks => ks.length ≤ 1000 ∧ okDs ks
def okDs : List Dv → Prop
  | [] => True
  | d :: r => okD d ∧ okDs r
end
theorem okDs_get : ∀ {ks : List Dv} {i : Nat}, okDs ks → (h : i < ks.length) → okD (ks.getD i default)
  | d :: r, 0, h, _ => h.1
  | d :: r, i + 1, h, hi => by
    have := okDs_get (i := i) h.2 (by simpa using hi)
    simpa using this
theorem okDs_of : ∀ {ks : List Dv}, (∀ d ∈ ks, okD d) → okDs ks
  | [], _ => trivial
  | d :: r, h => ⟨h d (List.mem_cons_self ..), okDs_of fun x hx => h x (List.mem_cons_of_mem _ hx)⟩
theorem okD_len {d : Dv} (h : okD d) : d.kids.length ≤ 1000 := by cases d; exact h.1
theorem okD_kid {d : Dv} (h : okD d) {i : Nat} (hi : i < d.kids.length) : okD (d.kids.getD i default) := by cases d; exact okDs_get h.2 hi

mutual
theorem okD_nodes : ∀ (d : Dv) (most : Int), most ≤ 1000 → nodesD d most < most → okD d
  | .mk _ _ _ _ ks, most, h1, h2 => by
    rw [nodesD] at h2
    have := okDs_nodes ks most 1 h1 (by decide) h2
    exact ⟨by omega, this.2⟩
theorem okDs_nodes : ∀ (ks : List Dv) (most n : Int), most ≤ 1000 → 1 ≤ n → nodesL ks most n < most → n + (ks.length : Int) ≤ most ∧ okDs ks
  | [], most, n, h1, h0, h2 => by
    simp only [nodesL] at h2
    exact ⟨by simp; omega, trivial⟩
  | d :: r, most, n, h1, h0, h2 => by
    simp only [nodesL] at h2
    split at h2
    · rename_i h3
      have b := nodesD_bd d (most - n) (by omega)
      by_cases e : n + nodesD d (most - n) < most
      · have i1 := okDs_nodes r most (n + nodesD d (most - n)) h1 (by omega) h2
        have i2 := okD_nodes d (most - n) (by omega) (by omega)
        refine ⟨?_, i2, i1.2⟩
        rw [List.length_cons]
        omega
      · have := nodesL_bd r most (n + nodesD d (most - n)) (by omega) (by omega) (by omega)
        omega
    · omega
end

/-- An edge. -/
structure Ed where
  frm : Int
  to : Int
  unary : Int
  kind : Int
  name : ByteArray
  kids : List Int
  lex : Dv
  fs : List (Int × List (Int × Int))

instance : Inhabited Ed := ⟨⟨0, 0, 0, 0, ⟨#[]⟩, [], default, []⟩⟩

def encInts (l : List Int) : CV := .im 1 l.length fun i => [.int (l.getD i 0)]
def encArcs (l : List (Int × Int)) : CV := .im 2 l.length fun i => [.int (l.getD i (0, 0)).1, .int (l.getD i (0, 0)).2]
def encFS (l : List (Int × List (Int × Int))) : CV := .im 2 l.length fun i => [.int (l.getD i (0, [])).1, encArcs (l.getD i (0, [])).2]
/-- The twelve cells of an edge. -/
def cellsE (e : Ed) : List CV := [.int e.frm, .int e.to, .int e.unary, .int e.kind, .str e.name, encInts e.kids, .int e.lex.kind, .str e.lex.name, .int e.lex.frm, .int e.lex.to, encKids e.lex.kids, encFS e.fs]
def encEs (l : List Ed) : CV := .im 12 l.length fun i => cellsE (l.getD i default)

/-- A chart. -/
structure Ch where
  words : Int
  edges : List Ed
def cellsC (c : Ch) : List CV := [.int c.words, encEs c.edges]

def encSpans (l : List (Int × Int)) : CV := .im 2 l.length fun i => [.int (l.getD i (0, 0)).1, .int (l.getD i (0, 0)).2]

def intsF (a b : Int) : Int := if a < b then -1 else if b < a then 1 else 0

mutual
/-- The order of derivations. -/
def cmpD : Dv → Dv → Int
  | .mk k1 n1 f1 t1 ks1, .mk k2 n2 f2 t2 ks2 =>
    if f1 ≠ f2 then intsF f1 f2 else if t1 ≠ t2 then intsF t1 t2 else if k1 ≠ k2 then intsF k1 k2
    else if !(n1.toList == n2.toList) then (if Op.bytesLess n1.toList n2.toList then -1 else 1)
    else cmpL ks1 ks2
def cmpL : List Dv → List Dv → Int
  | [], [] => 0
  | [], _ :: _ => -1
  | _ :: _, [] => 1
  | a :: r, b :: q => if cmpD a b ≠ 0 then cmpD a b else cmpL r q
end

mutual
def lexicalD : Dv → Bool
  | .mk k _ f t ks => if k == 0 then ks.length == 0 else k == 1 && lexicalL ks f t
def lexicalL : List Dv → Int → Int → Bool
  | [x], f, t => x.frm == f && (x.to == t && lexicalD x)
  | _, _, _ => false
end

def zeroD (d : Dv) : Bool := d.kind == 0 && d.name.toList == (ByteArray.mk #[]).toList && d.frm == 0 && d.to == 0 && (d.kids.length : Int) == 0

def lightE (e : Ed) : Bool := !(decide (20 < nodesD e.lex 21) || decide (20 < (e.fs.length : Int)) || decide (10 < (e.kids.length : Int))) && e.fs.all fun n => !decide (20 < (n.2.length : Int))
def lightF (l : List Ed) (most : Int) : Bool := !decide (most < (l.length : Int)) && l.all lightE

end Go.Am
