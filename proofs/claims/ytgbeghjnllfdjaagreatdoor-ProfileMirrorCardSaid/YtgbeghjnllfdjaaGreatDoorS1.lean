/- Texts of the proof: Base H1 H2 P49 P50 P51 P52 P53 Q0 NA NB Shelf N1 N2 N3 N4 N5 N6 N7 N8 N9 NC N4u. No condition. -/
import Derived.Test.YtgbeghjnllfdjaaGreatDoorM3
import Derived.Test.YtgbeghjnllfdjaaGreatDoorProg
import Derived.KernelRfl
import Derived.Laws.StructEq
import Derived.Laws.Small
import Derived.Lib.Builder
import Derived.WalkKit
import Derived.Laws.Externs
import Derived.Shelf.Strings.Builder1
import Derived.Shelf.Strings.Builder2
import Derived.Shelf.Strings.Trim
import Derived.Shelf.Small.Utf8
import Derived.Shelf.Small.Strs
import Derived.Shelf.Strconv.Atoi
import Derived.Shelf.Strconv.Itoa0
import Derived.Shelf.Strconv.Itoa1
import Derived.Shelf.LaysM
import Derived.Shelf.Strconv.Itoa2
import Derived.Shelf.Strconv.Itoa3
import Derived.Shelf.Strconv.AtoiErrFast
import Derived.Shelf.Strconv.ParseIntEmpty
import Derived.Shelf.Strconv.AtoiFail
import Derived.Shelf.Strconv.Clone
import Derived.Shelf.Strconv.SyntaxError
import Derived.Shelf.LaysC
import Derived.Shelf.Strconv.ToError
import Derived.Shelf.Strconv.Lower
import Derived.Shelf.Strconv.ParseUint10
import Derived.Shelf.Strconv.ParseUint10Empty
import Derived.Shelf.Strconv.ParseUint10Any
import Derived.Shelf.Strconv.ParseInt10
import Derived.Shelf.Strconv.AtoiLong
import Derived.Shelf.Strconv.AtoiInnerAll
import Derived.Shelf.Strconv.RangeError
import Derived.Shelf.Strconv.ToErrorRange
import Derived.Shelf.Strconv.AtoiAll
import Derived.Shelf.Strings.Search1
import Derived.Shelf.Strings.Search2
import Derived.Shelf.Strings.Search3
import Derived.Shelf.Strings.Count
import Derived.Shelf.Strings.Shaped
import Derived.Shelf.Strings.Prefix
import Derived.Shelf.Strings.Split
import Derived.Shelf.Strings.SplitShaped
import Derived.Shelf.Unicode.Decode
import Derived.Shelf.Strings.Runes
import Derived.Shelf.Strings.RuneCount
import Derived.Shelf.Strings.AsciiSet
import Derived.Shelf.Strings.Explode
import Derived.Shelf.Unicode.DecodeSlow
import Derived.Shelf.Unicode.DecodeAny
import Derived.Shelf.Unicode.DecodeLast
import Derived.Ground.SlgmProg
import Derived.Shelf.SortM.Plain
import Derived.Shelf.Strings.SlTrimAscii
set_option linter.unusedVariables false
set_option linter.unusedSimpArgs false
namespace Go.Am
open Go.Proofs
theorem Tryz.mixed : Tryz.prog.follows .mixedOrders = true := by kernel_rfl
theorem Tryz.ti3 : tinfo Tryz.prog 3 = some { agg := false, size := 1, bytes := 8, elem := 0, slice := false, fields := [], zero := [.int .i64 0] } := by kernel_rfl
theorem Tryz.ti4 : tinfo Tryz.prog 4 = some { agg := false, size := 1, bytes := 1, elem := 0, slice := false, fields := [], zero := [.bool false] } := by kernel_rfl
theorem Tryz.ti5 : tinfo Tryz.prog 5 = some { agg := false, size := 1, bytes := 1, elem := 0, slice := false, fields := [], zero := [.int .u8 0] } := by kernel_rfl
theorem Tryz.ti9 : tinfo Tryz.prog 9 = some { agg := false, size := 1, bytes := 16, elem := 0, slice := false, fields := [], zero := [.string ⟨#[]⟩] } := by kernel_rfl
theorem Tryz.ti21 : tinfo Tryz.prog 21 = some { agg := false, size := 1, bytes := 4, elem := 0, slice := false, fields := [], zero := [.int .i32 0] } := by kernel_rfl
theorem Tryz.ti22 : tinfo Tryz.prog 22 = some { agg := false, size := 1, bytes := 24, elem := 47, slice := true, fields := [], zero := [.slice none 0 0] } := by kernel_rfl
theorem Tryz.ti24 : tinfo Tryz.prog 24 = some { agg := true, size := 2, bytes := 40, elem := 0, slice := false, fields := [(0, 1), (1, 1)], zero := [.string ⟨#[]⟩, .slice none 0 0] } := by kernel_rfl
theorem Tryz.ti27 : tinfo Tryz.prog 27 = some { agg := false, size := 1, bytes := 8, elem := 0, slice := false, fields := [], zero := [.int .i64 0] } := by kernel_rfl
theorem Tryz.ti30 : tinfo Tryz.prog 30 = some { agg := true, size := 6, bytes := 48, elem := 0, slice := false, fields := [(0, 1), (1, 1), (2, 1), (3, 1), (4, 1), (5, 1)], zero := [.int .i64 0, .int .i64 0, .int .i64 0, .int .i64 0, .int .i64 0, .int .i64 0] } := by kernel_rfl
theorem Tryz.ti32 : tinfo Tryz.prog 32 = some { agg := false, size := 1, bytes := 24, elem := 45, slice := true, fields := [], zero := [.slice none 0 0] } := by kernel_rfl
theorem Tryz.ti45 : tinfo Tryz.prog 45 = some { agg := true, size := 4, bytes := 40, elem := 0, slice := false, fields := [(0, 1), (1, 1), (2, 1), (3, 1)], zero := [.string ⟨#[]⟩, .int .i64 0, .int .i64 0, .int .i64 0] } := by kernel_rfl
theorem Tryz.ti47 : tinfo Tryz.prog 47 = some { agg := true, size := 5, bytes := 48, elem := 0, slice := false, fields := [(0, 1), (1, 1), (2, 1), (3, 1), (4, 1)], zero := [.string ⟨#[]⟩, .int .i64 0, .int .i64 0, .int .i64 0, .bool false] } := by kernel_rfl
theorem Tryz.ti62 : tinfo Tryz.prog 62 = some { agg := false, size := 1, bytes := 24, elem := 9, slice := true, fields := [], zero := [.slice none 0 0] } := by kernel_rfl
theorem Tryz.ti63 : tinfo Tryz.prog 63 = some { agg := false, size := 1, bytes := 24, elem := 106, slice := true, fields := [], zero := [.slice none 0 0] } := by kernel_rfl
theorem Tryz.ti64 : tinfo Tryz.prog 64 = some { agg := false, size := 1, bytes := 24, elem := 185, slice := true, fields := [], zero := [.slice none 0 0] } := by kernel_rfl
theorem Tryz.ti69 : tinfo Tryz.prog 69 = some { agg := true, size := 10, bytes := 232, elem := 0, slice := false, fields := [(0, 1), (1, 1), (2, 1), (3, 1), (4, 1), (5, 1), (6, 1), (7, 1), (8, 1), (9, 1)], zero := [.string ⟨#[]⟩, .slice none 0 0, .slice none 0 0, .slice none 0 0, .slice none 0 0, .slice none 0 0, .slice none 0 0, .slice none 0 0, .slice none 0 0, .slice none 0 0] } := by kernel_rfl
theorem Tryz.ti71 : tinfo Tryz.prog 71 = some { agg := false, size := 1, bytes := 8, elem := 0, slice := false, fields := [], zero := [.int .u64 0] } := by kernel_rfl
theorem Tryz.ti73 : tinfo Tryz.prog 73 = some { agg := true, size := 5, bytes := 40, elem := 0, slice := false, fields := [(0, 1), (1, 1), (2, 1), (3, 1), (4, 1)], zero := [.int .i64 0, .int .u64 0, .int .i64 0, .int .i64 0, .bool false] } := by kernel_rfl
theorem Tryz.ti78 : tinfo Tryz.prog 78 = some { agg := false, size := 1, bytes := 8, elem := 0, slice := false, fields := [], zero := [.pointer none] } := by kernel_rfl
theorem Tryz.ti82 : tinfo Tryz.prog 82 = some { agg := false, size := 1, bytes := 8, elem := 0, slice := false, fields := [], zero := [.pointer none] } := by kernel_rfl
theorem Tryz.ti83 : tinfo Tryz.prog 83 = some { agg := false, size := 1, bytes := 24, elem := 5, slice := true, fields := [], zero := [.slice none 0 0] } := by kernel_rfl
theorem Tryz.ti85 : tinfo Tryz.prog 85 = some { agg := true, size := 2, bytes := 32, elem := 0, slice := false, fields := [(0, 1), (1, 1)], zero := [.pointer none, .slice none 0 0] } := by kernel_rfl
theorem Tryz.ti104 : tinfo Tryz.prog 104 = some { agg := false, size := 1, bytes := 24, elem := 180, slice := true, fields := [], zero := [.slice none 0 0] } := by kernel_rfl
theorem Tryz.ti106 : tinfo Tryz.prog 106 = some { agg := true, size := 3, bytes := 64, elem := 0, slice := false, fields := [(0, 1), (1, 1), (2, 1)], zero := [.string ⟨#[]⟩, .slice none 0 0, .slice none 0 0] } := by kernel_rfl
theorem Tryz.ti138 : tinfo Tryz.prog 138 = some { agg := false, size := 1, bytes := 24, elem := 140, slice := true, fields := [], zero := [.slice none 0 0] } := by kernel_rfl
theorem Tryz.ti152 : tinfo Tryz.prog 152 = some { agg := true, size := 2, bytes := 16, elem := 0, slice := false, fields := [], zero := [.int .i64 0, .int .i64 0] } := by kernel_rfl
theorem Tryz.ti153 : tinfo Tryz.prog 153 = some { agg := false, size := 1, bytes := 24, elem := 152, slice := true, fields := [], zero := [.slice none 0 0] } := by kernel_rfl
theorem Tryz.ti156 : tinfo Tryz.prog 156 = some { agg := false, size := 1, bytes := 8, elem := 0, slice := false, fields := [], zero := [.pointer none] } := by kernel_rfl
theorem Tryz.ti157 : tinfo Tryz.prog 157 = some { agg := false, size := 1, bytes := 24, elem := 156, slice := true, fields := [], zero := [.slice none 0 0] } := by kernel_rfl
theorem Tryz.ti165 : tinfo Tryz.prog 165 = some { agg := false, size := 1, bytes := 24, elem := 171, slice := true, fields := [], zero := [.slice none 0 0] } := by kernel_rfl
theorem Tryz.ti180 : tinfo Tryz.prog 180 = some { agg := true, size := 2, bytes := 32, elem := 0, slice := false, fields := [(0, 1), (1, 1)], zero := [.string ⟨#[]⟩, .string ⟨#[]⟩] } := by kernel_rfl
theorem Tryz.ti185 : tinfo Tryz.prog 185 = some { agg := true, size := 6, bytes := 112, elem := 0, slice := false, fields := [(0, 1), (1, 4), (5, 1)], zero := [.string ⟨#[]⟩, .int .i64 0, .string ⟨#[]⟩, .slice none 0 0, .slice none 0 0, .slice none 0 0] } := by kernel_rfl
theorem Tryz.ti226 : tinfo Tryz.prog 226 = some { agg := false, size := 1, bytes := 8, elem := 0, slice := false, fields := [], zero := [.pointer none] } := by kernel_rfl
theorem Tryz.ti231 : tinfo Tryz.prog 231 = some { agg := true, size := 6, bytes := 128, elem := 0, slice := false, fields := [(0, 1), (1, 1), (2, 1), (3, 1), (4, 1), (5, 1)], zero := [.slice none 0 0, .slice none 0 0, .map none, .slice none 0 0, .slice none 0 0, .slice none 0 0] } := by kernel_rfl
theorem Tryz.ti229 : tinfo Tryz.prog 229 = some { agg := false, size := 1, bytes := 8, elem := 0, slice := false, fields := [], zero := [.map none] } := by kernel_rfl
theorem Tryz.ti364 : tinfo Tryz.prog 364 = some { agg := false, size := 1, bytes := 8, elem := 0, slice := false, fields := [], zero := [.map none] } := by kernel_rfl
attribute [go_sem] Tryz.ti3 Tryz.ti4 Tryz.ti5 Tryz.ti9 Tryz.ti21 Tryz.ti22 Tryz.ti24 Tryz.ti27 Tryz.ti30 Tryz.ti32 Tryz.ti45 Tryz.ti47 Tryz.ti62 Tryz.ti63 Tryz.ti64 Tryz.ti69 Tryz.ti71 Tryz.ti73 Tryz.ti78 Tryz.ti82 Tryz.ti83 Tryz.ti85 Tryz.ti104 Tryz.ti106 Tryz.ti138 Tryz.ti152 Tryz.ti153 Tryz.ti156 Tryz.ti157 Tryz.ti165 Tryz.ti180 Tryz.ti185 Tryz.ti226 Tryz.ti231 Tryz.ti229 Tryz.ti364
attribute [go_sem] Tryz.underlying3 Tryz.underlying4 Tryz.underlying5 Tryz.underlying9 Tryz.underlying21 Tryz.underlying22 Tryz.underlying24 Tryz.underlying27 Tryz.underlying30 Tryz.underlying32 Tryz.underlying45 Tryz.underlying47 Tryz.underlying62 Tryz.underlying63 Tryz.underlying64 Tryz.underlying69 Tryz.underlying71 Tryz.underlying73 Tryz.underlying78 Tryz.underlying82 Tryz.underlying83 Tryz.underlying85 Tryz.underlying104 Tryz.underlying106 Tryz.underlying138 Tryz.underlying152 Tryz.underlying153 Tryz.underlying156 Tryz.underlying157 Tryz.underlying180 Tryz.underlying185 Tryz.underlying226 Tryz.underlying231 Tryz.underlying229 Tryz.underlying364
end Go.Am
namespace Go.Am
abbrev strF (s : ByteArray) : List CV := [.str s]
structure FD where
 feat : ByteArray
 value : ByteArray
structure TD where
 name : ByteArray
 supers : List ByteArray
 feats : List FD
structure Cod where
 name : ByteArray
 code : List Int
def lessS (a b : ByteArray) : Bool := Op.bytesLess a.data.toList b.data.toList
structure OS where
 opn : List (ByteArray × Int)
 below : List (ByteArray × List ByteArray)
 ready : List ByteArray
end Go.Am
namespace Go.Am
end Go.Am
namespace Go.Am
structure It where
 id : ByteArray
 rd : Int
 ed : Int
 tk : Int
 pt : Bool
structure Df where
 id : ByteArray
 kind : Int
 old : Int
 new : Int
def bitI (b : Bool) : Int := if b then 1 else 0
def differF (l : List Df) (id : ByteArray) (kind a b : Int) : List Df := if a == b then l else l ++ [⟨id, kind, a, b⟩]
def diffsF (x y : It) : List Df := differF (differF (differF (differF [] x.id 2 x.rd y.rd) x.id 3 x.ed y.ed) x.id 4 x.tk y.tk) x.id 5 (bitI x.pt) (bitI y.pt)
def one1 (id : ByteArray) (kind a b : Int) : List Df := if a == b then [] else [⟨id, kind, a, b⟩]
theorem differF_eq (l : List Df) (id : ByteArray) (kind a b : Int) : differF l id kind a b = l ++ one1 id kind a b := by
 unfold differF one1
 split <;> simp
theorem diffsF_eq (x y : It) : diffsF x y = one1 x.id 2 x.rd y.rd ++ (one1 x.id 3 x.ed y.ed ++ (one1 x.id 4 x.tk y.tk ++ one1 x.id 5 (bitI x.pt) (bitI y.pt))) := by
 unfold diffsF
 simp only [differF_eq, List.nil_append, List.append_assoc]
def mergeF : List It → List It → List Df
 | [], [] => []
 | x :: a, [] => ⟨x.id, 1, 0, 0⟩ :: mergeF a []
 | [], y :: b => ⟨y.id, 0, 0, 0⟩ :: mergeF [] b
 | x :: a, y :: b => if lessS x.id y.id then ⟨x.id, 1, 0, 0⟩ :: mergeF a (y :: b) else if lessS y.id x.id then ⟨y.id, 0, 0, 0⟩ :: mergeF (x :: a) b else diffsF x y ++ mergeF a b
 termination_by a b => a.length + b.length
end Go.Am
namespace Go.Am
def cutL : List UInt8 → Option (List UInt8 × List UInt8)
 | [] => none
 | c :: r => if c = 10 then some ([], r) else (cutL r).map fun p => (c :: p.1, p.2)
theorem cutL_app : ∀ (l r : List UInt8), (∀ c ∈ l, c ≠ 10) → cutL (l ++ 10 :: r) = some (l, r)
 | [], r, _ => by simp [cutL]
 | c :: l, r, h => by
   rw [List.cons_append, cutL, if_neg (h c (by simp)), cutL_app l r fun x hx => h x (by simp [hx])]
   rfl
theorem cutL_some : ∀ (s l r : List UInt8), cutL s = some (l, r) → s = l ++ 10 :: r ∧ ∀ c ∈ l, c ≠ 10
 | [], l, r, h => by cases h
 | c :: s, l, r, h => by
   rw [cutL] at h
   split at h
   · rename_i e
     cases h
     exact ⟨by rw [e]; rfl, fun c hc => by cases hc⟩
   · rename_i e
     cases hs : cutL s with
     | none => rw [hs] at h; cases h
     | some p =>
       rw [hs] at h
       cases h
       obtain ⟨h1, h2⟩ := cutL_some s p.1 p.2 (by rw [hs])
       refine ⟨by rw [List.cons_append, ← h1], fun x hx => ?_⟩
       rcases List.mem_cons.1 hx with rfl | hx
       · exact e
       · exact h2 x hx
def splitL : List UInt8 → List (List UInt8)
 | [] => [[]]
 | c :: r => if c = 32 then [] :: splitL r else match splitL r with
   | w :: l => (c :: w) :: l
   | [] => [[c]]
theorem splitL_ne : ∀ s, splitL s ≠ []
 | [] => by simp [splitL]
 | c :: r => by
   rw [splitL]
   split
   · simp
   · split <;> simp
theorem splitL_word : ∀ w : List UInt8, (∀ c ∈ w, c ≠ 32) → splitL w = [w]
 | [], _ => rfl
 | c :: w, h => by
   rw [splitL, if_neg (h c (by simp)), splitL_word w fun x hx => h x (by simp [hx])]
theorem splitL_app : ∀ (w r : List UInt8), (∀ c ∈ w, c ≠ 32) → splitL (w ++ 32 :: r) = w :: splitL r
 | [], r, _ => by simp [splitL]
 | c :: w, r, h => by
   rw [List.cons_append, splitL, if_neg (h c (by simp)), splitL_app w r fun x hx => h x (by simp [hx])]
def joinL : List (List UInt8) → List UInt8
 | [] => []
 | [w] => w
 | w :: v :: l => w ++ 32 :: joinL (v :: l)
theorem join_split : ∀ s, joinL (splitL s) = s
 | [] => rfl
 | c :: r => by
   have ih := join_split r
   rw [splitL]
   split
   · rename_i e
     cases hs : splitL r with
     | nil => exact absurd hs (splitL_ne r)
     | cons w l =>
       rw [hs] at ih
       rw [joinL, ih, e]
       rfl
   · cases hs : splitL r with
     | nil => exact absurd hs (splitL_ne r)
     | cons w l =>
       rw [hs] at ih
       cases l with
       | nil => simp only [joinL] at ih ⊢; rw [ih]
       | cons v l => simp only [joinL, List.cons_append] at ih ⊢; rw [ih]
def lineC (c : UInt8) : Bool := decide (32 ≤ c.toNat) && decide (c.toNat ≤ 126)
def wordsL (s : List UInt8) : Option (List (List UInt8)) := if s = [] then some [] else if s.all lineC = false then none else if (splitL s).any (fun w => w.isEmpty) then none else some (splitL s)
structure WordOk (w : List UInt8) : Prop where
 ne : w ≠ []
 cs : ∀ c ∈ w, lineC c = true ∧ c ≠ 32
theorem split_join : ∀ l : List (List UInt8), l ≠ [] → (∀ w ∈ l, ∀ c ∈ w, c ≠ 32) → splitL (joinL l) = l
 | [], h, _ => absurd rfl h
 | [w], _, h => splitL_word w (h w (by simp))
 | w :: v :: l, _, h => by rw [joinL, splitL_app w _ (h w (by simp)), split_join (v :: l) (by simp) fun x hx => h x (by simp [hx])]
theorem join_all : ∀ l : List (List UInt8), (∀ w ∈ l, ∀ c ∈ w, lineC c = true) → (joinL l).all lineC = true
 | [], _ => rfl
 | [w], h => by rw [joinL, List.all_eq_true]; exact h w (by simp)
 | w :: v :: l, h => by
   rw [joinL, List.all_append, List.all_cons, join_all (v :: l) fun x hx => h x (by simp [hx]), List.all_eq_true.2 (h w (by simp))]
   rfl
theorem words_join {l : List (List UInt8)} (hne : l ≠ []) (h : ∀ w ∈ l, WordOk w) : wordsL (joinL l) = some l := by
 have hs := split_join l hne fun w hw c hc => ((h w hw).cs c hc).2
 have ha := join_all l fun w hw c hc => ((h w hw).cs c hc).1
 have hn : joinL l ≠ [] := by
   intro e
   rw [e] at hs
   have : l = [[]] := hs.symm
   subst this
   exact (h [] (by simp)).ne rfl
 unfold wordsL
 rw [if_neg hn, ha, if_neg (by decide), hs, if_neg]
 rw [List.any_eq_true]
 rintro ⟨w, hw, he⟩
 exact (h w hw).ne (by simpa using he)
theorem words_some {s : List UInt8} {l : List (List UInt8)} (h : wordsL s = some l) (hs : s ≠ []) : joinL l = s ∧ splitL s = l := by
 unfold wordsL at h
 rw [if_neg hs] at h
 split at h
 · cases h
 · split at h
   · cases h
   · injection h with h
     subst h
     exact ⟨join_split s, rfl⟩
end Go.Am
namespace Go.Am
def inW (n : Int) : Prop := -9223372036854775808 ≤ n ∧ n ≤ 9223372036854775807
structure NumOk (dec : Int → List UInt8) (num : List UInt8 → Option Int) : Prop where
 dn : ∀ n, inW n → num (dec n) = some n
 nd : ∀ b n, num b = some n → inW n ∧ dec n = b
 wd : ∀ n, inW n → WordOk (dec n)
 d0 : dec 0 = [48]
 d1 : dec 1 = [49]
section
variable {dec : Int → List UInt8} {num : List UInt8 → Option Int}
def idL (x : It) : List UInt8 := x.id.data.toList
def lineF (dec : Int → List UInt8) (x : It) : List UInt8 := joinL [idL x, dec x.rd, dec x.ed, dec x.tk, dec (bitI x.pt)]
def itemF (num : List UInt8 → Option Int) (s : List UInt8) : Option It := match wordsL s with
 | some [a, b, c, d, e] => if e = [48] ∨ e = [49] then match num b, num c, num d with
   | some rd, some ed, some tk => some ⟨⟨a.toArray⟩, rd, ed, tk, e == [49]⟩
   | _, _, _ => none
   else none
 | _ => none
structure ItOk (x : It) : Prop where
 id : WordOk (idL x)
 rd : inW x.rd
 ed : inW x.ed
 tk : inW x.tk
theorem bit_in (b : Bool) : inW (bitI b) := by cases b <;> exact ⟨by decide, by decide⟩
theorem item_line (N : NumOk dec num) {x : It} (h : ItOk x) : itemF num (lineF dec x) = some x := by
 have hw : wordsL (lineF dec x) = some [idL x, dec x.rd, dec x.ed, dec x.tk, dec (bitI x.pt)] := words_join (by simp) (by
   intro w hw
   simp only [List.mem_cons, List.not_mem_nil, or_false] at hw
   rcases hw with rfl | rfl | rfl | rfl | rfl
   · exact h.id
   · exact N.wd _ h.rd
   · exact N.wd _ h.ed
   · exact N.wd _ h.tk
   · exact N.wd _ (bit_in _))
 have hb : dec (bitI x.pt) = if x.pt then [49] else [48] := by cases x.pt <;> simp [bitI, N.d0, N.d1]
 unfold itemF
 rw [hw]
 simp only [N.dn _ h.rd, N.dn _ h.ed, N.dn _ h.tk, hb]
 obtain ⟨id, rd, ed, tk, pt⟩ := x
 cases pt <;> simp [idL]
def encF (dec : Int → List UInt8) (l : List It) : List UInt8 := l.flatMap fun x => lineF dec x ++ [10]
theorem cut_lt {s l r : List UInt8} (h : cutL s = some (l, r)) : r.length < s.length := by
 rw [(cutL_some s l r h).1]
 simp
 omega
def decF (num : List UInt8 → Option Int) (s : List UInt8) : Option (List It) := if s = [] then some [] else match h : cutL s with
 | none => none
 | some (l, r) => match itemF num l with
   | none => none
   | some x => (decF num r).map (x :: ·)
 termination_by s.length
 decreasing_by exact cut_lt h
theorem word_line {w : List UInt8} (h : WordOk w) : ∀ c ∈ w, c ≠ 10 := fun c hc e => by
 have := (h.cs c hc).1
 subst e
 simp [lineC] at this
theorem join_no10 : ∀ l : List (List UInt8), (∀ w ∈ l, ∀ c ∈ w, c ≠ 10) → ∀ c ∈ joinL l, c ≠ 10
 | [], _, c, hc => by cases hc
 | [w], h, c, hc => h w (by simp) c hc
 | w :: v :: l, h, c, hc => by
   rw [joinL, List.mem_append, List.mem_cons] at hc
   rcases hc with hc | rfl | hc
   · exact h w (by simp) c hc
   · decide
   · exact join_no10 (v :: l) (fun x hx => h x (by simp [hx])) c hc
theorem line_no10 (N : NumOk dec num) {x : It} (h : ItOk x) : ∀ c ∈ lineF dec x, c ≠ 10 := join_no10 _ (by
   intro w hw
   simp only [List.mem_cons, List.not_mem_nil, or_false] at hw
   rcases hw with rfl | rfl | rfl | rfl | rfl
   · exact word_line h.id
   · exact word_line (N.wd _ h.rd)
   · exact word_line (N.wd _ h.ed)
   · exact word_line (N.wd _ h.tk)
   · exact word_line (N.wd _ (bit_in _)))
theorem dec_enc (N : NumOk dec num) : ∀ l : List It, (∀ x ∈ l, ItOk x) → decF num (encF dec l) = some l
 | [], _ => by rw [decF]; simp [encF]
 | x :: l, h => by
   have hx := h x (by simp)
   have hc : cutL (encF dec (x :: l)) = some (lineF dec x, encF dec l) := by
     unfold encF
     rw [List.flatMap_cons, List.append_assoc]
     exact cutL_app _ _ (line_no10 N hx)
   rw [decF, if_neg (fun e => by rw [e] at hc; cases hc)]
   split
   · rename_i h1
     rw [hc] at h1
     cases h1
   · rename_i l' r' h1
     rw [hc] at h1
     cases h1
     rw [item_line N hx, dec_enc N l fun y hy => h y (by simp [hy])]
     rfl
end
end Go.Am
namespace Go.Am
end Go.Am
namespace Go.Am
structure Rn where
 name : ByteArray
 items : List It
def runL : List UInt8 := [114, 117, 110]
theorem run_word : WordOk runL := ⟨by decide, by decide⟩
section
variable {dec : Int → List UInt8} {num : List UInt8 → Option Int}
def encR (dec : Int → List UInt8) (r : Rn) : List UInt8 := joinL [runL, r.name.data.toList] ++ 10 :: encF dec r.items
def decR (num : List UInt8 → Option Int) (s : List UInt8) : Option Rn := match cutL s with
 | none => none
 | some (l, t) => match wordsL l with
   | some [w, n] => if w = runL then (decF num t).map fun items => ⟨⟨n.toArray⟩, items⟩ else none
   | _ => none
structure RnOk (r : Rn) : Prop where
 name : WordOk r.name.data.toList
 items : ∀ x ∈ r.items, ItOk x
theorem decR_enc (N : NumOk dec num) {r : Rn} (h : RnOk r) : decR num (encR dec r) = some r := by
 have hw : ∀ w ∈ [runL, r.name.data.toList], WordOk w := by
   intro w hw
   simp only [List.mem_cons, List.not_mem_nil, or_false] at hw
   rcases hw with rfl | rfl
   · exact run_word
   · exact h.name
 have hc : cutL (encR dec r) = some (joinL [runL, r.name.data.toList], encF dec r.items) := cutL_app _ _ (join_no10 _ fun w hm => word_line (hw w hm))
 unfold decR
 rw [hc]
 simp only [words_join (by simp) hw, if_true, dec_enc N r.items h.items, Option.map_some]
end
end Go.Am
namespace Go.Am
open Go.Proofs
attribute [local go_sem ↓] ofL_cons ofH_cons upd_apply
set_option maxHeartbeats 1000000
set_option linter.unusedSimpArgs false
instance : Inhabited It := ⟨⟨⟨#[]⟩, 0, 0, 0, false⟩⟩
instance : Inhabited Df := ⟨⟨⟨#[]⟩, 0, 0, 0⟩⟩
theorem it_iff (a b : It) : (a.id = b.id ∧ a.rd = b.rd ∧ a.ed = b.ed ∧ a.tk = b.tk ∧ a.pt = b.pt) ↔ a = b := by
 obtain ⟨a1, a2, a3, a4, a5⟩ := a
 obtain ⟨b1, b2, b3, b4, b5⟩ := b
 simp
theorem df_iff (a b : Df) : (a.id = b.id ∧ a.kind = b.kind ∧ a.old = b.old ∧ a.new = b.new) ↔ a = b := by
 obtain ⟨a1, a2, a3, a4⟩ := a
 obtain ⟨b1, b2, b3, b4⟩ := b
 simp
theorem rn_iff (a b : Rn) : (a.name = b.name ∧ a.items = b.items) ↔ a = b := by
 obtain ⟨a1, a2⟩ := a
 obtain ⟨b1, b2⟩ := b
 simp
instance : DecidableEq It := fun a b => decidable_of_iff _ (it_iff a b)
instance : DecidableEq Df := fun a b => decidable_of_iff _ (df_iff a b)
instance : DecidableEq Rn := fun a b => decidable_of_iff _ (rn_iff a b)
abbrev itC (x : It) : List CV := [.str x.id, .int x.rd, .int x.ed, .int x.tk, .bool x.pt]
abbrev itL (l : List It) : CV := .im 5 l.length fun i => (l.map itC).getD i []
abbrev rnC (r : Rn) : List CV := [.str r.name, itL r.items]
abbrev dfC (d : Df) : List CV := [.str d.id, .int d.kind, .int d.old, .int d.new]
abbrev dfR (l : List Df) : Nat → List CV := fun i => (l.map dfC).getD i []
abbrev dfL (l : List Df) : CV := .im 4 l.length (dfR l)
theorem itL_get {l : List It} {i : Nat} (h : i < l.length) : (l.map itC).getD i [] = itC (l.getD i default) := by
 rw [getD_lt (by simpa using h), getD_lt h, List.getElem_map]
theorem dfL_get {l : List Df} {i : Nat} (h : i < l.length) : (l.map dfC).getD i [] = dfC (l.getD i default) := by
 rw [getD_lt (by simpa using h), getD_lt h, List.getElem_map]
theorem str_beq (a b : ByteArray) : (a.toList == b.toList) = decide (a = b) := by
 rw [ByteArray.toList_eq, ByteArray.toList_eq]
 by_cases h : a = b
 · subst h; simp
 · rw [decide_eq_false h, beq_eq_false_iff_ne]
   intro e
   apply h
   apply ByteArray.ext
   exact Array.ext' e
theorem str_eq (a b : ByteArray) : (a.toList = b.toList) ↔ a = b := by
 have := str_beq a b
 constructor
 · intro h
   rw [h] at this
   simpa using this.symm
 · rintro rfl
   rfl
theorem lessT (a b : ByteArray) : Op.bytesLess a.toList b.toList = lessS a b := by
 unfold lessS
 rw [ByteArray.toList_eq, ByteArray.toList_eq]
theorem it_neq (x y : It) : AggBin Tryz.prog .neq 47 [.string x.id, .int .i64 x.rd, .int .i64 x.ed, .int .i64 x.tk, .bool x.pt] [.string y.id, .int .i64 y.rd, .int .i64 y.ed, .int .i64 y.tk, .bool y.pt] (.bool (!decide (x = y))) := by
 intro u z w
 have hm : Tryz.prog.eqGuardType Tryz.prog.depth 47 = false := by kernel_rfl
 have hp : Tryz.prog.stoodInHeld 47 = false := by kernel_rfl
 have hf : Tryz.prog.underlying 47 = some (.struct (Tryz.prog.fieldsOf 47)) := by kernel_rfl
 simp only [Sem.run_bind, run_eqGuard_agg w .neq 47 u z _ _ hm, Result.andThen_ok, run_neq_struct, run_equalIn_struct w 9999 47 _ _ hf hp]
 simp only [← it_iff]
 simp [go_sem, Tryz.underlying47, Tryz.underlying9]
 simp only [str_eq]
 repeat' split
 all_goals simp_all
theorem df_neq (x y : Df) : AggBin Tryz.prog .neq 45 [.string x.id, .int .i64 x.kind, .int .i64 x.old, .int .i64 x.new] [.string y.id, .int .i64 y.kind, .int .i64 y.old, .int .i64 y.new] (.bool (!decide (x = y))) := by
 intro u z w
 have hm : Tryz.prog.eqGuardType Tryz.prog.depth 45 = false := by kernel_rfl
 have hp : Tryz.prog.stoodInHeld 45 = false := by kernel_rfl
 have hf : Tryz.prog.underlying 45 = some (.struct (Tryz.prog.fieldsOf 45)) := by kernel_rfl
 simp only [Sem.run_bind, run_eqGuard_agg w .neq 45 u z _ _ hm, Result.andThen_ok, run_neq_struct, run_equalIn_struct w 9999 45 _ _ hf hp]
 simp only [← df_iff]
 simp [go_sem, Tryz.underlying45, Tryz.underlying9]
 simp only [str_eq]
 repeat' split
 all_goals simp_all
end Go.Am
namespace Go.Am
open Go.Proofs Go.RowKit
set_option maxHeartbeats 1000000
set_option maxRecDepth 100000
theorem Tryz.sizeBuilder : (Tryz.prog.info? 85).map (·.size) = some 2 := by kernel_rfl
theorem Tryz.liesBuilder : liesAt Tryz.prog Tryz.prog.depth 85 (2 / Tryz.prog.cellsOf 85) 0 85 1 = true := by kernel_rfl
theorem Tryz.undPB : Tryz.prog.underlying 82 = some (.pointer 85) := by kernel_rfl
theorem Tryz.undUP : Tryz.prog.underlying 222 = some .unsafePointer := by kernel_rfl
theorem copyCheck_used (b : Nat) (w : World) (h0 : w.cell? ⟨b, 0, none⟩ = some (.pointer (some ⟨b, 0, none⟩))) :
   Calls Tryz.prog 67 #[.pointer (some ⟨b, 0, none⟩)] w fun e w' => e = .returned (.tuple #[]) ∧ w' = w := by
 obtain ⟨j, hj, _⟩ := Option.map_eq_some_iff.1 Tryz.sizeBuilder
 go_enter Tryz.func67, Tryz.ntmps67
 go_wp2
 rw [Lib.run_neq_ptr_same w _ Tryz.undPB hj]
 go_wp2
 go_end0
 exact ⟨rfl, rfl⟩
theorem copyCheck_fresh (b : Nat) (w : World) (h0 : w.cell? ⟨b, 0, none⟩ = some (.pointer none)) (hsh : w.shape? b = some (85, 2)) (hfz : w.frozen? ⟨b, 0, none⟩ = false) :
   Calls Tryz.prog 67 #[.pointer (some ⟨b, 0, none⟩)] w fun e w' => e = .returned (.tuple #[]) ∧ w' = w.setCell ⟨b, 0, none⟩ (.pointer (some ⟨b, 0, none⟩)) := by
 obtain ⟨j, hj, hjs⟩ := Option.map_eq_some_iff.1 Tryz.sizeBuilder
 go_enter Tryz.func67, Tryz.ntmps67
 go_wp2
 rw [Lib.run_to_unsafe w ⟨b, 0, none⟩ Tryz.undPB Tryz.undUP hj (by rw [hjs]; decide) hsh (Nat.zero_lt_succ 1)]
 simp only [Result.andThen]
 rw [Oper.upon_value]
 go_wp2
 rw [run_callFunc_extern Tryz.func103 (by kernel_rfl) (by kernel_rfl) (by kernel_rfl) (e := Extern.AbiNoEscape.same) (by kernel_rfl)]
 rw [Lib.run_noEscape]
 simp only [Result.andThen]
 rw [Oper.upon_value]
 go_wp2
 rw [Lib.run_from_unsafe w ⟨b, 0, none⟩ Tryz.undUP Tryz.undPB hj hsh Tryz.liesBuilder]
 simp only [Result.andThen]
 rw [Oper.upon_value]
 go_wp2
 go_end0
 exact ⟨rfl, rfl⟩
theorem copyCheck_ok [Glb] {h : AH} {c0 c1 : AV} (h0 : h 0 = .box 85 [c0, c1]) (hc : c0 = .c (.raw (.pointer none)) ∨ c0 = .ptr 0 0) :
   AFun Tryz.prog 67 [.ptr 0 0] h fun out h' => out = .ret (.c (.tup [])) ∧ h' = upd h 0 (.box 85 [.ptr 0 0, c1]) :=
 afun_copyCheck ⟨_, Tryz.func67, by kernel_rfl, rfl⟩ copyCheck_used copyCheck_fresh h0 hc
end Go.Am
namespace Go.Am
open Go.Proofs
attribute [local go_sem ↓] ofL_cons ofH_cons upd_apply
set_option maxHeartbeats 2000000
set_option linter.unusedSimpArgs false
def bldP (u : Bool) : AV := if u then .ptr 0 0 else .c (.raw (.pointer none))
def bldH (u : Bool) (n : Nat) (f : Nat → List CV) : AH := ofH [(0, .box 85 [bldP u, .own 1 n]), (1, .row 5 1 n f)]
theorem bld_foot (u : Bool) (n : Nat) (f : Nat → List CV) : Foot [0, 1] (bldH u n f) := by
 refine ⟨fun k hk => ?_, fun k hk ty cells e x hx k' hk' => ?_, fun k hk k' hk' => ?_⟩
 · simp only [List.mem_cons, List.not_mem_nil, or_false, not_or] at hk
   simp [bldH, ofH_cons, ofH_nil, hk]
 · simp only [List.mem_cons, List.not_mem_nil, or_false] at hk
   rcases hk with rfl | rfl
   · simp only [bldH, ofH_cons, reduceIte, AObj.box.injEq] at e
     obtain ⟨rfl, rfl⟩ := e
     cases u <;> simp [bldP] at hx <;> rcases hx with rfl | rfl <;> simp [AV.refsw, AV.ref1w] at hk' <;> simp [hk']
   · simp [bldH, ofH_cons] at e
 · simp only [List.mem_cons, List.not_mem_nil, or_false] at hk
   rcases hk with rfl | rfl <;> simp [bldH, ofH_cons, AObj.refsM] at hk'
def bldB (u : Bool) (b : ByteArray) : AH := bldH u b.size (strRow b)
theorem strCells_app (a b : ByteArray) : Lib.strCells (a ++ b) = Lib.strCells a ++ Lib.strCells b := by simp [Lib.strCells]
theorem strRow_app_lt {a b : ByteArray} {i : Nat} (h : i < a.size) : strRow (a ++ b) i = strRow a i := by
 unfold strRow
 rw [strCells_app, List.getD_eq_getElem?_getD, List.getElem?_append_left (by rw [Lib.strCells_length]; exact h), ← List.getD_eq_getElem?_getD]
theorem strRow_app_ge {a b : ByteArray} {i : Nat} (h : ¬ i < a.size) : strRow (a ++ b) i = strRow b (i - a.size) := by
 unfold strRow
 rw [strCells_app, List.getD_eq_getElem?_getD, List.getElem?_append_right (by rw [Lib.strCells_length]; omega), Lib.strCells_length, ← List.getD_eq_getElem?_getD]
theorem app_row (a b : ByteArray) {t : TypeId} : objLe (.row t 1 (a.size + b.size) (fun q => if q < a.size then strRow a q else strRow b (q - a.size))) (.row t 1 (a ++ b).size (strRow (a ++ b))) := by
 refine objLe_rown (by rw [ByteArray.size_append]) fun i hi => ?_
 by_cases h : i < a.size
 · rw [if_pos h, strRow_app_lt h]
 · rw [if_neg h, strRow_app_ge h]
variable [Glb]
theorem copyCheck_bld (u : Bool) (n : Nat) (f : Nat → List CV) : AFun Tryz.prog 67 [.ptr 0 0] (bldH u n f) fun out h' => out = .ret (.c (.tup [])) ∧ h' = bldH true n f := by
 refine (copyCheck_ok (h := bldH u n f) (c0 := bldP u) (c1 := .own 1 n) rfl (by cases u <;> simp [bldP])).mono fun out h' q => ⟨q.1, q.2.trans ?_⟩
 funext i
 simp only [bldH, upd_apply, ofH_cons, bldP]
 split <;> simp
theorem wStr_ok (u : Bool) (a b : ByteArray) (hn : a.size ≤ 1000000000) (hb : b.size ≤ 1000000000) :
   AFun Tryz.prog 38 [.ptr 0 0, .c (.raw (.string b))] (bldB u a) fun out h' => out = .ret (.c (.tup [.raw (.int .i64 b.size), .raw .nilIface])) ∧ h' = bldB true (a ++ b) := by
 refine afun_of Tryz.func38 rfl (by kernel_rfl) (by simp [Tryz.ntmps38]) (fo := [0, 1]) (fun o ho => ?_) ?_
 · exact Classical.byContradiction fun hm => ho ((bld_foot u a.size (strRow a)).out o hm)
 have FF : True := trivial
 rw [Tryz.ntmps38]
 refine m_cut [(0, .ptr 0 0), (1, .c (.raw (.string b)))] [(0, .box 85 [bldP u, .own 1 a.size]), (1, .row 5 1 a.size (strRow a))] (h2 := by cases u <;> rfl) ?_
 refine awp_rseq (by decide) fun KK hKK => ?_
 refine m_assign ?_
 refine m_assign ?_
 refine hKK _ _ ?_
 clear hKK KK
 refine awp_seqL ?_
 refine awpl_op (by rfl) (by rfl) ?_
 refine m_move ?_
 refine run_nil ?_
 refine awpl_callI [0, 1] ((copyCheck_bld u a.size (strRow a)).mono fun out h1 q => CallI.of_eq q (by simp [AV.refsw, AV.ref1w]) (bld_foot true a.size (strRow a)) ?_) (by rfl) (by simp only [List.map, go_sem, reduceIte, Nat.reduceEqDiff, FF] <;> rfl) (bld_foot u a.size (strRow a)) (by simp only [List.forall_mem_cons, List.forall_mem_nil, go_sem, reduceIte, Nat.reduceEqDiff, FF]; all_goals ((repeat' apply And.intro) <;> first | trivial | rfl)) (by simp [AV.refsw, AV.ref1w, AV.ref0])
 refine awpl_end ?_
 rw [thenQ_normal]
 refine m_cut [(0, .ptr 0 0), (1, .c (.raw (.string b)))] [(0, .box 85 [.ptr 0 0, .own 1 a.size]), (1, .row 5 1 a.size (strRow a))] ?_
 refine awp_seqL ?_
 refine awpl_op (by rfl) (by rfl) ?_
 refine m_move ?_
 refine run_nil ?_
 refine awpl_op (by rfl) (by rfl) ?_
 refine m_move ?_
 refine run_nil ?_
 refine awpl_op (by rfl) (by rfl) ?_
 refine m_nil ?_
 refine run_nil ?_
 refine awpl_op (by rfl) (by rfl) ?_
 refine m_field ?_
 refine run_nil ?_
 refine awpl_op (by rfl) (by rfl) ?_
 refine m_load ?_
 refine run_nil ?_
 refine awpl_op (by rfl) (by rfl) ?_
 refine m_move ?_
 refine run_nil ?_
 refine awpl_appStr ?_ (by simp only [go_sem, reduceIte, Nat.reduceEqDiff, FF] <;> rfl) (by simp only [go_sem, reduceIte, Nat.reduceEqDiff, FF] <;> rfl) (by simp only [go_sem, reduceIte, Nat.reduceEqDiff, FF] <;> rfl) (by simp only [go_sem] <;> rfl) (by rfl) (by simp only [go_sem] <;> rfl) (by rfl) (by rfl) (by rfl) (by rfl) (by simp only [go_sem] <;> rfl) (by simp only [maxLen]; omega) (by dsimp only; omega) (by rfl)
 dsimp only [updO]
 refine awpl_op (by rfl) (by rfl) ?_
 refine m_nil ?_
 refine run_nil ?_
 refine awpl_op (by rfl) (by rfl) ?_
 refine m_field ?_
 refine run_nil ?_
 refine awpl_op (by rfl) (by rfl) ?_
 first | refine m_stPtr ?_ | refine m_stRp ?_
 refine run_nil ?_
 refine awpl_end ?_
 rw [thenQ_normal]
 refine m_cutH [(0, .ptr 0 0), (1, .c (.raw (.string b)))] [(0, .box 85 [.ptr 0 0, .own 1 (a ++ b).size]), (1, .row 5 1 (a ++ b).size (strRow (a ++ b)))] ?_ ?_
 · refine List.forall_mem_cons.2 ⟨?_, List.forall_mem_cons.2 ⟨?_, List.forall_mem_nil _⟩⟩
   · exact objLe_of (by rw [ByteArray.size_append]; rfl)
   · exact app_row a b
 refine awp_rseq (by decide) fun KK hKK => ?_
 refine m_move ?_
 refine m_len ?_
 refine m_assign ?_
 refine m_assign ?_
 refine hKK _ _ ?_
 clear hKK KK
 refine m_cut [(4, .c (.raw (.int .i64 b.size))), (5, .c (.raw .nilIface))] [(0, .box 85 [.ptr 0 0, .own 1 (a ++ b).size]), (1, .row 5 1 (a ++ b).size (strRow (a ++ b)))] ?_
 refine awp_ret ⟨rfl, [.c (.raw (.int .i64 b.size)), .c (.raw .nilIface)], ⟨⟨rfl, rfl⟩, ⟨rfl, rfl⟩, trivial⟩, .inl ⟨.tup [.raw (.int .i64 b.size), .raw .nilIface], by simp [AV.refsw, AV.ref1w], CV.Sub.refl _, rfl, keepH_eq (l := [(0, .box 85 [.ptr 0 0, .own 1 (a ++ b).size]), (1, .row 5 1 (a ++ b).size (strRow (a ++ b)))]) ?_⟩⟩
 intro p hp
 simp only [List.mem_cons, List.not_mem_nil, or_false] at hp
 rcases hp with rfl | rfl <;> rfl
end Go.Am
namespace Go.Proofs
open Go.Shelf
def Tryz.lays160_ren : Go.Shelf.Ren := ⟨fun | 160 => 108 | 232 => 208 | 231 => 207 | 227 => 209 | 234 => 211 | 233 => 210 | 236 => 213 | 235 => 212 | 228 => 323 | 271 => 325 | 151 => 324 | 197 => 319 | 120 => 431 | 152 => 430 | 260 => 426 | 137 => 43 | 119 => 512 | 224 => 428 | 225 => 427 | 217 => 69 | 266 => 105 | n => n, fun | 9 => 9 | 4 => 4 | 3 => 3 | 5 => 5 | 117 => 350 | 116 => 349 | 0 => 0 | 124 => 353 | 21 => 21 | 105 => 444 | 46 => 198 | 119 => 613 | 139 => 616 | 138 => 615 | n => n, fun | 3 => 5 | 4 => 6 | n => n⟩
theorem Tryz.lays160 : Go.Proofs.Lays.n160 Tryz.prog Tryz.lays160_ren := {
 mixed := by kernel_rfl
 f119 := Tryz.func512.trans (congrArg some (by kernel_rfl))
 f120 := Tryz.func431.trans (congrArg some (by kernel_rfl))
 f137 := Tryz.func43.trans (congrArg some (by kernel_rfl))
 f151 := Tryz.func324.trans (congrArg some (by kernel_rfl))
 f152 := Tryz.func430.trans (congrArg some (by kernel_rfl))
 f160 := Tryz.func108.trans (congrArg some (by kernel_rfl))
 f197 := Tryz.func319.trans (congrArg some (by kernel_rfl))
 f217 := Tryz.func69.trans (congrArg some (by kernel_rfl))
 f224 := Tryz.func428.trans (congrArg some (by kernel_rfl))
 f225 := Tryz.func427.trans (congrArg some (by kernel_rfl))
 f227 := Tryz.func209.trans (congrArg some (by kernel_rfl))
 f228 := Tryz.func323.trans (congrArg some (by kernel_rfl))
 f231 := Tryz.func207.trans (congrArg some (by kernel_rfl))
 f232 := Tryz.func208.trans (congrArg some (by kernel_rfl))
 f233 := Tryz.func210.trans (congrArg some (by kernel_rfl))
 f234 := Tryz.func211.trans (congrArg some (by kernel_rfl))
 f235 := Tryz.func212.trans (congrArg some (by kernel_rfl))
 f236 := Tryz.func213.trans (congrArg some (by kernel_rfl))
 f260 := Tryz.func426.trans (congrArg some (by kernel_rfl))
 f266 := Tryz.func105.trans (congrArg some (by kernel_rfl))
 f271 := Tryz.func325.trans (congrArg some (by kernel_rfl))
 t0 := Tryz.underlying0
 a0 := Tryz.isAgg0
 z0 := Tryz.sizeOf0
 v0 := Tryz.zeroValue0
 t3 := Tryz.underlying3
 a3 := Tryz.isAgg3
 z3 := Tryz.sizeOf3
 v3 := Tryz.zeroValue3
 t4 := Tryz.underlying4
 a4 := Tryz.isAgg4
 z4 := Tryz.sizeOf4
 v4 := Tryz.zeroValue4
 t5 := Tryz.underlying5
 a5 := Tryz.isAgg5
 z5 := Tryz.sizeOf5
 v5 := Tryz.zeroValue5
 t9 := Tryz.underlying9
 a9 := Tryz.isAgg9
 z9 := Tryz.sizeOf9
 v9 := Tryz.zeroValue9
 t21 := Tryz.underlying21
 a21 := Tryz.isAgg21
 z21 := Tryz.sizeOf21
 v21 := Tryz.zeroValue21
 t46 := Tryz.underlying198
 a46 := Tryz.isAgg198
 z46 := Tryz.sizeOf198
 v46 := Tryz.zeroValue198
 t105 := Tryz.underlying444
 a105 := Tryz.isAgg444
 z105 := Tryz.sizeOf444
 v105 := Tryz.zeroValue444
 t116 := Tryz.underlying349
 a116 := Tryz.isAgg349
 z116 := Tryz.sizeOf349
 t117 := Tryz.underlying350
 a117 := Tryz.isAgg350
 z117 := Tryz.sizeOf350
 v117 := Tryz.zeroValue350
 t119 := Tryz.underlying613
 a119 := Tryz.isAgg613
 z119 := Tryz.sizeOf613
 t124 := Tryz.underlying353
 a124 := Tryz.isAgg353
 z124 := Tryz.sizeOf353
 v124 := Tryz.zeroValue353
 t138 := Tryz.underlying615
 a138 := Tryz.isAgg615
 z138 := Tryz.sizeOf615
 v138 := Tryz.zeroValue615
 t139 := Tryz.underlying616
 a139 := Tryz.isAgg616
 z139 := Tryz.sizeOf616
 v139 := Tryz.zeroValue616
 g3 := by kernel_rfl
 g4 := by kernel_rfl }
def Tryz.lays137_ren : Go.Shelf.Ren := ⟨fun | 137 => 43 | 217 => 69 | 266 => 105 | n => n, fun | 9 => 9 | 5 => 5 | 3 => 3 | n => n, fun | n => n⟩
theorem Tryz.lays137 : Go.Proofs.Lays.n137 Tryz.prog Tryz.lays137_ren := {
 mixed := by kernel_rfl
 f137 := Tryz.func43.trans (congrArg some (by kernel_rfl))
 f217 := Tryz.func69.trans (congrArg some (by kernel_rfl))
 f266 := Tryz.func105.trans (congrArg some (by kernel_rfl))
 t3 := Tryz.underlying3
 a3 := Tryz.isAgg3
 z3 := Tryz.sizeOf3
 v3 := Tryz.zeroValue3
 t5 := Tryz.underlying5
 a5 := Tryz.isAgg5
 z5 := Tryz.sizeOf5
 v5 := Tryz.zeroValue5
 t9 := Tryz.underlying9
 a9 := Tryz.isAgg9
 z9 := Tryz.sizeOf9
 v9 := Tryz.zeroValue9 }
open Go.RowKit in
theorem Tryz.strings_IndexByte (s : ByteArray) (c : Int) (w : World) :
   Calls Tryz.prog 43 #[.string s, .int .u8 c] w fun e w' => e = .returned (.int .i64 (Lib.indexByte s.data.toList c.toNat.toUInt8)) ∧ w' = w := Any.strings_IndexByte Tryz.lays137 s c w
def Tryz.laysM171_ren : Go.Shelf.Ren := ⟨fun | 171 => 68 | 243 => 104 | 246 => 202 | 283 => 314 | 284 => 315 | 285 => 316 | 286 => 317 | 129 => 162 | 317 => 422 | 318 => 423 | 319 => 424 | 320 => 425 | 337 => 510 | 338 => 233 | n => n, fun | 3 => 3 | 9 => 9 | 2 => 2 | 4 => 4 | 171 => 439 | 0 => 0 | 53 => 71 | 37 => 83 | 5 => 5 | 173 => 441 | 212 => 544 | 51 => 297 | 20 => 20 | 213 => 545 | 46 => 198 | 232 => 649 | 233 => 471 | n => n, fun | 17 => 2 | 18 => 7 | 19 => 1 | n => n⟩
theorem Tryz.laysM171 : Go.Proofs.LaysM.n171 Tryz.prog Tryz.laysM171_ren := {
 mixed := by kernel_rfl
 f129 := Tryz.func162.trans (congrArg some (by kernel_rfl))
 f171 := Tryz.func68.trans (congrArg some (by kernel_rfl))
 f243 := Tryz.func104.trans (congrArg some (by kernel_rfl))
 f246 := Tryz.func202.trans (congrArg some (by kernel_rfl))
 f283 := Tryz.func314.trans (congrArg some (by kernel_rfl))
 f284 := Tryz.func315.trans (congrArg some (by kernel_rfl))
 f285 := Tryz.func316.trans (congrArg some (by kernel_rfl))
 f286 := Tryz.func317.trans (congrArg some (by kernel_rfl))
 f317 := Tryz.func422.trans (congrArg some (by kernel_rfl))
 f318 := Tryz.func423.trans (congrArg some (by kernel_rfl))
 f319 := Tryz.func424.trans (congrArg some (by kernel_rfl))
 f320 := Tryz.func425.trans (congrArg some (by kernel_rfl))
 f337 := Tryz.func510.trans (congrArg some (by kernel_rfl))
 f338 := Tryz.func233.trans (congrArg some (by kernel_rfl))
 t0 := Tryz.underlying0
 a0 := Tryz.isAgg0
 z0 := Tryz.sizeOf0
 v0 := Tryz.zeroValue0
 t2 := Tryz.underlying2
 a2 := Tryz.isAgg2
 z2 := Tryz.sizeOf2
 v2 := Tryz.zeroValue2
 t3 := Tryz.underlying3
 a3 := Tryz.isAgg3
 z3 := Tryz.sizeOf3
 v3 := Tryz.zeroValue3
 t4 := Tryz.underlying4
 a4 := Tryz.isAgg4
 z4 := Tryz.sizeOf4
 v4 := Tryz.zeroValue4
 t5 := Tryz.underlying5
 a5 := Tryz.isAgg5
 z5 := Tryz.sizeOf5
 v5 := Tryz.zeroValue5
 t9 := Tryz.underlying9
 a9 := Tryz.isAgg9
 z9 := Tryz.sizeOf9
 v9 := Tryz.zeroValue9
 t20 := Tryz.underlying20
 a20 := Tryz.isAgg20
 z20 := Tryz.sizeOf20
 v20 := Tryz.zeroValue20
 t37 := Tryz.underlying83
 a37 := Tryz.isAgg83
 z37 := Tryz.sizeOf83
 v37 := Tryz.zeroValue83
 t46 := Tryz.underlying198
 a46 := Tryz.isAgg198
 z46 := Tryz.sizeOf198
 v46 := Tryz.zeroValue198
 t51 := Tryz.underlying297
 a51 := Tryz.isAgg297
 z51 := Tryz.sizeOf297
 v51 := Tryz.zeroValue297
 t53 := Tryz.underlying71
 a53 := Tryz.isAgg71
 z53 := Tryz.sizeOf71
 v53 := Tryz.zeroValue71
 t171 := Tryz.underlying439
 a171 := Tryz.isAgg439
 z171 := Tryz.sizeOf439
 v171 := Tryz.zeroValue439
 t173 := Tryz.underlying441
 a173 := Tryz.isAgg441
 z173 := Tryz.sizeOf441
 v173 := Tryz.zeroValue441
 t212 := Tryz.underlying544
 a212 := Tryz.isAgg544
 z212 := Tryz.sizeOf544
 v212 := Tryz.zeroValue544
 t213 := Tryz.underlying545
 a213 := Tryz.isAgg545
 z213 := Tryz.sizeOf545
 t232 := Tryz.underlying649
 a232 := Tryz.isAgg649
 z232 := Tryz.sizeOf649
 v232 := Tryz.zeroValue649
 t233 := Tryz.underlying471
 a233 := Tryz.isAgg471
 z233 := Tryz.sizeOf471
 v233 := Tryz.zeroValue471
 g17 := by kernel_rfl
 g18 := by kernel_rfl
 g19 := by kernel_rfl
 i0 := by kernel_rfl
 i2 := by kernel_rfl
 i3 := by kernel_rfl
 i4 := by kernel_rfl
 i5 := by kernel_rfl
 i9 := by kernel_rfl
 i20 := by kernel_rfl
 i37 := by kernel_rfl
 i46 := by kernel_rfl
 i51 := by kernel_rfl
 i53 := by kernel_rfl
 i171 := by kernel_rfl
 i173 := by kernel_rfl
 i212 := by kernel_rfl
 i232 := by kernel_rfl
 i233 := by kernel_rfl
 m17 := by kernel_rfl
 m18 := by kernel_rfl
 m19 := by kernel_rfl }
open Go.RowKit Go.Sort Go.Lib in
theorem Tryz.strconv_Itoa (n : Int) (h0 : -9223372036854775808 ≤ n) (h1 : n ≤ 9223372036854775807) (w : World) (htab : Lib.TabIs Tryz.prog w "internal/strconv.uint64pow10" .u64 Lib.pow10Tab) :
   Calls Tryz.prog 68 #[.int .i64 n] w fun e w' => e = .returned (.string ⟨(Lib.itoa n).toArray⟩) ∧ ∃ k os, w' = grow (w.drewN k) os := Any.strconv_Itoa Tryz.laysM171 n h0 h1 w htab
def Tryz.laysC172_ren : Go.Shelf.Ren := ⟨fun | 172 => 109 | 244 => 214 | 245 => 215 | 247 => 326 | 279 => 327 | 280 => 328 | 281 => 329 | 282 => 330 | 287 => 432 | 316 => 433 | 171 => 68 | 205 => 434 | 321 => 513 | 322 => 514 | 243 => 104 | 246 => 202 | 283 => 314 | 284 => 315 | 285 => 316 | 286 => 317 | 129 => 162 | 317 => 422 | 318 => 423 | 319 => 424 | 320 => 425 | 337 => 510 | 338 => 233 | n => n, fun | 9 => 9 | 3 => 3 | 75 => 87 | 76 => 88 | 4 => 4 | 5 => 5 | 167 => 448 | 37 => 83 | 0 => 0 | 85 => 449 | 2 => 2 | 168 => 451 | 53 => 71 | 175 => 547 | 46 => 198 | 210 => 551 | 127 => 154 | 145 => 622 | 143 => 620 | 21 => 21 | 171 => 439 | 173 => 441 | 212 => 544 | 51 => 297 | 20 => 20 | 213 => 545 | 232 => 649 | 233 => 471 | 80 => 91 | n => n, fun | 15 => 3 | 16 => 4 | 17 => 2 | 18 => 7 | 19 => 1 | n => n⟩
theorem Tryz.laysC172 : Go.Proofs.LaysC.n172 Tryz.prog Tryz.laysC172_ren := {
 mixed := by kernel_rfl
 f129 := Tryz.func162.trans (congrArg some (by kernel_rfl))
 f171 := Tryz.func68.trans (congrArg some (by kernel_rfl))
 f172 := Tryz.func109.trans (congrArg some (by kernel_rfl))
 f205 := Tryz.func434.trans (congrArg some (by kernel_rfl))
 f243 := Tryz.func104.trans (congrArg some (by kernel_rfl))
 f244 := Tryz.func214.trans (congrArg some (by kernel_rfl))
 f245 := Tryz.func215.trans (congrArg some (by kernel_rfl))
 f246 := Tryz.func202.trans (congrArg some (by kernel_rfl))
 f247 := Tryz.func326.trans (congrArg some (by kernel_rfl))
 f279 := Tryz.func327.trans (congrArg some (by kernel_rfl))
 f280 := Tryz.func328.trans (congrArg some (by kernel_rfl))
 f281 := Tryz.func329.trans (congrArg some (by kernel_rfl))
 f282 := Tryz.func330.trans (congrArg some (by kernel_rfl))
 f283 := Tryz.func314.trans (congrArg some (by kernel_rfl))
 f284 := Tryz.func315.trans (congrArg some (by kernel_rfl))
 f285 := Tryz.func316.trans (congrArg some (by kernel_rfl))
 f286 := Tryz.func317.trans (congrArg some (by kernel_rfl))
 f287 := Tryz.func432.trans (congrArg some (by kernel_rfl))
 f316 := Tryz.func433.trans (congrArg some (by kernel_rfl))
 f317 := Tryz.func422.trans (congrArg some (by kernel_rfl))
 f318 := Tryz.func423.trans (congrArg some (by kernel_rfl))
 f319 := Tryz.func424.trans (congrArg some (by kernel_rfl))
 f320 := Tryz.func425.trans (congrArg some (by kernel_rfl))
 f321 := Tryz.func513.trans (congrArg some (by kernel_rfl))
 f322 := Tryz.func514.trans (congrArg some (by kernel_rfl))
 f337 := Tryz.func510.trans (congrArg some (by kernel_rfl))
 f338 := Tryz.func233.trans (congrArg some (by kernel_rfl))
 t0 := Tryz.underlying0
 a0 := Tryz.isAgg0
 z0 := Tryz.sizeOf0
 v0 := Tryz.zeroValue0
 t2 := Tryz.underlying2
 a2 := Tryz.isAgg2
 z2 := Tryz.sizeOf2
 v2 := Tryz.zeroValue2
 t3 := Tryz.underlying3
 a3 := Tryz.isAgg3
 z3 := Tryz.sizeOf3
 v3 := Tryz.zeroValue3
 t4 := Tryz.underlying4
 a4 := Tryz.isAgg4
 z4 := Tryz.sizeOf4
 v4 := Tryz.zeroValue4
 t5 := Tryz.underlying5
 a5 := Tryz.isAgg5
 z5 := Tryz.sizeOf5
 v5 := Tryz.zeroValue5
 t9 := Tryz.underlying9
 a9 := Tryz.isAgg9
 z9 := Tryz.sizeOf9
 v9 := Tryz.zeroValue9
 t20 := Tryz.underlying20
 a20 := Tryz.isAgg20
 z20 := Tryz.sizeOf20
 v20 := Tryz.zeroValue20
 t21 := Tryz.underlying21
 a21 := Tryz.isAgg21
 z21 := Tryz.sizeOf21
 v21 := Tryz.zeroValue21
 t37 := Tryz.underlying83
 a37 := Tryz.isAgg83
 z37 := Tryz.sizeOf83
 v37 := Tryz.zeroValue83
 t46 := Tryz.underlying198
 a46 := Tryz.isAgg198
 z46 := Tryz.sizeOf198
 v46 := Tryz.zeroValue198
 t51 := Tryz.underlying297
 a51 := Tryz.isAgg297
 z51 := Tryz.sizeOf297
 v51 := Tryz.zeroValue297
 t53 := Tryz.underlying71
 a53 := Tryz.isAgg71
 z53 := Tryz.sizeOf71
 v53 := Tryz.zeroValue71
 t75 := Tryz.underlying87
 a75 := Tryz.isAgg87
 z75 := Tryz.sizeOf87
 v75 := Tryz.zeroValue87
 t76 := Tryz.underlying88
 a76 := Tryz.isAgg88
 z76 := Tryz.sizeOf88
 v76 := Tryz.zeroValue88
 t85 := Tryz.underlying449
 a85 := Tryz.isAgg449
 z85 := Tryz.sizeOf449
 v85 := Tryz.zeroValue449
 t127 := Tryz.underlying154
 a127 := Tryz.isAgg154
 z127 := Tryz.sizeOf154
 v127 := Tryz.zeroValue154
 t143 := Tryz.underlying620
 a143 := Tryz.isAgg620
 z143 := Tryz.sizeOf620
 v143 := Tryz.zeroValue620
 t145 := Tryz.underlying622
 a145 := Tryz.isAgg622
 z145 := Tryz.sizeOf622
 v145 := Tryz.zeroValue622
 t167 := Tryz.underlying448
 a167 := Tryz.isAgg448
 z167 := Tryz.sizeOf448
 v167 := Tryz.zeroValue448
 t168 := Tryz.underlying451
 a168 := Tryz.isAgg451
 z168 := Tryz.sizeOf451
 v168 := Tryz.zeroValue451
 t171 := Tryz.underlying439
 a171 := Tryz.isAgg439
 z171 := Tryz.sizeOf439
 v171 := Tryz.zeroValue439
 t173 := Tryz.underlying441
 a173 := Tryz.isAgg441
 z173 := Tryz.sizeOf441
 v173 := Tryz.zeroValue441
 t175 := Tryz.underlying547
 a175 := Tryz.isAgg547
 z175 := Tryz.sizeOf547
 v175 := Tryz.zeroValue547
 t210 := Tryz.underlying551
 a210 := Tryz.isAgg551
 z210 := Tryz.sizeOf551
 v210 := Tryz.zeroValue551
 t212 := Tryz.underlying544
 a212 := Tryz.isAgg544
 z212 := Tryz.sizeOf544
 v212 := Tryz.zeroValue544
 t213 := Tryz.underlying545
 a213 := Tryz.isAgg545
 z213 := Tryz.sizeOf545
 t232 := Tryz.underlying649
 a232 := Tryz.isAgg649
 z232 := Tryz.sizeOf649
 v232 := Tryz.zeroValue649
 t233 := Tryz.underlying471
 a233 := Tryz.isAgg471
 z233 := Tryz.sizeOf471
 v233 := Tryz.zeroValue471
 g15 := by kernel_rfl
 g16 := by kernel_rfl
 g17 := by kernel_rfl
 g18 := by kernel_rfl
 g19 := by kernel_rfl
 t80 := Tryz.underlying91
 a80 := Tryz.isAgg91
 z80 := Tryz.sizeOf91
 v80 := Tryz.zeroValue91
 i0 := by kernel_rfl
 i2 := by kernel_rfl
 i3 := by kernel_rfl
 i4 := by kernel_rfl
 i5 := by kernel_rfl
 i9 := by kernel_rfl
 i20 := by kernel_rfl
 i21 := by kernel_rfl
 i37 := by kernel_rfl
 i46 := by kernel_rfl
 i51 := by kernel_rfl
 i53 := by kernel_rfl
 i75 := by kernel_rfl
 i76 := by kernel_rfl
 i80 := by kernel_rfl
 i85 := by kernel_rfl
 i127 := by kernel_rfl
 i143 := by kernel_rfl
 i145 := by kernel_rfl
 i167 := by kernel_rfl
 i168 := by kernel_rfl
 i171 := by kernel_rfl
 i173 := by kernel_rfl
 i175 := by kernel_rfl
 i210 := by kernel_rfl
 i212 := by kernel_rfl
 i232 := by kernel_rfl
 i233 := by kernel_rfl
 m15 := by kernel_rfl
 m16 := by kernel_rfl
 m17 := by kernel_rfl
 m18 := by kernel_rfl
 m19 := by kernel_rfl
 c0 := by kernel_rfl
 c2 := by kernel_rfl
 c3 := by kernel_rfl
 c4 := by kernel_rfl
 c5 := by kernel_rfl
 c9 := by kernel_rfl
 c20 := by kernel_rfl
 c21 := by kernel_rfl
 c37 := by kernel_rfl
 c46 := by kernel_rfl
 c51 := by kernel_rfl
 c53 := by kernel_rfl
 c75 := by kernel_rfl
 c76 := by kernel_rfl
 c80 := by kernel_rfl
 c85 := by kernel_rfl
 c127 := by kernel_rfl
 c143 := by kernel_rfl
 c145 := by kernel_rfl
 c167 := by kernel_rfl
 c168 := by kernel_rfl
 c171 := by kernel_rfl
 c173 := by kernel_rfl
 c175 := by kernel_rfl
 c210 := by kernel_rfl
 c212 := by kernel_rfl
 c213 := by kernel_rfl
 c232 := by kernel_rfl
 c233 := by kernel_rfl }
open Go.RowKit in
theorem Tryz.strconv_Atoi_ok (s : ByteArray) (hmax : s.size ≤ 9223372036854775806) (v : Int) (h : Lib.atoiAll s.data.toList = .ok v) (w : World) :
   Calls Tryz.prog 109 #[.string s] w fun e w' => e = .returned (.tuple #[.int .i64 v, .nilIface]) ∧ (w' = w ∨ ∃ t, w' = Lib.bytesWorld w 5 t) := Any.strconv_Atoi_ok Tryz.laysC172 s hmax v h w
open Go.RowKit in
theorem Tryz.strconv_Atoi_range (s : ByteArray) (hlim : s.size ≤ 281474976710656) (h : Lib.atoiAll s.data.toList = .range) (ev : Value) (w : World) (hv : w.cell? ⟨4, 0, none⟩ = some ev) (hev : ev = .nilIface ∨ ∃ te pe, ev = .iface te pe) :
   Calls Tryz.prog 109 #[.string s] w fun e w' => ∃ N, e = .returned (.tuple #[.int .i64 (Lib.atoiSat s.data.toList), .iface 451 (.pointer (some ⟨N, 0, none⟩))]) ∧ w.heap.size ≤ N ∧ w'.heap[N]? = some (.cells #[.string ⟨#[65, 116, 111, 105]⟩, .string s, ev] 551 (0, 0)) ∧ Below w.heap.size w w' := Any.strconv_Atoi_range Tryz.laysC172 s hlim h ev w hv hev
def Tryz.lays101_ren : Go.Shelf.Ren := ⟨fun | 101 => 107 | 208 => 206 | 206 => 322 | n => n, fun | 9 => 9 | 4 => 4 | 3 => 3 | n => n, fun | n => n⟩
theorem Tryz.lays101 : Go.Proofs.Lays.n101 Tryz.prog Tryz.lays101_ren := {
 mixed := by kernel_rfl
 f101 := Tryz.func107.trans (congrArg some (by kernel_rfl))
 f206 := Tryz.func322.trans (congrArg some (by kernel_rfl))
 f208 := Tryz.func206.trans (congrArg some (by kernel_rfl))
 t3 := Tryz.underlying3
 a3 := Tryz.isAgg3
 z3 := Tryz.sizeOf3
 v3 := Tryz.zeroValue3
 t4 := Tryz.underlying4
 a4 := Tryz.isAgg4
 z4 := Tryz.sizeOf4
 v4 := Tryz.zeroValue4
 t9 := Tryz.underlying9
 a9 := Tryz.isAgg9
 z9 := Tryz.sizeOf9
 v9 := Tryz.zeroValue9 }
open Go.RowKit Go.Lib in
theorem Tryz.strings_TrimPrefix (s p : ByteArray) (w : World) :
   Calls Tryz.prog 107 #[.string s, .string p] w fun e w' => e = .returned (.string ⟨(Lib.trimPrefix s.data.toList p.data.toList).toArray⟩) ∧ w' = w := Any.strings_TrimPrefix Tryz.lays101 s p w
def Tryz.lays146_ren : Go.Shelf.Ren := ⟨fun | 146 => 70 | 221 => 106 | 268 => 203 | 138 => 204 | 143 => 205 | 195 => 318 | 197 => 319 | 218 => 320 | 219 => 321 | 260 => 426 | 217 => 69 | 225 => 427 | 224 => 428 | 267 => 429 | 266 => 105 | 314 => 511 | n => n, fun | 9 => 9 | 31 => 62 | 3 => 3 | 4 => 4 | 0 => 0 | 105 => 444 | 21 => 21 | 5 => 5 | 46 => 198 | 119 => 613 | 139 => 616 | 138 => 615 | 146 => 617 | 51 => 297 | n => n, fun | 1 => 0 | 3 => 5 | 4 => 6 | n => n⟩
theorem Tryz.lays146 : Go.Proofs.Lays.n146 Tryz.prog Tryz.lays146_ren := {
 mixed := by kernel_rfl
 f138 := Tryz.func204.trans (congrArg some (by kernel_rfl))
 f143 := Tryz.func205.trans (congrArg some (by kernel_rfl))
 f146 := Tryz.func70.trans (congrArg some (by kernel_rfl))
 f195 := Tryz.func318.trans (congrArg some (by kernel_rfl))
 f197 := Tryz.func319.trans (congrArg some (by kernel_rfl))
 f217 := Tryz.func69.trans (congrArg some (by kernel_rfl))
 f218 := Tryz.func320.trans (congrArg some (by kernel_rfl))
 f219 := Tryz.func321.trans (congrArg some (by kernel_rfl))
 f221 := Tryz.func106.trans (congrArg some (by kernel_rfl))
 f224 := Tryz.func428.trans (congrArg some (by kernel_rfl))
 f225 := Tryz.func427.trans (congrArg some (by kernel_rfl))
 f260 := Tryz.func426.trans (congrArg some (by kernel_rfl))
 f266 := Tryz.func105.trans (congrArg some (by kernel_rfl))
 f267 := Tryz.func429.trans (congrArg some (by kernel_rfl))
 f268 := Tryz.func203.trans (congrArg some (by kernel_rfl))
 f314 := Tryz.func511.trans (congrArg some (by kernel_rfl))
 t0 := Tryz.underlying0
 a0 := Tryz.isAgg0
 z0 := Tryz.sizeOf0
 v0 := Tryz.zeroValue0
 t3 := Tryz.underlying3
 a3 := Tryz.isAgg3
 z3 := Tryz.sizeOf3
 v3 := Tryz.zeroValue3
 t4 := Tryz.underlying4
 a4 := Tryz.isAgg4
 z4 := Tryz.sizeOf4
 v4 := Tryz.zeroValue4
 t5 := Tryz.underlying5
 a5 := Tryz.isAgg5
 z5 := Tryz.sizeOf5
 v5 := Tryz.zeroValue5
 t9 := Tryz.underlying9
 a9 := Tryz.isAgg9
 z9 := Tryz.sizeOf9
 v9 := Tryz.zeroValue9
 t21 := Tryz.underlying21
 a21 := Tryz.isAgg21
 z21 := Tryz.sizeOf21
 v21 := Tryz.zeroValue21
 t31 := Tryz.underlying62
 a31 := Tryz.isAgg62
 z31 := Tryz.sizeOf62
 v31 := Tryz.zeroValue62
 t46 := Tryz.underlying198
 a46 := Tryz.isAgg198
 z46 := Tryz.sizeOf198
 v46 := Tryz.zeroValue198
 t51 := Tryz.underlying297
 a51 := Tryz.isAgg297
 z51 := Tryz.sizeOf297
 v51 := Tryz.zeroValue297
 t105 := Tryz.underlying444
 a105 := Tryz.isAgg444
 z105 := Tryz.sizeOf444
 v105 := Tryz.zeroValue444
 t119 := Tryz.underlying613
 a119 := Tryz.isAgg613
 z119 := Tryz.sizeOf613
 t138 := Tryz.underlying615
 a138 := Tryz.isAgg615
 z138 := Tryz.sizeOf615
 v138 := Tryz.zeroValue615
 t139 := Tryz.underlying616
 a139 := Tryz.isAgg616
 z139 := Tryz.sizeOf616
 v139 := Tryz.zeroValue616
 t146 := Tryz.underlying617
 a146 := Tryz.isAgg617
 z146 := Tryz.sizeOf617
 v146 := Tryz.zeroValue617
 g1 := by kernel_rfl
 g3 := by kernel_rfl
 g4 := by kernel_rfl }
open Go.RowKit Go.Lib in
theorem Tryz.strings_Split (s sep : ByteArray) (m : Int) (w : World) (hs : s.size < 4294967281) (hm : w.cell? ⟨0, 0, none⟩ = some (.int .i64 m)) (h1 : 1 ≤ sep.size) :
   Calls Tryz.prog 70 #[.string s, .string sep] w fun e w' =>
     e = .returned (.slice (some ⟨w.heap.size, 0, none⟩) (Lib.countB s sep + 1) (Lib.countB s sep + 1)) ∧ w' = w.alloc (.cells ((Lib.splitB sep 0 (Lib.countB s sep) s).map Value.string).toArray 9) := Any.strings_Split Tryz.lays146 (by kernel_rfl) s sep m w hs hm h1
def Tryz.laysSlM6_f225_ren : Go.Shelf.Ren := ⟨fun | 6 => 225 | 8 => 87 | 9 => 344 | 19 => 161 | 20 => 162 | 21 => 442 | 22 => 443 | 23 => 444 | 24 => 445 | 25 => 446 | 26 => 447 | 27 => 345 | 28 => 448 | 29 => 449 | 36 => 515 | 31 => 281 | 32 => 282 | 37 => 516 | 38 => 517 | 39 => 88 | 41 => 552 | n => n, fun | 27 => 62 | 29 => 9 | 3 => 3 | 32 => 198 | 26 => 62 | 0 => 0 | 44 => 297 | 46 => 71 | 4 => 4 | 36 => 291 | 35 => 290 | 41 => 264 | 5 => 5 | 9 => 9 | 53 => 409 | 57 => 156 | 63 => 509 | 64 => 510 | n => n, fun | n => n⟩
theorem Tryz.laysSlM6_f225 : Go.Proofs.SlLaysM.n6 Tryz.prog Tryz.laysSlM6_f225_ren := {
 mixed := by kernel_rfl
 f6 := ⟨Tryz.f225.name, by decide, Tryz.func225.trans (congrArg some (by kernel_rfl))⟩
 f8 := Tryz.func87.trans (congrArg some (by kernel_rfl))
 f9 := ⟨Tryz.f344.name, by decide, Tryz.func344.trans (congrArg some (by kernel_rfl))⟩
 f19 := Tryz.func161.trans (congrArg some (by kernel_rfl))
 f20 := Tryz.func162.trans (congrArg some (by kernel_rfl))
 f21 := ⟨Tryz.f442.name, by decide, Tryz.func442.trans (congrArg some (by kernel_rfl))⟩
 f22 := ⟨Tryz.f443.name, by decide, Tryz.func443.trans (congrArg some (by kernel_rfl))⟩
 f23 := ⟨Tryz.f444.name, by decide, Tryz.func444.trans (congrArg some (by kernel_rfl))⟩
 f24 := ⟨Tryz.f445.name, by decide, Tryz.func445.trans (congrArg some (by kernel_rfl))⟩
 f25 := ⟨Tryz.f446.name, by decide, Tryz.func446.trans (congrArg some (by kernel_rfl))⟩
 f26 := ⟨Tryz.f447.name, by decide, Tryz.func447.trans (congrArg some (by kernel_rfl))⟩
 f27 := ⟨Tryz.f345.name, by decide, Tryz.func345.trans (congrArg some (by kernel_rfl))⟩
 f28 := ⟨Tryz.f448.name, by decide, Tryz.func448.trans (congrArg some (by kernel_rfl))⟩
 f29 := ⟨Tryz.f449.name, by decide, Tryz.func449.trans (congrArg some (by kernel_rfl))⟩
 f31 := Tryz.func281.trans (congrArg some (by kernel_rfl))
 f32 := Tryz.func282.trans (congrArg some (by kernel_rfl))
 f36 := ⟨Tryz.f515.name, by decide, Tryz.func515.trans (congrArg some (by kernel_rfl))⟩
 f37 := ⟨Tryz.f516.name, by decide, Tryz.func516.trans (congrArg some (by kernel_rfl))⟩
 f38 := ⟨Tryz.f517.name, by decide, Tryz.func517.trans (congrArg some (by kernel_rfl))⟩
 f39 := ⟨Tryz.f88.name, by decide, Tryz.func88.trans (congrArg some (by kernel_rfl))⟩
 f41 := ⟨Tryz.f552.name, by decide, Tryz.func552.trans (congrArg some (by kernel_rfl))⟩
 t0 := Tryz.underlying0
 a0 := Tryz.isAgg0
 z0 := Tryz.sizeOf0
 v0 := Tryz.zeroValue0
 t3 := Tryz.underlying3
 a3 := Tryz.isAgg3
 z3 := Tryz.sizeOf3
 v3 := Tryz.zeroValue3
 t4 := Tryz.underlying4
 a4 := Tryz.isAgg4
 z4 := Tryz.sizeOf4
 v4 := Tryz.zeroValue4
 t5 := Tryz.underlying5
 a5 := Tryz.isAgg5
 z5 := Tryz.sizeOf5
 v5 := Tryz.zeroValue5
 t9 := Tryz.underlying9
 a9 := Tryz.isAgg9
 z9 := Tryz.sizeOf9
 v9 := Tryz.zeroValue9
 t26 := Tryz.underlying62
 a26 := Tryz.isAgg62
 z26 := Tryz.sizeOf62
 v26 := Tryz.zeroValue62
 t27 := Tryz.underlying62
 a27 := Tryz.isAgg62
 z27 := Tryz.sizeOf62
 v27 := Tryz.zeroValue62
 t29 := Tryz.underlying9
 a29 := Tryz.isAgg9
 z29 := Tryz.sizeOf9
 v29 := Tryz.zeroValue9
 t32 := Tryz.underlying198
 a32 := Tryz.isAgg198
 z32 := Tryz.sizeOf198
 v32 := Tryz.zeroValue198
 t35 := Tryz.underlying290
 a35 := Tryz.isAgg290
 z35 := Tryz.sizeOf290
 v35 := Tryz.zeroValue290
 t36 := Tryz.underlying291
 a36 := Tryz.isAgg291
 z36 := Tryz.sizeOf291
 v36 := Tryz.zeroValue291
 t41 := Tryz.underlying264
 a41 := Tryz.isAgg264
 z41 := Tryz.sizeOf264
 v41 := Tryz.zeroValue264
 t44 := Tryz.underlying297
 a44 := Tryz.isAgg297
 z44 := Tryz.sizeOf297
 v44 := Tryz.zeroValue297
 t46 := Tryz.underlying71
 a46 := Tryz.isAgg71
 z46 := Tryz.sizeOf71
 v46 := Tryz.zeroValue71
 t53 := Tryz.underlying409
 a53 := Tryz.isAgg409
 z53 := Tryz.sizeOf409
 v53 := Tryz.zeroValue409
 t57 := Tryz.underlying156
 a57 := Tryz.isAgg156
 z57 := Tryz.sizeOf156
 v57 := Tryz.zeroValue156
 t63 := Tryz.underlying509
 a63 := Tryz.isAgg509
 z63 := Tryz.sizeOf509
 v63 := Tryz.zeroValue509
 t64 := Tryz.underlying510
 a64 := Tryz.isAgg510
 z64 := Tryz.sizeOf510
 v64 := Tryz.zeroValue510 }
open Go.Sort Go.RowKit in
theorem Tryz.slices_Sort_string (blk off cap : Nat) (ss : List (List UInt8)) (w : World) (hH : Holds encStr w blk off ss.toArray) (hblk : blk < w.heap.size) (hsz : ss.length < 4611686018427387904) :
   Calls Tryz.prog 225 #[.slice (some ⟨blk, off, none⟩) ss.length cap] w fun e w' =>
     e = .returned (.tuple #[]) ∧ ∃ n os, w' = grow (putRow encStr (Sort.ahead w n) blk off (ss.mergeSort fun x y => decide (x ≤ y)).toArray) os := AnyM.slices_Sort_string Tryz.laysSlM6_f225 blk off cap ss w hH hblk hsz
end Go.Proofs
namespace Go.Am
open Go.Proofs Go.Sort
attribute [local go_sem ↓] ofL_cons ofH_cons upd_apply
set_option maxHeartbeats 1000000
set_option linter.unusedSimpArgs false
class Tabs [Glb] : Prop where
 ok : ∀ w : World, (∀ b, Glb.A b → w.heap[b]? = Glb.M b) → Lib.TabIs Tryz.prog w "internal/strconv.uint64pow10" .u64 Lib.pow10Tab ∧ (∃ te pe, w.cell? ⟨3, 0, none⟩ = some (.iface te pe)) ∧ (∃ te pe, w.cell? ⟨4, 0, none⟩ = some (.iface te pe))
def inI (n : Int) : Prop := -9223372036854775808 ≤ n ∧ n ≤ 9223372036854775807
def decB (n : Int) : ByteArray := ⟨(Lib.itoa n).toArray⟩
theorem decD_len : ∀ (k u : Nat), u < 10 ^ (k + 1) → (Lib.decDigits u).length ≤ k + 1
 | 0, u, h => by rw [Lib.decDigits_one (by omega)]; simp
 | k + 1, u, h => by
   rw [Lib.decDigits]
   split
   · simp
   · have := decD_len k (u / 10) (by rw [Nat.div_lt_iff_lt_mul (by decide)]; rw [Nat.pow_succ] at h; exact h)
     simp only [List.length_append, List.length_cons, List.length_nil]
     omega
theorem decB_size {n : Int} (h : inI n) : (decB n).size ≤ 21 := by
 have hs : (decB n).size = (Lib.itoa n).length := by simp [decB, ByteArray.size]
 rw [hs]
 unfold Lib.itoa
 obtain ⟨h0, h1⟩ := h
 split
 · have := decD_len 19 n.natAbs (by omega)
   simp only [List.length_cons]
   omega
 · have := decD_len 19 n.toNat (by omega)
   omega
def sp : ByteArray := ⟨#[32]⟩
theorem ba_ext {a b : ByteArray} (h : a.data.toList = b.data.toList) : a = b := by
 cases a; cases b
 simp only [ByteArray.mk.injEq]
 exact Array.ext' h
theorem ba_assoc (a b c : ByteArray) : a ++ b ++ c = a ++ (b ++ c) := ba_ext (by simp)
theorem app_nil (a : ByteArray) : a ++ ⟨#[]⟩ = a := ba_ext (by simp)
theorem below_draw_grow (w : World) (k : Nat) (os : Array Obj) : RowKit.Below w.heap.size w (grow (w.drewN k) os) := by
 refine ⟨rfl, rfl, rfl, by simp [grow, World.drewN], fun i hi => ?_⟩
 simp only [grow, World.drewN]
 rw [Array.getElem?_append_left (by simpa using hi)]
variable [Glb]
theorem beld_draw_grow (w : World) (k : Nat) (os : Array Obj) : BelD w (grow (w.drewN k) os) := ⟨below_draw_grow w k os, fun _ => by simp [grow, World.drewN]⟩
theorem itoa_ok [T : Tabs] {n : Int} (h : inI n) : APure Tryz.prog 68 [.int n] (.str (decB n)) := by
 refine ⟨⟨_, Tryz.func68, by kernel_rfl, rfl⟩, fun Z w vs hz hg hl hx => ?_⟩
 match vs, hl with
 | [v], _ =>
   have hx0 := hx 0 (by simp)
   simp only [List.getD_cons_zero] at hx0
   have hv : v = .int .i64 n := by cases hx0; rfl
   subst hv
   refine (Tryz.strconv_Itoa n h.1 h.2 w (T.ok w fun b hb => (hg b hb).2).1).mono ?_
   rintro e w' ⟨rfl, k, os, rfl⟩
   exact ⟨_, rfl, .raw _, beld_draw_grow w k os⟩
theorem dec_ok [Tabs] {n : Int} (h : inI n) : APure Tryz.prog 39 [.int n] (.str (decB n)) := by
 have FF : True := trivial
 refine apure_of Tryz.func39 rfl (by kernel_rfl) (by simp [Tryz.ntmps39]) ?_
 rw [Tryz.ntmps39]
 refine awp_rseq (by decide) fun KK hKK => ?_
 refine m_assign ?_
 refine hKK _ _ ?_
 clear hKK KK
 refine awp_rseq (by decide) fun KK hKK => ?_
 refine m_move ?_
 refine m_call (fun hG => itoa_ok h) ?_
 refine m_assign ?_
 refine hKK _ _ ?_
 clear hKK KK
 refine awp_ret ⟨[_], ⟨⟨(by simp only [go_sem, reduceIte, Nat.reduceEqDiff, FF]), (by simp only [go_sem, reduceIte, Nat.reduceEqDiff, FF] <;> rfl)⟩, trivial⟩, ?_⟩
 simp only [go_sem, reduceIte, Nat.reduceEqDiff, FF, tupled]
 exact CV.Sub.refl _
end Go.Am
namespace Go.Am
open Go.Proofs
attribute [local go_sem ↓] ofL_cons ofH_cons upd_apply
set_option maxHeartbeats 2000000
set_option linter.unusedSimpArgs false
theorem Tryz.undStr : Tryz.prog.underlying 9 = some .string := by kernel_rfl
variable [Glb]
end Go.Am
namespace Go.Am
open Go.Proofs
attribute [local go_sem ↓] ofL_cons ofH_cons upd_apply
set_option maxHeartbeats 1000000
set_option linter.unusedSimpArgs false
def digitB (c : Int) : Bool := decide (48 ≤ c) && decide (c ≤ 57)
def lowerB (c : Int) : Bool := decide (97 ≤ c) && decide (c ≤ 122)
def upperB (c : Int) : Bool := decide (65 ≤ c) && decide (c ≤ 90)
def partB (c : Int) (big : Bool) : Bool := digitB c || c == 45 || (big && upperB c) || (!big && lowerB c)
def allB (p : Int → Bool) (s : ByteArray) : Nat → Bool
 | 0 => true
 | n + 1 => allB p s n && p (byteAt s n)
def namedB (s : ByteArray) (big : Bool) : Bool :=
 if decide ((s.size : Int) < 1) || decide ((32 : Int) < s.size) || digitB (byteAt s 0) || byteAt s 0 == 45 then false else allB (fun c => partB c big) s s.size
theorem allB_false {p : Int → Bool} {s : ByteArray} {i : Nat} (h : p (byteAt s i) = false) : ∀ n, i < n → allB p s n = false
 | n + 1, hi => by
   rw [allB]
   by_cases e : i = n
   · subst e; rw [h, Bool.and_false]
   · rw [allB_false h n (by omega), Bool.false_and]
variable [Glb]
end Go.Am
namespace Go.Am
open Go.Proofs
attribute [local go_sem ↓] ofL_cons ofH_cons upd_apply
set_option maxHeartbeats 2000000
set_option linter.unusedSimpArgs false
theorem decode_high (s : ByteArray) (pos : Nat) (h : 128 ≤ (s.get! pos).toNat) : 128 ≤ (Utf8.decode s pos).1 := by
 have hb : ∀ k, (s.get! (pos + k)).toNat < 256 := fun k => (s.get! (pos + k)).toNat_lt
 have h0 := hb 0; have h1 := hb 1; have h2 := hb 2; have h3 := hb 3
 have h4 : 128 ≤ (s.get! (pos + 0)).toNat := h
 simp only [Utf8.decode]
 repeat' split
 all_goals simp_all [Utf8.runeError]
 all_goals omega
theorem byteAt_eq (s : ByteArray) (i : Nat) (h : i < s.size) : byteAt s i = ((s[i]'h).toNat : Int) := by
 unfold byteAt
 rw [getElem?_pos s i h]
 rfl
def badR (k : Nat) (r : Int) : Bool := !lowerB r && ((k : Int) == 0 || (!digitB r && r != 45))
theorem decode_cases (s : ByteArray) (k : Nat) (h : k < s.size) : (Utf8.decode s k = ((byteAt s k).toNat, 1) ∧ byteAt s k = ((Utf8.decode s k).1 : Int)) ∨ (128 ≤ byteAt s k ∧ 128 ≤ (Utf8.decode s k).1) := by
 rw [byteAt_eq s k h]
 by_cases hb : (s[k]'h).toNat < 128
 · left
   rw [decode_ascii s k h hb]
   exact ⟨by simp, rfl⟩
 · right
   refine ⟨by omega, decode_high s k ?_⟩
   have : s.get! k = s[k]'h := by
     simp [ByteArray.get!, getElem!_pos, h]
     rfl
   rw [this]
   omega
theorem part_high {c : Int} (h : 128 ≤ c) : partB c false = false ∧ lowerB c = false ∧ digitB c = false ∧ c ≠ 45 := by
 have h1 : ¬ c ≤ 57 := by omega
 have h2 : ¬ c ≤ 122 := by omega
 have h3 : c ≠ 45 := by omega
 simp [partB, lowerB, digitB, h1, h2, h3]
theorem named_not {s : ByteArray} {k : Nat} (h : k < s.size) (hp : partB (byteAt s k) false = false) : namedB s false = false := by
 unfold namedB
 split
 · rfl
 · exact allB_false (p := fun c => partB c false) hp s.size h
theorem bad_named {s : ByteArray} {k : Nat} (h : k < s.size) (hb : badR k (Utf8.decode s k).1 = true) : namedB s false = false := by
 rcases decode_cases s k h with ⟨_, e⟩ | ⟨e1, e2⟩
 · rw [← e] at hb
   simp only [badR, Bool.and_eq_true, Bool.not_eq_true', Bool.or_eq_true, beq_iff_eq, bne_iff_ne, ne_eq] at hb
   obtain ⟨h1, h2 | ⟨h2, h3⟩⟩ := hb
   · have hk : k = 0 := by omega
     subst hk
     unfold namedB
     by_cases h4 : digitB (byteAt s 0) = true
     · simp [h4]
     · by_cases h5 : byteAt s 0 = 45
       · simp [h5]
       · split
         · rfl
         · exact allB_false (p := fun c => partB c false) (i := 0) (by simp [partB, h4, h5, h1]) s.size h
   · exact named_not h (by simp [partB, h1, h2, h3])
 · exact named_not h (part_high e1).1
theorem good_step {s : ByteArray} {k : Nat} (h : k < s.size) (hb : badR k (Utf8.decode s k).1 = false) : (Utf8.decode s k).2 = 1 ∧ partB (byteAt s k) false = true ∧ (k = 0 → lowerB (byteAt s 0) = true) := by
 rcases decode_cases s k h with ⟨e0, e⟩ | ⟨e1, e2⟩
 · rw [← e] at hb
   refine ⟨by rw [e0], ?_, ?_⟩
   · cases h1 : lowerB (byteAt s k) with
     | true => simp [partB, h1]
     | false =>
       simp only [badR, h1, Bool.not_false, Bool.true_and, Bool.or_eq_false_iff, Bool.and_eq_false_iff, Bool.not_eq_false', bne_eq_false_iff_eq] at hb
       rcases hb.2 with h2 | h2
       · simp [partB, h2]
       · simp [partB, h2]
   · intro hk
     subst hk
     cases h1 : lowerB (byteAt s 0) with
     | true => rfl
     | false => simp [badR, h1] at hb
 · obtain ⟨_, p2, p3, p4⟩ := part_high (c := ((Utf8.decode s k).1 : Int)) (by omega)
   simp [badR, p2, p3, p4] at hb
theorem lower_not {c : Int} (h : lowerB c = true) : digitB c = false ∧ c ≠ 45 := by
 simp only [lowerB, Bool.and_eq_true, decide_eq_true_eq] at h
 have : ¬ c ≤ 57 := by omega
 simp [digitB, this]
 omega
variable [Glb]
theorem tlower_ok (c : Int) : APure Tryz.prog 66 [.raw (.int .i32 c)] (.bool (lowerB c)) := by
 have FF : True := trivial
 refine apure_of Tryz.func66 rfl (by kernel_rfl) (by simp [Tryz.ntmps66]) ?_
 rw [Tryz.ntmps66]
 refine awp_rseq (by decide) fun KK hKK => ?_
 refine m_assign ?_
 refine hKK _ _ ?_
 clear hKK KK
 refine awp_rseq (by decide) fun KK hKK => ?_
 refine m_move ?_
 refine m_bin ?_
 refine m_move ?_
 refine g_move ?_
 refine g_bin ?_
 refine m_pick ?_
 refine m_assign ?_
 refine hKK _ _ ?_
 clear hKK KK
 refine awp_ret ⟨[_], ⟨⟨(by simp only [go_sem, reduceIte, Nat.reduceEqDiff, FF]), (by simp only [go_sem, reduceIte, Nat.reduceEqDiff, FF] <;> rfl)⟩, trivial⟩, ?_⟩
 simp only [go_sem, reduceIte, Nat.reduceEqDiff, FF, tupled]
 exact CV.Sub.refl _
theorem tdigit_ok (c : Int) : APure Tryz.prog 102 [.raw (.int .i32 c)] (.bool (digitB c)) := by
 have FF : True := trivial
 refine apure_of Tryz.func102 rfl (by kernel_rfl) (by simp [Tryz.ntmps102]) ?_
 rw [Tryz.ntmps102]
 refine awp_rseq (by decide) fun KK hKK => ?_
 refine m_assign ?_
 refine hKK _ _ ?_
 clear hKK KK
 refine awp_rseq (by decide) fun KK hKK => ?_
 refine m_move ?_
 refine m_bin ?_
 refine m_move ?_
 refine g_move ?_
 refine g_bin ?_
 refine m_pick ?_
 refine m_assign ?_
 refine hKK _ _ ?_
 clear hKK KK
 refine awp_ret ⟨[_], ⟨⟨(by simp only [go_sem, reduceIte, Nat.reduceEqDiff, FF]), (by simp only [go_sem, reduceIte, Nat.reduceEqDiff, FF] <;> rfl)⟩, trivial⟩, ?_⟩
 simp only [go_sem, reduceIte, Nat.reduceEqDiff, FF, tupled]
 exact CV.Sub.refl _
theorem follows_ok (s : ByteArray) : APure Tryz.prog 65 [.str s, .raw (.func (.func 66) #[] #[])] (.bool (namedB s false)) := by
 have FF : True := trivial
 refine apure_of Tryz.func65 rfl (by kernel_rfl) (by simp [Tryz.ntmps65]) ?_
 rw [Tryz.ntmps65]
 refine awp_rseq (by decide) fun KK hKK => ?_
 refine m_assign ?_
 refine hKK _ _ ?_
 clear hKK KK
 refine awp_seq ?_
 refine awp_rseq (by decide) fun KK hKK => ?_
 refine m_move ?_
 refine m_len ?_
 refine m_bin ?_
 refine m_move ?_
 refine g_move ?_
 refine g_len ?_
 refine g_bin ?_
 refine m_pick ?_
 refine hKK _ _ ?_
 clear hKK KK
 refine m_cond (fun hc => ?_) (fun hc => ?_)
 · refine awp_rseq (by decide) fun KK hKK => ?_
   refine m_assign ?_
   refine hKK _ _ ?_
   clear hKK KK
   refine awp_ret ⟨[_], ⟨⟨(by simp only [go_sem, reduceIte, Nat.reduceEqDiff, FF]), (by simp only [go_sem, reduceIte, Nat.reduceEqDiff, FF] <;> rfl)⟩, trivial⟩, ?_⟩
   simp only [go_sem, reduceIte, Nat.reduceEqDiff, FF, tupled]
   have e0 : namedB s false = false := by
     unfold namedB
     simp only [Bool.or_eq_true, beq_iff_eq, decide_eq_true_eq] at hc
     rw [if_pos]
     simp only [Bool.or_eq_true, decide_eq_true_eq]
     rcases hc with hc | hc
     · exact .inl (.inl (.inl (by omega)))
     · exact .inl (.inl (.inr (by omega)))
   rw [e0]
   exact CV.Sub.refl _
 simp only [Bool.or_eq_false_iff, beq_eq_false_iff_ne, ne_eq, decide_eq_false_iff_not] at hc
 obtain ⟨hs0, hs1⟩ := hc
 refine awp_skip ?_
 first | rw [thenQ_normal] | rw [blockQ_normal, thenQ_normal]
 refine awp_seq ?_
 refine awp_seqL ?_
 refine awpl_op (by rfl) (by rfl) ?_
 refine m_move ?_
 refine run_nil ?_
 refine awpl_range (by simp only [go_sem, reduceIte, Nat.reduceEqDiff] <;> rfl) Tryz.undStr rfl (by decide) fun B => ?_
 refine awpl_end ?_
 rw [thenQ_normal]
 refine awp_block ?_
 refine m_for (ι := Nat) (fun k => [(0, .str s), (1, .c (.raw (.func (.func 66) #[] #[]))), (16, .c (.raw (.pointer (some ⟨B, 0, none⟩))))]) (fun k => [(16, .blk B (.stringIter s k))]) (fun k => s.size - k) (fun k => k ≤ s.size ∧ allB (fun c => partB c false) s k = true ∧ (0 < k → lowerB (byteAt s 0) = true)) (0) ?_ ?_
 · exact ⟨Nat.zero_le _, rfl, fun h => absurd h (by decide)⟩
 rintro k ⟨hk, hall, hfst⟩
 refine awp_seqL ?_
 by_cases hkl : k < s.size
 · refine awpl_next (o := 16) (by simp only [go_sem, reduceIte, Nat.reduceEqDiff] <;> rfl) rfl hkl (by decide) ?_
   refine awpl_op (by rfl) (by rfl) ?_
   refine m_extract ?_
   refine run_nil ?_
   refine awpl_end ?_
   rw [thenQ_normal]
   refine awp_seq ?_
   refine m_cond (fun hc => ?_) (fun hc => ?_)
   · refine awp_skip ?_
     first | rw [thenQ_normal] | rw [blockQ_normal, thenQ_normal]
     refine awp_block ?_
     refine awp_rseq (by decide) fun KK hKK => ?_
     refine m_extract ?_
     refine m_extract ?_
     refine m_assign ?_
     refine m_assign ?_
     refine hKK _ _ ?_
     clear hKK KK
     refine awp_rseq (by decide) fun KK hKK => ?_
     refine m_move ?_
     refine m_move ?_
     refine m_callV (fun hG => tlower_ok _) ?_
     refine m_not ?_
     refine m_move ?_
     refine g_move ?_
     refine g_bin ?_
     refine g_move ?_
     refine g_move ?_
     refine g_call (fun hG => tdigit_ok _) ?_
     refine g_not ?_
     refine g_move ?_
     refine g_move ?_
     refine g_bin ?_
     refine g_pick ?_
     refine g_pick ?_
     refine m_pick ?_
     refine hKK _ _ ?_
     clear hKK KK
     clear hc
     refine m_cond (fun hc => ?_) (fun hc => ?_)
     · refine awp_rseq (by decide) fun KK hKK => ?_
       refine m_assign ?_
       refine hKK _ _ ?_
       clear hKK KK
       refine awp_ret ⟨[_], ⟨⟨(by simp only [go_sem, reduceIte, Nat.reduceEqDiff, FF]), (by simp only [go_sem, reduceIte, Nat.reduceEqDiff, FF] <;> rfl)⟩, trivial⟩, ?_⟩
       simp only [go_sem, reduceIte, Nat.reduceEqDiff, FF, tupled]
       have e0 := bad_named hkl (by simpa [badR] using hc)
       rw [e0]
       exact CV.Sub.refl _
     refine awp_skip ?_
     rw [blockQ_normal]
     obtain ⟨g1, g2, g3⟩ := good_step hkl (by simpa [badR] using hc)
     try rw [thenQ_normal]
     refine m_nextH (k + 1) ?_ ?_ ?_
     · refine ⟨hkl, by rw [allB, hall, g2]; rfl, fun _ => ?_⟩
       by_cases hk0 : k = 0
       · exact g3 hk0
       · exact hfst (by omega)
     · omega
     · refine List.forall_mem_cons.2 ⟨objLe_of ?_, List.forall_mem_nil _⟩
       simp only [go_sem, reduceIte, Nat.reduceEqDiff, g1]
   · cases hc
 · refine awpl_nextE (o := 16) (by simp only [go_sem, reduceIte, Nat.reduceEqDiff] <;> rfl) rfl hkl (by decide) ?_
   refine awpl_op (by rfl) (by rfl) ?_
   refine m_extract ?_
   refine run_nil ?_
   refine awpl_end ?_
   rw [thenQ_normal]
   refine awp_seq ?_
   refine m_cond (fun hc => ?_) (fun hc => ?_)
   · cases hc
   · refine awp_exit ?_
     simp only [thenQ_exit, blockQ_exit, reduceIte, Nat.reduceEqDiff]
     try rw [thenQ_normal]
     refine awp_rseq (by decide) fun KK hKK => ?_
     refine m_assign ?_
     refine hKK _ _ ?_
     clear hKK KK
     refine awp_ret ⟨[_], ⟨⟨(by simp only [go_sem, reduceIte, Nat.reduceEqDiff, FF]), (by simp only [go_sem, reduceIte, Nat.reduceEqDiff, FF] <;> rfl)⟩, trivial⟩, ?_⟩
     simp only [go_sem, reduceIte, Nat.reduceEqDiff, FF, tupled]
     have hk' : k = s.size := by omega
     subst hk'
     have e0 : namedB s false = true := by
       unfold namedB
       obtain ⟨l1, l2⟩ := lower_not (hfst (by omega))
       rw [if_neg]
       · exact hall
       · simp only [Bool.or_eq_true, decide_eq_true_eq, beq_iff_eq, l1, not_or]
         refine ⟨⟨⟨by omega, by omega⟩, by simp⟩, l2⟩
     rw [e0]
     exact CV.Sub.refl _
theorem tname_ok (s : ByteArray) : APure Tryz.prog 30 [.str s] (.bool (namedB s false)) := by
 have FF : True := trivial
 refine apure_of Tryz.func30 rfl (by kernel_rfl) (by simp [Tryz.ntmps30]) ?_
 rw [Tryz.ntmps30]
 refine awp_rseq (by decide) fun KK hKK => ?_
 refine m_assign ?_
 refine hKK _ _ ?_
 clear hKK KK
 refine awp_rseq (by decide) fun KK hKK => ?_
 refine m_move ?_
 refine m_call (fun hG => follows_ok s) ?_
 refine m_assign ?_
 refine hKK _ _ ?_
 clear hKK KK
 refine awp_ret ⟨[_], ⟨⟨(by simp only [go_sem, reduceIte, Nat.reduceEqDiff, FF]), (by simp only [go_sem, reduceIte, Nat.reduceEqDiff, FF] <;> rfl)⟩, trivial⟩, ?_⟩
 simp only [go_sem, reduceIte, Nat.reduceEqDiff, FF, tupled]
 exact CV.Sub.refl _
end Go.Am
namespace Go.Am
open Go.Proofs
attribute [local go_sem ↓] ofL_cons ofH_cons upd_apply
set_option maxHeartbeats 2000000
set_option linter.unusedSimpArgs false
def digs10 : ByteArray := ⟨#[48, 49, 50, 51, 52, 53, 54, 55, 56, 57]⟩
def trimPB (s : ByteArray) : ByteArray := ⟨(Lib.trimPrefix s.data.toList [45]).toArray⟩
def trimDB (s : ByteArray) : ByteArray := ⟨(Lib.trimS s.data.toList digs10.data.toList).toArray⟩
def numSyn (s : ByteArray) : Bool := (trimPB s).toList == (⟨#[]⟩ : ByteArray).toList || !((trimDB (trimPB s)).toList == (⟨#[]⟩ : ByteArray).toList) || (byteAt (trimPB s) 0 == 48 && !(s.toList == (⟨#[48]⟩ : ByteArray).toList))
def numB (s : ByteArray) : Int × Int :=
 if numSyn s then (0, 8) else match Lib.atoiAll s.data.toList with
 | .ok v => (v, 0)
 | _ => (0, 2)
theorem below_bytesWorld (w : World) (t : ByteArray) : RowKit.Below w.heap.size w (Lib.bytesWorld w 5 t) := by
 unfold Lib.bytesWorld
 refine Lib.below_freeze (w := w.drew.alloc (.cells (Lib.bytesCells w 5 t) 5)) (p := ⟨w.heap.size, (Lib.bytesCells w 5 t).size, none⟩) ?_ (Nat.le_refl _) _
 exact ⟨rfl, rfl, rfl, by unfold World.alloc World.drew; simp, fun k hk => RowKit.Below.heap_alloc w.drew _ k hk⟩
theorem Tryz.undErr : Tryz.prog.underlying 87 = some (.interface (Tryz.prog.methodsAt 87)) := by kernel_rfl
def isD (c : UInt8) : Bool := decide (48 ≤ c.toNat) && decide (c.toNat ≤ 57)
theorem digs_contains (c : UInt8) : digs10.data.toList.contains c = isD c := by
 rw [Bool.eq_iff_iff]
 simp only [digs10, List.contains_iff_mem, List.mem_cons, List.not_mem_nil, or_false, isD, Bool.and_eq_true, decide_eq_true_eq, ← UInt8.toNat_inj]
 simp only [UInt8.reduceToNat]
 omega
theorem dw_cases (p : UInt8 → Bool) : ∀ l : List UInt8, (l.dropWhile p = [] ∧ ∀ x ∈ l, p x = true) ∨ ∃ a t, l.dropWhile p = a :: t ∧ p a = false
 | [] => .inl ⟨rfl, fun x hx => by simp at hx⟩
 | c :: r => by
   cases h : p c with
   | true =>
     rcases dw_cases p r with ⟨h1, h2⟩ | ⟨a, t, h1, h2⟩
     · refine .inl ⟨by simp [List.dropWhile, h, h1], fun x hx => ?_⟩
       rcases List.mem_cons.1 hx with rfl | hx
       · exact h
       · exact h2 x hx
     · exact .inr ⟨a, t, by simp [List.dropWhile, h, h1], h2⟩
   | false => exact .inr ⟨c, r, by simp [List.dropWhile, h], h⟩
theorem trimS_nil {l : List UInt8} (h : Lib.trimS l digs10.data.toList = []) : ∀ x ∈ l, isD x = true := by
 unfold Lib.trimS Lib.trimLeftS Lib.trimRightS at h
 simp only [digs_contains] at h
 rcases dw_cases isD l.reverse with ⟨_, h2⟩ | ⟨a, t, h1, h2⟩
 · exact fun x hx => h2 x (List.mem_reverse.2 hx)
 · rw [h1] at h
   rcases dw_cases isD (a :: t).reverse with ⟨_, h4⟩ | ⟨a', t', h3, _⟩
   · have := h4 a (by simp)
     rw [h2] at this; cases this
   · rw [h3] at h; cases h
theorem trimS_all {l : List UInt8} (h : ∀ x ∈ l, isD x = true) : Lib.trimS l digs10.data.toList = [] := by
 unfold Lib.trimS Lib.trimLeftS Lib.trimRightS
 simp only [digs_contains]
 rcases dw_cases isD l.reverse with ⟨h1, _⟩ | ⟨a, t, h1, h2⟩
 · rw [h1]; rfl
 · have : a ∈ l.reverse := (List.dropWhile_sublist isD).subset (h1 ▸ List.mem_cons_self ..)
   rw [h a (List.mem_reverse.1 this)] at h2
   cases h2
theorem parseUint_digits : ∀ (l : List UInt8) (acc : Nat), (∀ x ∈ l, isD x = true) → Lib.parseUint10 acc l ≠ Lib.NumEnd.syntax
 | [], acc, _ => by simp [Lib.parseUint10]
 | c :: r, acc, h => by
   have hc := h c (List.mem_cons_self ..)
   simp only [isD, Bool.and_eq_true, decide_eq_true_eq] at hc
   rw [Lib.parseUint10, if_pos hc]
   split
   · simp
   · split
     · simp
     · exact parseUint_digits r _ fun x hx => h x (List.mem_cons_of_mem _ hx)
theorem numSyn_false {s : ByteArray} (h : numSyn s = false) : Lib.trimPrefix s.data.toList [45] ≠ [] ∧ ∀ x ∈ Lib.trimPrefix s.data.toList [45], isD x = true := by
 simp only [numSyn, Bool.or_eq_false_iff, Bool.not_eq_false', beq_eq_false_iff_ne, beq_iff_eq, Lib.toList_data] at h
 obtain ⟨⟨h1, h2⟩, _⟩ := h
 exact ⟨fun e => h1 (by simp [trimPB, e]), trimS_nil (by simpa [trimDB, trimPB] using h2)⟩
theorem atoi_not_syntax {s : ByteArray} (h : numSyn s = false) : Lib.atoiAll s.data.toList ≠ Lib.NumEnd.syntax := by
 obtain ⟨h1, h2⟩ := numSyn_false h
 generalize s.data.toList = l at h1 h2
 match l with
 | [] => exact absurd rfl h1
 | c :: r =>
   have key : ∀ m : List UInt8, m ≠ [] → (∀ x ∈ m, isD x = true) → Lib.parseMag m ≠ Lib.NumEnd.syntax := fun m hm hd => by
     unfold Lib.parseMag
     rw [if_neg hm]
     exact parseUint_digits m 0 hd
   have hmag : Lib.parseMag (if c.toNat = 43 ∨ c.toNat = 45 then r else c :: r) ≠ Lib.NumEnd.syntax := by
     by_cases hc : c.toNat = 45
     · have hc' : c = 45 := UInt8.toNat_inj.1 hc
       subst hc'
       rw [if_pos (.inr rfl)]
       have e : Lib.trimPrefix (45 :: r) [45] = r := by simp [Lib.trimPrefix, Lib.hasPrefix, List.isPrefixOf]
       rw [e] at h1 h2
       exact key r h1 h2
     · have e : Lib.trimPrefix (c :: r) [45] = c :: r := by
         have : ¬ (45 : UInt8) = c := fun e => hc (by rw [← e]; rfl)
         simp [Lib.trimPrefix, Lib.hasPrefix, List.isPrefixOf, this]
       rw [e] at h1 h2
       have hd := h2 c (List.mem_cons_self ..)
       simp only [isD, Bool.and_eq_true, decide_eq_true_eq] at hd
       rw [if_neg (by omega)]
       exact key _ h1 h2
   intro hs
   unfold Lib.atoiAll at hs
   simp only at hs
   split at hs
   · rename_i heq
     exact hmag heq
   · cases hs
   · split at hs
     · cases hs
     · split at hs <;> cases hs
theorem trimPB_size (s : ByteArray) : (trimPB s).size ≤ s.size := by
 have e1 : (trimPB s).size = (Lib.trimPrefix s.data.toList [45]).length := by simp [trimPB, ByteArray.size]
 have e2 : s.size = s.data.toList.length := rfl
 rw [e1, e2]
 unfold Lib.trimPrefix
 split
 · simp
 · exact Nat.le_refl _
theorem beld_bytesWorld [Glb] (w : World) (t : ByteArray) : BelD w (Lib.bytesWorld w 5 t) := ⟨below_bytesWorld w t, fun _ => by unfold Lib.bytesWorld; rw [freeze_drawn]; exact Nat.le_succ _⟩
variable [Glb]
theorem trimP_ok (s : ByteArray) : APure Tryz.prog 107 [.str s, .str ⟨#[45]⟩] (.str (trimPB s)) := by
 refine apure_raw ⟨_, Tryz.func107, by kernel_rfl, rfl⟩ [.string s, .string ⟨#[45]⟩] fun w _ => (Tryz.strings_TrimPrefix s ⟨#[45]⟩ w).mono ?_
 rintro e w' ⟨rfl, rfl⟩
 exact ⟨rfl, BelD.refl _⟩
theorem trim_ok [NoDr] (s : ByteArray) (hs : s.size ≤ 9223372036854775807) : APure Tryz.prog 108 [.str s, .str digs10] (.str (trimDB s)) :=
 apure_raw ⟨_, Tryz.func108, by kernel_rfl, rfl⟩ [.string s, .string digs10] fun w _ => (Any.strings_Trim_laid Tryz.lays160 (by kernel_rfl) s digs10 w hs (by decide) (ascii_of_all (by decide))).mono fun _ _ ⟨e, hb⟩ => ⟨e, Below.noDr hb⟩
theorem number_ok [NoDr] [T : Tabs] (s : ByteArray) (hs : s.size ≤ 281474976710656) : APure Tryz.prog 71 [.str s] (.tup [.int (numB s).1, .int (numB s).2]) := by
 have FF : True := trivial
 refine apure_of Tryz.func71 rfl (by kernel_rfl) (by simp [Tryz.ntmps71]) ?_
 rw [Tryz.ntmps71]
 have hps := trimPB_size s
 refine awp_rseq (by decide) fun KK hKK => ?_
 refine m_assign ?_
 refine m_assign ?_
 refine hKK _ _ ?_
 clear hKK KK
 refine awp_rseq (by decide) fun KK hKK => ?_
 refine m_move ?_
 refine m_call (fun hG => trimP_ok s) ?_
 refine m_assign ?_
 refine hKK _ _ ?_
 clear hKK KK
 refine m_join (ι := Unit) (fun i => [(0, .str s)]) (fun i => []) (fun i => numSyn s = false) ?_ ?_
 · cases hE : (trimPB s).toList == (⟨#[]⟩ : ByteArray).toList with
   | true =>
     have hsy : numSyn s = true := by simp only [numSyn, hE, Bool.true_or]
     have hnb : numB s = (0, 8) := by simp [numB, hsy]
     refine awp_rseq (by decide) fun KK hKK => ?_
     refine st0 rfl (k_move (by simp only [go_sem, reduceIte, Nat.reduceEqDiff, FF, hE] <;> rfl)) ?_
     refine st0 rfl (k_bin (by simp only [go_sem, reduceIte, Nat.reduceEqDiff, FF, hE] <;> rfl) (by simp only [go_sem, reduceIte, Nat.reduceEqDiff, FF, hE] <;> rfl) (by rfl) (by rfl) (by simp only [go_sem, reduceIte, Nat.reduceEqDiff, FF, hE] <;> rfl) (by intro hG; simp only [go_sem])) ?_
     refine st0 rfl (k_move (by simp only [go_sem, reduceIte, Nat.reduceEqDiff, FF, hE] <;> rfl)) ?_
     refine sgF rfl (by simp only [go_sem, reduceIte, Nat.reduceEqDiff, FF, hE] <;> rfl) (by rfl) (by simp only [go_sem, reduceIte, Nat.reduceEqDiff, FF, hE, hE] <;> rfl) ?_
     refine sgF rfl (by simp only [go_sem, reduceIte, Nat.reduceEqDiff, FF, hE] <;> rfl) (by rfl) (by simp only [go_sem, reduceIte, Nat.reduceEqDiff, FF, hE, hE] <;> rfl) ?_
     refine sgF rfl (by simp only [go_sem, reduceIte, Nat.reduceEqDiff, FF, hE] <;> rfl) (by rfl) (by simp only [go_sem, reduceIte, Nat.reduceEqDiff, FF, hE, hE] <;> rfl) ?_
     refine st0 rfl (k_pick (by simp only [go_sem, reduceIte, Nat.reduceEqDiff, FF, hE] <;> rfl) (by simp only [go_sem, reduceIte, Nat.reduceEqDiff, FF, hE] <;> rfl) (by simp only [go_sem, reduceIte, Nat.reduceEqDiff, FF, hE] <;> rfl) (by rfl) (by rfl) (by rfl) (by intro hG; first | (simp only [go_sem, reduceIte, Nat.reduceEqDiff, FF, hE, hE]; done) | (simp [go_sem]; done) | (simp [go_sem] at hG ⊢ <;> simp [hG] <;> (intros; simp_all))) (by first | (simp only [go_sem, reduceIte, Nat.reduceEqDiff, FF, hE] <;> rfl) | rfl)) ?_
     refine st0 rfl (k_move (by simp only [go_sem, reduceIte, Nat.reduceEqDiff, FF, hE] <;> rfl)) ?_
     refine sgF rfl (by simp only [go_sem, reduceIte, Nat.reduceEqDiff, FF, hE] <;> rfl) (by rfl) (by simp only [go_sem, reduceIte, Nat.reduceEqDiff, FF, hE, hE] <;> rfl) ?_
     refine sgF rfl (by simp only [go_sem, reduceIte, Nat.reduceEqDiff, FF, hE] <;> rfl) (by rfl) (by simp only [go_sem, reduceIte, Nat.reduceEqDiff, FF, hE, hE] <;> rfl) ?_
     refine sgF rfl (by simp only [go_sem, reduceIte, Nat.reduceEqDiff, FF, hE] <;> rfl) (by rfl) (by simp only [go_sem, reduceIte, Nat.reduceEqDiff, FF, hE, hE] <;> rfl) ?_
     refine sgF rfl (by simp only [go_sem, reduceIte, Nat.reduceEqDiff, FF, hE] <;> rfl) (by rfl) (by simp only [go_sem, reduceIte, Nat.reduceEqDiff, FF, hE, hE] <;> rfl) ?_
     refine sgF rfl (by simp only [go_sem, reduceIte, Nat.reduceEqDiff, FF, hE] <;> rfl) (by rfl) (by simp only [go_sem, reduceIte, Nat.reduceEqDiff, FF, hE, hE] <;> rfl) ?_
     refine sgF rfl (by simp only [go_sem, reduceIte, Nat.reduceEqDiff, FF, hE] <;> rfl) (by rfl) (by simp only [go_sem, reduceIte, Nat.reduceEqDiff, FF, hE, hE] <;> rfl) ?_
     refine sgF rfl (by simp only [go_sem, reduceIte, Nat.reduceEqDiff, FF, hE] <;> rfl) (by rfl) (by simp only [go_sem, reduceIte, Nat.reduceEqDiff, FF, hE, hE] <;> rfl) ?_
     refine st0 rfl (k_pick (by simp only [go_sem, reduceIte, Nat.reduceEqDiff, FF, hE] <;> rfl) (by simp only [go_sem, reduceIte, Nat.reduceEqDiff, FF, hE] <;> rfl) (by simp only [go_sem, reduceIte, Nat.reduceEqDiff, FF, hE] <;> rfl) (by rfl) (by rfl) (by rfl) (by intro hG; first | (simp only [go_sem, reduceIte, Nat.reduceEqDiff, FF, hE, hE]; done) | (simp [go_sem]; done) | (simp [go_sem] at hG ⊢ <;> simp [hG] <;> (intros; simp_all))) (by first | (simp only [go_sem, reduceIte, Nat.reduceEqDiff, FF, hE] <;> rfl) | rfl)) ?_
     refine hKK _ _ ?_
     clear hKK KK
     refine awp_cond (by simp only [go_sem, reduceIte, Nat.reduceEqDiff, FF, hE] <;> rfl) (fun hc => ?_) (fun hc => ?_)
     · refine awp_rseq (by decide) fun KK hKK => ?_
       refine m_assign ?_
       refine m_assign ?_
       refine hKK _ _ ?_
       clear hKK KK
       refine awp_ret ⟨[_, _], ⟨⟨(by simp only [go_sem, reduceIte, Nat.reduceEqDiff, FF]), (by simp only [go_sem, reduceIte, Nat.reduceEqDiff, FF] <;> rfl)⟩, ⟨(by simp only [go_sem, reduceIte, Nat.reduceEqDiff, FF]), (by simp only [go_sem, reduceIte, Nat.reduceEqDiff, FF] <;> rfl)⟩, trivial⟩, ?_⟩
       simp only [go_sem, reduceIte, Nat.reduceEqDiff, FF, tupled]
       rw [hnb]
       exact CV.Sub.refl _
     · cases hc
   | false =>
     have hpos : 0 < (trimPB s).size := by
       refine Nat.pos_of_ne_zero fun h0 => ?_
       have : (trimPB s).toList = (⟨#[]⟩ : ByteArray).toList := by
         rw [Lib.toList_data, Lib.toList_data]
         exact List.eq_nil_of_length_eq_zero h0
       rw [this] at hE
       simp at hE
     have FF := And.intro hE FF
     refine awp_rseq (by decide) fun KK hKK => ?_
     refine m_move ?_
     refine m_bin ?_
     refine m_move ?_
     refine g_move ?_
     refine g_call (fun hG => trim_ok (trimPB s) (by omega)) ?_
     refine g_bin ?_
     refine m_pick ?_
     refine m_move ?_
     refine g_move ?_
     refine g_idx ?_
     refine g_bin ?_
     refine g_move ?_
     refine g_move ?_
     refine g_bin ?_
     refine g_pick ?_
     refine m_pick ?_
     refine hKK _ _ ?_
     clear hKK KK
     refine m_cond (fun hc => ?_) (fun hc => ?_)
     · have hsy : numSyn s = true := by
         simp only [numSyn, hE, Bool.false_or]
         exact hc
       have hnb : numB s = (0, 8) := by simp [numB, hsy]
       refine awp_rseq (by decide) fun KK hKK => ?_
       refine m_assign ?_
       refine m_assign ?_
       refine hKK _ _ ?_
       clear hKK KK
       refine awp_ret ⟨[_, _], ⟨⟨(by simp only [go_sem, reduceIte, Nat.reduceEqDiff, FF]), (by simp only [go_sem, reduceIte, Nat.reduceEqDiff, FF] <;> rfl)⟩, ⟨(by simp only [go_sem, reduceIte, Nat.reduceEqDiff, FF]), (by simp only [go_sem, reduceIte, Nat.reduceEqDiff, FF] <;> rfl)⟩, trivial⟩, ?_⟩
       simp only [go_sem, reduceIte, Nat.reduceEqDiff, FF, tupled]
       rw [hnb]
       exact CV.Sub.refl _
     · refine awp_skip ?_
       try rw [thenQ_normal]
       refine ⟨(), ?_, (by simp only [List.forall_mem_cons, List.forall_mem_nil, go_sem, reduceIte, Nat.reduceEqDiff, FF]; all_goals ((repeat' apply And.intro) <;> first | trivial | rfl | exact objLe_refl _ | (intro _ _; exact Subs.refl _))), (by simp only [List.forall_mem_cons, List.forall_mem_nil, go_sem, reduceIte, Nat.reduceEqDiff, FF]; all_goals ((repeat' apply And.intro) <;> first | trivial | rfl | exact objLe_refl _ | (intro _ _; exact Subs.refl _)))⟩
       simp only [numSyn, hE, Bool.false_or]
       exact hc
 rintro - hsyn
 have hcases : (∃ v, Lib.atoiAll s.data.toList = .ok v) ∨ Lib.atoiAll s.data.toList = .range := by
   have := atoi_not_syntax hsyn
   cases h : Lib.atoiAll s.data.toList with
   | ok v => exact .inl ⟨v, rfl⟩
   | range => exact .inr rfl
   | _ => exact absurd h this
 rcases hcases with ⟨v, hv⟩ | hv
 · have hnb : numB s = (v, 0) := by simp [numB, hsyn, hv]
   refine awp_seqL ?_
   refine awpl_op (by rfl) (by rfl) ?_
   refine m_move ?_
   refine run_nil ?_
   refine awpl_fam (α := Unit) ⟨_, Tryz.func109, by kernel_rfl, rfl⟩ [.string s] (fun _ => .tuple #[.int .i64 v, .nilIface]) (fun _ => .tup [.int v, .raw .nilIface]) (fun _ w Z => .tup _ _ rfl fun i hi => ?_) (fun w _ => (Tryz.strconv_Atoi_ok s (by omega) v hv w).mono ?_) (fun _ => ?_) (by simp only [List.map, go_sem, reduceIte, Nat.reduceEqDiff] <;> rfl) (by decide)
   · match i, hi with
     | 0, _ => exact .raw _
     | 1, _ => exact .raw _
   · rintro e w' ⟨rfl, rfl | ⟨t, rfl⟩⟩
     · exact ⟨(), rfl, BelD.refl _⟩
     · exact ⟨(), rfl, beld_bytesWorld _ _⟩
   refine awpl_op (by rfl) (by rfl) ?_
   refine m_move ?_
   refine run_nil ?_
   refine awpl_op (by rfl) (by rfl) ?_
   refine m_extract ?_
   refine run_nil ?_
   refine awpl_op (by rfl) (by rfl) ?_
   refine m_extract ?_
   refine run_nil ?_
   refine awpl_op (by rfl) (by rfl) ?_
   refine m_assign ?_
   refine run_nil ?_
   refine awpl_op (by rfl) (by rfl) ?_
   refine m_assign ?_
   refine run_nil ?_
   refine awpl_end ?_
   rw [thenQ_normal]
   refine awp_seq ?_
   refine awp_seqL ?_
   refine awpl_op (by rfl) (by rfl) ?_
   refine m_move ?_
   refine run_nil ?_
   refine awpl_neqNil (v := .nilIface) (b := false) (by simp only [go_sem, reduceIte, Nat.reduceEqDiff] <;> rfl) (.inl ⟨rfl, rfl⟩) Tryz.undErr (by decide) ?_
   refine awpl_end ?_
   rw [thenQ_normal]
   refine m_cond (fun hc => ?_) (fun hc => ?_)
   · cases hc
   refine awp_skip ?_
   first | rw [thenQ_normal] | rw [blockQ_normal, thenQ_normal]
   refine awp_rseq (by decide) fun KK hKK => ?_
   refine m_move ?_
   refine m_assign ?_
   refine m_assign ?_
   refine hKK _ _ ?_
   clear hKK KK
   refine awp_ret ⟨[_, _], ⟨⟨(by simp only [go_sem, reduceIte, Nat.reduceEqDiff, FF]), (by simp only [go_sem, reduceIte, Nat.reduceEqDiff, FF] <;> rfl)⟩, ⟨(by simp only [go_sem, reduceIte, Nat.reduceEqDiff, FF]), (by simp only [go_sem, reduceIte, Nat.reduceEqDiff, FF] <;> rfl)⟩, trivial⟩, ?_⟩
   simp only [go_sem, reduceIte, Nat.reduceEqDiff, FF, tupled]
   rw [hnb]
   exact CV.Sub.refl _
 · have hnb : numB s = (0, 2) := by simp [numB, hsyn, hv]
   refine awp_seqL ?_
   refine awpl_op (by rfl) (by rfl) ?_
   refine m_move ?_
   refine run_nil ?_
   refine awpl_fam (α := Nat) ⟨_, Tryz.func109, by kernel_rfl, rfl⟩ [.string s] (fun N => .tuple #[.int .i64 (Lib.atoiSat s.data.toList), .iface 451 (.pointer (some ⟨N, 0, none⟩))]) (fun N => .tup [.int (Lib.atoiSat s.data.toList), .raw (.iface 451 (.pointer (some ⟨N, 0, none⟩)))]) (fun _ w Z => .tup _ _ rfl fun i hi => ?_) (fun w hg => ?_) (fun N => ?_) (by simp only [List.map, go_sem, reduceIte, Nat.reduceEqDiff] <;> rfl) (by decide)
   · match i, hi with
     | 0, _ => exact .raw _
     | 1, _ => exact .raw _
   · obtain ⟨te, pe, hcell⟩ := (T.ok w hg).2.2
     refine (Tryz.strconv_Atoi_range s hs hv _ w hcell (.inr ⟨te, pe, rfl⟩)).mono ?_
     rintro e w' ⟨N, rfl, _, _, hb⟩
     exact ⟨N, rfl, Below.noDr hb⟩
   refine awpl_op (by rfl) (by rfl) ?_
   refine m_move ?_
   refine run_nil ?_
   refine awpl_op (by rfl) (by rfl) ?_
   refine m_extract ?_
   refine run_nil ?_
   refine awpl_op (by rfl) (by rfl) ?_
   refine m_extract ?_
   refine run_nil ?_
   refine awpl_op (by rfl) (by rfl) ?_
   refine m_assign ?_
   refine run_nil ?_
   refine awpl_op (by rfl) (by rfl) ?_
   refine m_assign ?_
   refine run_nil ?_
   refine awpl_end ?_
   rw [thenQ_normal]
   refine awp_seq ?_
   refine awp_seqL ?_
   refine awpl_op (by rfl) (by rfl) ?_
   refine m_move ?_
   refine run_nil ?_
   refine awpl_neqNil (v := .iface 451 (.pointer (some ⟨N, 0, none⟩))) (b := true) (by simp only [go_sem, reduceIte, Nat.reduceEqDiff] <;> rfl) (.inr ⟨⟨_, _, rfl⟩, rfl⟩) Tryz.undErr (by decide) ?_
   refine awpl_end ?_
   rw [thenQ_normal]
   refine m_cond (fun hc => ?_) (fun hc => ?_)
   · refine awp_rseq (by decide) fun KK hKK => ?_
     refine m_assign ?_
     refine m_assign ?_
     refine hKK _ _ ?_
     clear hKK KK
     refine awp_ret ⟨[_, _], ⟨⟨(by simp only [go_sem, reduceIte, Nat.reduceEqDiff, FF]), (by simp only [go_sem, reduceIte, Nat.reduceEqDiff, FF] <;> rfl)⟩, ⟨(by simp only [go_sem, reduceIte, Nat.reduceEqDiff, FF]), (by simp only [go_sem, reduceIte, Nat.reduceEqDiff, FF] <;> rfl)⟩, trivial⟩, ?_⟩
     simp only [go_sem, reduceIte, Nat.reduceEqDiff, FF, tupled]
     rw [hnb]
     exact CV.Sub.refl _
   · cases hc
end Go.Am
namespace Go.Am
open Go.Proofs
theorem dig_toNat {d : Nat} (h : d < 10) : (UInt8.ofNat (48 + d)).toNat = 48 + d := by
 rw [UInt8.toNat_ofNat']
 omega
theorem dec_step {a d : Nat} (ha : 0 < a) (hd : d < 10) : Lib.decDigits (a * 10 + d) = Lib.decDigits a ++ [UInt8.ofNat (48 + d)] := by
 rw [Lib.decDigits, dif_neg (by omega), show (a * 10 + d) / 10 = a by omega, show (a * 10 + d) % 10 = d by omega]
theorem dec_div {u : Nat} (h : 10 ≤ u) : Lib.decDigits u = Lib.decDigits (u / 10) ++ [UInt8.ofNat (48 + u % 10)] := by
 rw [Lib.decDigits, dif_neg (by omega)]
theorem isD_dig {d : Nat} (h : d < 10) : isD (UInt8.ofNat (48 + d)) = true := by
 rw [isD, dig_toNat h]
 simp
 omega
theorem dec_facts : ∀ u : Nat, (∀ x ∈ Lib.decDigits u, isD x = true) ∧ ∃ c r, Lib.decDigits u = c :: r ∧ (0 < u → c.toNat ≠ 48) := by
 intro u
 induction u using Nat.strongRecOn with
 | _ u ih =>
   by_cases h : u < 10
   · rw [Lib.decDigits_one h]
     refine ⟨fun x hx => ?_, _, [], rfl, fun h0 => ?_⟩
     · simp only [List.mem_cons, List.not_mem_nil, or_false] at hx
       rw [hx]
       exact isD_dig h
     · rw [dig_toNat h]
       omega
   · obtain ⟨i1, c, r, i2, i3⟩ := ih (u / 10) (by omega)
     rw [dec_div (by omega)]
     refine ⟨fun x hx => ?_, c, r ++ [UInt8.ofNat (48 + u % 10)], by rw [i2]; rfl, fun _ => i3 (by omega)⟩
     rw [List.mem_append] at hx
     rcases hx with hx | hx
     · exact i1 x hx
     · simp only [List.mem_cons, List.not_mem_nil, or_false] at hx
       rw [hx]
       exact isD_dig (by omega)
theorem dec_zero : Lib.decDigits 0 = [48] := by rw [Lib.decDigits_one (by omega)]; rfl
theorem parse_app : ∀ (l r : List UInt8) (acc a : Nat), Lib.parseUint10 acc l = .ok a → Lib.parseUint10 acc (l ++ r) = Lib.parseUint10 a r
 | [], r, acc, a, h => by
   simp only [Lib.parseUint10] at h
   injection h with h
   rw [h]
   rfl
 | c :: l, r, acc, a, h => by
   rw [List.cons_append]
   rw [Lib.parseUint10] at h ⊢
   split at h
   · rename_i hc
     rw [if_pos hc]
     split at h
     · cases h
     · rename_i h1
       rw [if_neg h1]
       split at h
       · cases h
       · rename_i h2
         rw [if_neg h2]
         exact parse_app l r _ _ h
   · cases h
theorem parse_dec : ∀ u : Nat, u < 18446744073709551616 → Lib.parseUint10 0 (Lib.decDigits u) = .ok u := by
 intro u
 induction u using Nat.strongRecOn with
 | _ u ih =>
   intro hu
   by_cases h : u < 10
   · rw [Lib.decDigits_one h, Lib.parseUint10, dig_toNat h, if_pos (by omega), if_neg (by omega), if_neg (by omega), Lib.parseUint10]
     congr 1
     omega
   · rw [dec_div (by omega), parse_app _ _ _ _ (ih (u / 10) (by omega) (by omega)), Lib.parseUint10, dig_toNat (by omega), if_pos (by omega), if_neg (by omega), if_neg (by omega), Lib.parseUint10]
     congr 1
     omega
theorem dec_of_parse : ∀ (l : List UInt8) (acc u : Nat), 0 < acc → Lib.parseUint10 acc l = .ok u → Lib.decDigits u = Lib.decDigits acc ++ l
 | [], acc, u, ha, h => by
   simp only [Lib.parseUint10] at h
   injection h with h
   rw [h, List.append_nil]
 | c :: l, acc, u, ha, h => by
   rw [Lib.parseUint10] at h
   split at h
   · rename_i hc
     split at h
     · cases h
     · split at h
       · cases h
       · have := dec_of_parse l _ u (by omega) h
         rw [this, dec_step ha (by omega), List.append_assoc]
         congr 2
         rw [show 48 + (c.toNat - 48) = c.toNat by omega]
         exact congrArg (· :: l) (UInt8.ofNat_toNat)
   · cases h
theorem dec_canon {c : UInt8} {l : List UInt8} {u : Nat} (hd : isD c = true) (h0 : c.toNat ≠ 48) (h : Lib.parseUint10 0 (c :: l) = .ok u) : Lib.decDigits u = c :: l ∧ 0 < u := by
 simp only [isD, Bool.and_eq_true, decide_eq_true_eq] at hd
 rw [Lib.parseUint10, if_pos hd, if_neg (by omega)] at h
 split at h
 · cases h
 · have e : 0 * 10 + (c.toNat - 48) = c.toNat - 48 := by omega
   rw [e] at h
   have := dec_of_parse l _ u (by omega) h
   rw [Lib.decDigits_one (i := c.toNat - 48) (by omega), show 48 + (c.toNat - 48) = c.toNat by omega, UInt8.ofNat_toNat] at this
   refine ⟨this, ?_⟩
   rcases Nat.eq_zero_or_pos u with h1 | h1
   · subst h1
     rw [dec_zero] at this
     injection this with this
     rw [← this] at h0
     exact absurd rfl h0
   · exact h1
theorem trimP_neg (l : List UInt8) : Lib.trimPrefix (45 :: l) [45] = l := by simp [Lib.trimPrefix, Lib.hasPrefix, List.isPrefixOf]
theorem trimP_pos {c : UInt8} (l : List UInt8) (h : c ≠ 45) : Lib.trimPrefix (c :: l) [45] = c :: l := by
 have : ¬ (45 : UInt8) = c := fun e => h e.symm
 simp [Lib.trimPrefix, Lib.hasPrefix, List.isPrefixOf, this]
theorem byteAt0 (c : UInt8) (l : List UInt8) : byteAt ⟨(c :: l).toArray⟩ 0 = c.toNat := by
 unfold byteAt
 have : (⟨(c :: l).toArray⟩ : ByteArray)[0]? = some c := rfl
 rw [this]
 rfl
theorem numSyn_of {s : ByteArray} {c : UInt8} {r : List UInt8} (ht : Lib.trimPrefix s.data.toList [45] = c :: r) : numSyn s = (!((c :: r).all isD) || (c.toNat == 48 && !(s.data.toList == [48]))) := by
 unfold numSyn
 have e1 : trimPB s = ⟨(c :: r).toArray⟩ := by rw [trimPB, ht]
 have e2 : ((trimPB s).toList == (⟨#[]⟩ : ByteArray).toList) = false := by rw [e1]; simp [Lib.toList_data]
 have e3 : ((trimDB (trimPB s)).toList == (⟨#[]⟩ : ByteArray).toList) = (c :: r).all isD := by
   rw [e1]
   cases h : (c :: r).all isD with
   | true =>
     rw [List.all_eq_true] at h
     have := trimS_all h
     simp [Lib.toList_data, trimDB, this]
   | false =>
     have : Lib.trimS (c :: r) digs10.data.toList ≠ [] := fun e => by
       have := List.all_eq_true.2 (trimS_nil e)
       rw [h] at this
       cases this
     simp [Lib.toList_data, trimDB, this]
 have e4 : (byteAt (trimPB s) 0 == 48) = (c.toNat == 48) := by
   rw [e1, byteAt0]
   rw [Bool.eq_iff_iff]
   simp
   omega
 rw [e2, e3, e4]
 simp [Lib.toList_data]
theorem numB_neg (c : UInt8) (l : List UInt8) : numB ⟨(45 :: c :: l).toArray⟩ = (if !((c :: l).all isD) || c.toNat == 48 then ((0 : Int), (8 : Int)) else match Lib.parseUint10 0 (c :: l) with
   | .ok u => if 9223372036854775808 < u then (0, 2) else (-(u : Int), 0)
   | _ => (0, 2)) := by
 unfold numB
 rw [numSyn_of (s := ⟨(45 :: c :: l).toArray⟩) (trimP_neg (c :: l))]
 have e : ((⟨(45 :: c :: l).toArray⟩ : ByteArray).data.toList == [48]) = false := by simp
 rw [e]
 simp only [Bool.not_false, Bool.and_true]
 split
 · rfl
 · have ea : Lib.atoiAll (45 :: c :: l) = match Lib.parseUint10 0 (c :: l) with
       | .ok u => if 9223372036854775808 < u then .range else .ok (-(u : Int))
       | .range => .range
       | _ => Lib.NumEnd.syntax := by
     unfold Lib.atoiAll Lib.parseMag
     simp only [show (45 : UInt8).toNat = 45 from rfl, or_true, if_true, List.cons_ne_nil, if_false, not_true_eq_false, false_and, true_and]
     cases Lib.parseUint10 0 (c :: l) with
     | ok u => rfl
     | _ => rfl
   show (match Lib.atoiAll (45 :: c :: l) with | .ok v => (v, 0) | _ => ((0 : Int), (2 : Int))) = _
   rw [ea]
   cases Lib.parseUint10 0 (c :: l) with
   | ok u =>
     dsimp only
     by_cases hu : 9223372036854775808 < u <;> simp only [hu, if_true, if_false]
   | _ => rfl
theorem numB_pos (c : UInt8) (l : List UInt8) (hc : isD c = true) : numB ⟨(c :: l).toArray⟩ = (if !((c :: l).all isD) || (c.toNat == 48 && !(l == [])) then ((0 : Int), (8 : Int)) else match Lib.parseUint10 0 (c :: l) with
   | .ok u => if 9223372036854775808 ≤ u then (0, 2) else ((u : Int), 0)
   | _ => (0, 2)) := by
 simp only [isD, Bool.and_eq_true, decide_eq_true_eq] at hc
 have hne : c ≠ 45 := fun e => by rw [e] at hc; simp at hc
 unfold numB
 rw [numSyn_of (s := ⟨(c :: l).toArray⟩) (trimP_pos l hne)]
 have e : (c.toNat == 48 && !((⟨(c :: l).toArray⟩ : ByteArray).data.toList == [48])) = (c.toNat == 48 && !(l == [])) := by
   cases h : c.toNat == 48 with
   | false => rfl
   | true =>
     have : c = 48 := UInt8.toNat_inj.1 (by simpa using h)
     subst this
     cases l <;> simp
 rw [e]
 split
 · rfl
 · have ea : Lib.atoiAll (c :: l) = match Lib.parseUint10 0 (c :: l) with
       | .ok u => if 9223372036854775808 ≤ u then .range else .ok (u : Int)
       | .range => .range
       | _ => Lib.NumEnd.syntax := by
     unfold Lib.atoiAll Lib.parseMag
     have h1 : ¬ c.toNat = 43 := by omega
     have h2 : ¬ c.toNat = 45 := by omega
     simp only [h1, h2, or_self, if_false, List.cons_ne_nil, not_false_eq_true, true_and, false_and]
     cases Lib.parseUint10 0 (c :: l) with
     | ok u => rfl
     | _ => rfl
   show (match Lib.atoiAll (c :: l) with | .ok v => (v, 0) | _ => ((0 : Int), (2 : Int))) = _
   rw [ea]
   cases Lib.parseUint10 0 (c :: l) with
   | ok u =>
     dsimp only
     by_cases hu : 9223372036854775808 ≤ u <;> simp only [hu, if_true, if_false]
   | _ => rfl
theorem itoa_neg {n : Int} (h : n < 0) : Lib.itoa n = 45 :: Lib.decDigits n.natAbs := by rw [Lib.itoa, if_pos h]
theorem itoa_pos {n : Int} (h : 0 ≤ n) : Lib.itoa n = Lib.decDigits n.toNat := by rw [Lib.itoa, if_neg (by omega)]
theorem num_dec {n : Int} (h : inI n) : numB (decB n) = (n, 0) := by
 unfold decB
 obtain ⟨h1, h2⟩ := h
 by_cases hn : n < 0
 · rw [itoa_neg hn]
   obtain ⟨f1, c, r, f2, f3⟩ := dec_facts n.natAbs
   have hp := parse_dec n.natAbs (by omega)
   rw [f2] at f1 hp ⊢
   rw [numB_neg, if_neg, hp]
   · dsimp only
     rw [if_neg (by omega)]
     congr 1
     omega
   · have := List.all_eq_true.2 f1
     rw [this]
     simpa using f3 (by omega)
 · rw [itoa_pos (by omega)]
   obtain ⟨f1, c, r, f2, f3⟩ := dec_facts n.toNat
   have hp := parse_dec n.toNat (by omega)
   have hz : n.toNat = 0 → c = 48 ∧ r = [] := fun e => by
     rw [e, dec_zero] at f2
     injection f2 with a b
     exact ⟨a.symm, b.symm⟩
   rw [f2] at f1 hp ⊢
   rw [numB_pos c r (f1 c (List.mem_cons_self ..)), if_neg, hp]
   · dsimp only
     rw [if_neg (by omega)]
     congr 1
     omega
   · have := List.all_eq_true.2 f1
     rw [this]
     rcases Nat.eq_zero_or_pos n.toNat with h0 | h0
     · rw [(hz h0).2]
       simp
     · have := f3 h0
       simp [this]
theorem num_canon {b : ByteArray} (h : (numB b).2 = 0) : inI (numB b).1 ∧ decB (numB b).1 = b := by
 obtain ⟨⟨l⟩⟩ := b
 match l, h with
 | [], h =>
   rw [show numB ⟨⟨[]⟩⟩ = (0, 8) by kernel_rfl] at h
   exact absurd h (by decide)
 | c :: r, h =>
   by_cases hc : c = 45
   · subst hc
     match r, h with
     | [], h =>
       rw [show numB ⟨⟨[45]⟩⟩ = (0, 8) by kernel_rfl] at h
       exact absurd h (by decide)
     | c :: r, h =>
       rw [numB_neg] at h ⊢
       split at h
       · exact absurd h (by decide)
       · rename_i hs
         rw [if_neg hs]
         simp only [Bool.or_eq_true, Bool.not_eq_true', beq_iff_eq, not_or, Bool.not_eq_false] at hs
         have hd := List.all_eq_true.1 hs.1 c (List.mem_cons_self ..)
         cases hp : Lib.parseUint10 0 (c :: r) with
         | ok u =>
           rw [hp] at h
           dsimp only at h ⊢
           split at h
           · exact absurd h (by decide)
           · rename_i hu
             rw [if_neg hu]
             dsimp only
             obtain ⟨k1, k2⟩ := dec_canon hd hs.2 hp
             refine ⟨⟨by omega, by omega⟩, ?_⟩
             rw [decB, itoa_neg (by omega), show (-(u : Int)).natAbs = u by omega, k1]
         | _ =>
           rw [hp] at h
           exact absurd h (by decide)
   · cases hd : isD c with
     | false =>
       exfalso
       have : numB ⟨(c :: r).toArray⟩ = (0, 8) := by
         unfold numB
         rw [numSyn_of (s := ⟨(c :: r).toArray⟩) (trimP_pos r hc), if_pos (by simp [hd])]
       rw [this] at h
       exact absurd h (by decide)
     | true =>
       rw [numB_pos c r hd] at h ⊢
       split at h
       · exact absurd h (by decide)
       · rename_i hs
         rw [if_neg hs]
         simp only [Bool.or_eq_true, Bool.not_eq_true', Bool.and_eq_true, beq_iff_eq, not_or, not_and, Bool.not_eq_false] at hs
         cases hp : Lib.parseUint10 0 (c :: r) with
         | ok u =>
           rw [hp] at h
           dsimp only at h ⊢
           split at h
           · exact absurd h (by decide)
           · rename_i hu
             rw [if_neg hu]
             dsimp only
             refine ⟨⟨by omega, by omega⟩, ?_⟩
             rw [decB, itoa_pos (by omega), show ((u : Int)).toNat = u by omega]
             by_cases h0 : c.toNat = 48
             · have hr := hs.2 h0
               have hr' : r = [] := by simpa using hr
               have hc' : c = 48 := UInt8.toNat_inj.1 h0
               subst hr' hc'
               have : u = 0 := by
                 have e : Lib.parseUint10 0 [48] = .ok 0 := by decide
                 rw [e] at hp
                 injection hp with hp
                 exact hp.symm
               rw [this, dec_zero]
             · rw [(dec_canon hd h0 hp).1]
         | _ =>
           rw [hp] at h
           exact absurd h (by decide)
end Go.Am
namespace Go.Am
open Go.Proofs
theorem byteAt_list (s : ByteArray) (i : Nat) : byteAt s i = ((s.data.toList[i]?.getD 0).toNat : Int) := by
 by_cases h : i < s.size
 · rw [byteAt_eq s i h]
   have h' : i < s.data.toList.length := h
   rw [List.getElem?_eq_getElem h']
   rfl
 · unfold byteAt
   rw [getElem?_neg s i h, List.getElem?_eq_none (by exact Nat.le_of_not_lt h)]
theorem allB_iff (p : Int → Bool) (s : ByteArray) : ∀ n, allB p s n = true ↔ ∀ i, i < n → p (byteAt s i) = true
 | 0 => by simp [allB]
 | n + 1 => by
   rw [allB, Bool.and_eq_true, allB_iff p s n]
   constructor
   · rintro ⟨h1, h2⟩ i hi
     by_cases e : i = n
     · subst e; exact h2
     · exact h1 i (by omega)
   · intro h
     exact ⟨fun i hi => h i (by omega), h n (by omega)⟩
structure NamedAt (s : ByteArray) (a b : Nat) : Prop where
 lt : a < b
 short : b ≤ a + 32
 notD : digitB (byteAt s a) = false
 notM : byteAt s a ≠ 45
 all : ∀ i, a ≤ i → i < b → partB (byteAt s i) false = true
end Go.Am
namespace Go.Am
open Go.Proofs
attribute [local go_sem ↓] ofL_cons ofH_cons upd_apply
set_option maxHeartbeats 4000000
set_option linter.unusedSimpArgs false
theorem byteAt_get (g : ByteArray) {i : Nat} (h : i < g.size) : ∃ c, g.data.toList[i]? = some c ∧ byteAt g i = (c.toNat : Int) ∧ g.data.toList.drop i = c :: g.data.toList.drop (i + 1) := by
 have h' : i < g.data.toList.length := h
 refine ⟨g.data.toList[i], List.getElem?_eq_getElem h', ?_, List.drop_eq_getElem_cons h'⟩
 rw [byteAt_list, List.getElem?_eq_getElem h']
 rfl
theorem bin_kmul (k : IntKind) (a b : Int) : bin .mul (.int k a) (.int k b) = some (.int k (k.wrap (a * b))) := by simp [bin, isShift]
attribute [local go_sem] bin_kmul
variable [Glb]
end Go.Am
namespace Go.Am
open Go.Proofs
def decL (n : Int) : List UInt8 := Lib.itoa n
def numL (b : List UInt8) : Option Int := if (numB ⟨b.toArray⟩).2 = 0 then some (numB ⟨b.toArray⟩).1 else none
theorem isD_line {c : UInt8} (h : isD c = true) : lineC c = true ∧ c ≠ 32 := by
 unfold isD at h
 simp only [Bool.and_eq_true, decide_eq_true_eq] at h
 refine ⟨by unfold lineC; simp only [Bool.and_eq_true, decide_eq_true_eq]; omega, fun e => ?_⟩
 subst e
 exact absurd h.1 (by decide)
theorem dec_word {n : Int} : WordOk (decL n) := by
 unfold decL
 have key : ∀ u : Nat, WordOk (Lib.decDigits u) := fun u => by
   obtain ⟨h1, c, r, h2, _⟩ := dec_facts u
   exact ⟨by rw [h2]; simp, fun x hx => isD_line (h1 x hx)⟩
 by_cases h : n < 0
 · rw [itoa_neg h]
   refine ⟨by simp, fun x hx => ?_⟩
   rcases List.mem_cons.1 hx with rfl | hx
   · exact ⟨by decide, by decide⟩
   · exact (key _).cs x hx
 · rw [itoa_pos (by omega)]
   exact key _
theorem numOk : NumOk decL numL where
 dn n h := by
   have := num_dec (n := n) h
   unfold numL decL
   have e : (⟨(Lib.itoa n).toArray⟩ : ByteArray) = decB n := rfl
   rw [e, this]
   rfl
 nd b n h := by
   unfold numL at h
   split at h
   · rename_i h0
     injection h with h
     subst h
     obtain ⟨h1, h2⟩ := num_canon h0
     refine ⟨h1, ?_⟩
     have := congrArg (fun x : ByteArray => x.data.toList) h2
     simpa [decB, decL] using this
   · cases h
 wd n _ := dec_word
 d0 := by unfold decL; rw [itoa_pos (by decide)]; exact dec_zero
 d1 := by unfold decL; rw [itoa_pos (by decide)]; show Lib.decDigits 1 = [49]; rw [Lib.decDigits_one (by decide)]; rfl
end Go.Am
namespace Go.Am
open Go.Proofs
end Go.Am
namespace Go.Am
open Go.Proofs
attribute [local go_sem ↓] ofL_cons ofH_cons upd_apply
set_option maxHeartbeats 2000000
set_option linter.unusedSimpArgs false
def badRU (k : Nat) (r : Int) : Bool := !upperB r && ((k : Int) == 0 || (!digitB r && r != 45))
theorem part_highU {c : Int} (h : 128 ≤ c) : partB c true = false ∧ upperB c = false ∧ digitB c = false ∧ c ≠ 45 := by
 have h1 : ¬ c ≤ 57 := by omega
 have h2 : ¬ c ≤ 90 := by omega
 have h3 : c ≠ 45 := by omega
 simp [partB, upperB, digitB, h1, h2, h3]
theorem named_notU {s : ByteArray} {k : Nat} (h : k < s.size) (hp : partB (byteAt s k) true = false) : namedB s true = false := by
 unfold namedB
 split
 · rfl
 · exact allB_false (p := fun c => partB c true) hp s.size h
theorem bad_namedU {s : ByteArray} {k : Nat} (h : k < s.size) (hb : badRU k (Utf8.decode s k).1 = true) : namedB s true = false := by
 rcases decode_cases s k h with ⟨_, e⟩ | ⟨e1, e2⟩
 · rw [← e] at hb
   simp only [badRU, Bool.and_eq_true, Bool.not_eq_true', Bool.or_eq_true, beq_iff_eq, bne_iff_ne, ne_eq] at hb
   obtain ⟨h1, h2 | ⟨h2, h3⟩⟩ := hb
   · have hk : k = 0 := by omega
     subst hk
     unfold namedB
     by_cases h4 : digitB (byteAt s 0) = true
     · simp [h4]
     · by_cases h5 : byteAt s 0 = 45
       · simp [h5]
       · split
         · rfl
         · exact allB_false (p := fun c => partB c true) (i := 0) (by simp [partB, h4, h5, h1]) s.size h
   · exact named_notU h (by simp [partB, h1, h2, h3])
 · exact named_notU h (part_highU e1).1
theorem good_stepU {s : ByteArray} {k : Nat} (h : k < s.size) (hb : badRU k (Utf8.decode s k).1 = false) : (Utf8.decode s k).2 = 1 ∧ partB (byteAt s k) true = true ∧ (k = 0 → upperB (byteAt s 0) = true) := by
 rcases decode_cases s k h with ⟨e0, e⟩ | ⟨e1, e2⟩
 · rw [← e] at hb
   refine ⟨by rw [e0], ?_, ?_⟩
   · cases h1 : upperB (byteAt s k) with
     | true => simp [partB, h1]
     | false =>
       simp only [badRU, h1, Bool.not_false, Bool.true_and, Bool.or_eq_false_iff, Bool.and_eq_false_iff, Bool.not_eq_false', bne_eq_false_iff_eq] at hb
       rcases hb.2 with h2 | h2
       · simp [partB, h2]
       · simp [partB, h2]
   · intro hk
     subst hk
     cases h1 : upperB (byteAt s 0) with
     | true => rfl
     | false => simp [badRU, h1] at hb
 · obtain ⟨_, p2, p3, p4⟩ := part_highU (c := ((Utf8.decode s k).1 : Int)) (by omega)
   simp [badRU, p2, p3, p4] at hb
theorem upper_not {c : Int} (h : upperB c = true) : digitB c = false ∧ c ≠ 45 := by
 simp only [upperB, Bool.and_eq_true, decide_eq_true_eq] at h
 have : ¬ c ≤ 57 := by omega
 simp [digitB, this]
 omega
variable [Glb]
theorem tupper_ok (c : Int) : APure Tryz.prog 264 [.raw (.int .i32 c)] (.bool (upperB c)) := by
 have FF : True := trivial
 refine apure_of Tryz.func264 rfl (by kernel_rfl) (by simp [Tryz.ntmps264]) ?_
 rw [Tryz.ntmps264]
 refine awp_rseq (by decide) fun KK hKK => ?_
 refine m_assign ?_
 refine hKK _ _ ?_
 clear hKK KK
 refine awp_rseq (by decide) fun KK hKK => ?_
 refine m_move ?_
 refine m_bin ?_
 refine m_move ?_
 refine g_move ?_
 refine g_bin ?_
 refine m_pick ?_
 refine m_assign ?_
 refine hKK _ _ ?_
 clear hKK KK
 refine awp_ret ⟨[_], ⟨⟨(by simp only [go_sem, reduceIte, Nat.reduceEqDiff, FF]), (by simp only [go_sem, reduceIte, Nat.reduceEqDiff, FF] <;> rfl)⟩, trivial⟩, ?_⟩
 simp only [go_sem, reduceIte, Nat.reduceEqDiff, FF, tupled]
 exact CV.Sub.refl _
theorem follows_okU (s : ByteArray) : APure Tryz.prog 65 [.str s, .raw (.func (.func 264) #[] #[])] (.bool (namedB s true)) := by
 have FF : True := trivial
 refine apure_of Tryz.func65 rfl (by kernel_rfl) (by simp [Tryz.ntmps65]) ?_
 rw [Tryz.ntmps65]
 refine awp_rseq (by decide) fun KK hKK => ?_
 refine m_assign ?_
 refine hKK _ _ ?_
 clear hKK KK
 refine awp_seq ?_
 refine awp_rseq (by decide) fun KK hKK => ?_
 refine m_move ?_
 refine m_len ?_
 refine m_bin ?_
 refine m_move ?_
 refine g_move ?_
 refine g_len ?_
 refine g_bin ?_
 refine m_pick ?_
 refine hKK _ _ ?_
 clear hKK KK
 refine m_cond (fun hc => ?_) (fun hc => ?_)
 · refine awp_rseq (by decide) fun KK hKK => ?_
   refine m_assign ?_
   refine hKK _ _ ?_
   clear hKK KK
   refine awp_ret ⟨[_], ⟨⟨(by simp only [go_sem, reduceIte, Nat.reduceEqDiff, FF]), (by simp only [go_sem, reduceIte, Nat.reduceEqDiff, FF] <;> rfl)⟩, trivial⟩, ?_⟩
   simp only [go_sem, reduceIte, Nat.reduceEqDiff, FF, tupled]
   have e0 : namedB s true = false := by
     unfold namedB
     simp only [Bool.or_eq_true, beq_iff_eq, decide_eq_true_eq] at hc
     rw [if_pos]
     simp only [Bool.or_eq_true, decide_eq_true_eq]
     rcases hc with hc | hc
     · exact .inl (.inl (.inl (by omega)))
     · exact .inl (.inl (.inr (by omega)))
   rw [e0]
   exact CV.Sub.refl _
 simp only [Bool.or_eq_false_iff, beq_eq_false_iff_ne, ne_eq, decide_eq_false_iff_not] at hc
 obtain ⟨hs0, hs1⟩ := hc
 refine awp_skip ?_
 first | rw [thenQ_normal] | rw [blockQ_normal, thenQ_normal]
 refine awp_seq ?_
 refine awp_seqL ?_
 refine awpl_op (by rfl) (by rfl) ?_
 refine m_move ?_
 refine run_nil ?_
 refine awpl_range (by simp only [go_sem, reduceIte, Nat.reduceEqDiff] <;> rfl) Tryz.undStr rfl (by decide) fun B => ?_
 refine awpl_end ?_
 rw [thenQ_normal]
 refine awp_block ?_
 refine m_for (ι := Nat) (fun k => [(0, .str s), (1, .c (.raw (.func (.func 264) #[] #[]))), (16, .c (.raw (.pointer (some ⟨B, 0, none⟩))))]) (fun k => [(16, .blk B (.stringIter s k))]) (fun k => s.size - k) (fun k => k ≤ s.size ∧ allB (fun c => partB c true) s k = true ∧ (0 < k → upperB (byteAt s 0) = true)) (0) ?_ ?_
 · exact ⟨Nat.zero_le _, rfl, fun h => absurd h (by decide)⟩
 rintro k ⟨hk, hall, hfst⟩
 refine awp_seqL ?_
 by_cases hkl : k < s.size
 · refine awpl_next (o := 16) (by simp only [go_sem, reduceIte, Nat.reduceEqDiff] <;> rfl) rfl hkl (by decide) ?_
   refine awpl_op (by rfl) (by rfl) ?_
   refine m_extract ?_
   refine run_nil ?_
   refine awpl_end ?_
   rw [thenQ_normal]
   refine awp_seq ?_
   refine m_cond (fun hc => ?_) (fun hc => ?_)
   · refine awp_skip ?_
     first | rw [thenQ_normal] | rw [blockQ_normal, thenQ_normal]
     refine awp_block ?_
     refine awp_rseq (by decide) fun KK hKK => ?_
     refine m_extract ?_
     refine m_extract ?_
     refine m_assign ?_
     refine m_assign ?_
     refine hKK _ _ ?_
     clear hKK KK
     refine awp_rseq (by decide) fun KK hKK => ?_
     refine m_move ?_
     refine m_move ?_
     refine m_callV (fun hG => tupper_ok _) ?_
     refine m_not ?_
     refine m_move ?_
     refine g_move ?_
     refine g_bin ?_
     refine g_move ?_
     refine g_move ?_
     refine g_call (fun hG => tdigit_ok _) ?_
     refine g_not ?_
     refine g_move ?_
     refine g_move ?_
     refine g_bin ?_
     refine g_pick ?_
     refine g_pick ?_
     refine m_pick ?_
     refine hKK _ _ ?_
     clear hKK KK
     clear hc
     refine m_cond (fun hc => ?_) (fun hc => ?_)
     · refine awp_rseq (by decide) fun KK hKK => ?_
       refine m_assign ?_
       refine hKK _ _ ?_
       clear hKK KK
       refine awp_ret ⟨[_], ⟨⟨(by simp only [go_sem, reduceIte, Nat.reduceEqDiff, FF]), (by simp only [go_sem, reduceIte, Nat.reduceEqDiff, FF] <;> rfl)⟩, trivial⟩, ?_⟩
       simp only [go_sem, reduceIte, Nat.reduceEqDiff, FF, tupled]
       have e0 := bad_namedU hkl (by simpa [badRU] using hc)
       rw [e0]
       exact CV.Sub.refl _
     refine awp_skip ?_
     rw [blockQ_normal]
     obtain ⟨g1, g2, g3⟩ := good_stepU hkl (by simpa [badRU] using hc)
     try rw [thenQ_normal]
     refine m_nextH (k + 1) ?_ ?_ ?_
     · refine ⟨hkl, by rw [allB, hall, g2]; rfl, fun _ => ?_⟩
       by_cases hk0 : k = 0
       · exact g3 hk0
       · exact hfst (by omega)
     · omega
     · refine List.forall_mem_cons.2 ⟨objLe_of ?_, List.forall_mem_nil _⟩
       simp only [go_sem, reduceIte, Nat.reduceEqDiff, g1]
   · cases hc
 · refine awpl_nextE (o := 16) (by simp only [go_sem, reduceIte, Nat.reduceEqDiff] <;> rfl) rfl hkl (by decide) ?_
   refine awpl_op (by rfl) (by rfl) ?_
   refine m_extract ?_
   refine run_nil ?_
   refine awpl_end ?_
   rw [thenQ_normal]
   refine awp_seq ?_
   refine m_cond (fun hc => ?_) (fun hc => ?_)
   · cases hc
   · refine awp_exit ?_
     simp only [thenQ_exit, blockQ_exit, reduceIte, Nat.reduceEqDiff]
     try rw [thenQ_normal]
     refine awp_rseq (by decide) fun KK hKK => ?_
     refine m_assign ?_
     refine hKK _ _ ?_
     clear hKK KK
     refine awp_ret ⟨[_], ⟨⟨(by simp only [go_sem, reduceIte, Nat.reduceEqDiff, FF]), (by simp only [go_sem, reduceIte, Nat.reduceEqDiff, FF] <;> rfl)⟩, trivial⟩, ?_⟩
     simp only [go_sem, reduceIte, Nat.reduceEqDiff, FF, tupled]
     have hk' : k = s.size := by omega
     subst hk'
     have e0 : namedB s true = true := by
       unfold namedB
       obtain ⟨l1, l2⟩ := upper_not (hfst (by omega))
       rw [if_neg]
       · exact hall
       · simp only [Bool.or_eq_true, decide_eq_true_eq, beq_iff_eq, l1, not_or]
         refine ⟨⟨⟨by omega, by omega⟩, by simp⟩, l2⟩
     rw [e0]
     exact CV.Sub.refl _
theorem tfeat_ok (s : ByteArray) : APure Tryz.prog 331 [.str s] (.bool (namedB s true)) := by
 have FF : True := trivial
 refine apure_of Tryz.func331 rfl (by kernel_rfl) (by simp [Tryz.ntmps331]) ?_
 rw [Tryz.ntmps331]
 refine awp_rseq (by decide) fun KK hKK => ?_
 refine m_assign ?_
 refine hKK _ _ ?_
 clear hKK KK
 refine awp_rseq (by decide) fun KK hKK => ?_
 refine m_move ?_
 refine m_call (fun hG => follows_okU s) ?_
 refine m_assign ?_
 refine hKK _ _ ?_
 clear hKK KK
 refine awp_ret ⟨[_], ⟨⟨(by simp only [go_sem, reduceIte, Nat.reduceEqDiff, FF]), (by simp only [go_sem, reduceIte, Nat.reduceEqDiff, FF] <;> rfl)⟩, trivial⟩, ?_⟩
 simp only [go_sem, reduceIte, Nat.reduceEqDiff, FF, tupled]
 exact CV.Sub.refl _
end Go.Am
