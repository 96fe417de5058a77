/- Texts of the proof: Re1 Re2 Re3 Re4 ReX Re5 Re6 Re7 Re8 Re9 Re10 Re11 Re12 Re13 Re14 Re15. No condition. -/
import Derived.Test.YtgbeghjnllfdjaaGreatDoorM3
import Derived.Laws.Strings
import Derived.Lib.AppendZerosOnto
import Derived.LoopN
set_option linter.unusedVariables false
set_option linter.unusedSimpArgs false
namespace Go.Am
open Go.RowKit
theorem ite_some {α : Type} {c : Prop} [Decidable c] {a : Option α} {x : α} (h : (if c then a else none) = some x) : c ∧ a = some x := by
 by_cases hc : c
 · rw [if_pos hc] at h
   exact ⟨hc, h⟩
 · rw [if_neg hc] at h
   cases h
def AV.val (x : AV) : Option AV := if x.wh then some x.strip else none
theorem AV.val_ok {x y : AV} (h : x.val = some y) : x.wh = true ∧ x.strip = y := by
 unfold AV.val at h
 split at h
 · rename_i hw
   exact ⟨hw, by simpa using h⟩
 · cases h
def AV.num : AV → Option (IntKind × Int)
 | .c (.raw (.int k n)) => some (k, n)
 | _ => none
theorem AV.num_ok {x : AV} {k : IntKind} {n : Int} (h : x.num = some (k, n)) : x = .c (.raw (.int k n)) := by
 unfold AV.num at h
 split at h
 · simp only [Option.some.injEq, Prod.mk.injEq] at h
   obtain ⟨rfl, rfl⟩ := h
   rfl
 · cases h
def AV.raw? : AV → Option Value
 | .c (.raw v) => some v
 | _ => none
theorem AV.raw_ok {x : AV} {v : Value} (h : x.raw? = some v) : x = .c (.raw v) := by
 unfold AV.raw? at h
 split at h
 · simp only [Option.some.injEq] at h
   subst h
   rfl
 · cases h
def AV.bool? : AV → Option Bool
 | .c (.raw (.bool b)) => some b
 | _ => none
theorem AV.bool_ok {x : AV} {b : Bool} (h : x.bool? = some b) : x = .bool b := by
 unfold AV.bool? at h
 split at h
 · simp only [Option.some.injEq] at h
   subst h
   rfl
 · cases h
def nilPtrV : Value → Bool
 | .pointer none => true
 | _ => false
def isPtrT (P : Program) (t : TypeId) : Bool := match P.underlying t with
 | some (.pointer _) => true
 | _ => false
def intT (P : Program) (t : TypeId) : Option IntKind := match P.underlying t with
 | some (.int k) => some k
 | _ => none
def isStr (P : Program) (t : TypeId) : Bool := match P.underlying t with
 | some .string => true
 | _ => false
def isSlice (P : Program) (t : TypeId) : Bool := match P.underlying t with
 | some (.slice _) => true
 | _ => false
def mapT (P : Program) (t : TypeId) : Option (TypeId × TypeId) := match P.underlying t with
 | some (.map k e) => some (k, e)
 | _ => none
theorem isPtrT_ok {P : Program} {t : TypeId} (h : isPtrT P t = true) : ∃ t', P.underlying t = some (.pointer t') := by
 unfold isPtrT at h
 split at h
 · exact ⟨_, by assumption⟩
 · cases h
theorem intT_ok {P : Program} {t : TypeId} {k : IntKind} (h : intT P t = some k) : P.underlying t = some (.int k) := by
 unfold intT at h
 split at h
 · simp only [Option.some.injEq] at h
   subst h
   assumption
 · cases h
theorem isStr_ok {P : Program} {t : TypeId} (h : isStr P t = true) : P.underlying t = some .string := by
 unfold isStr at h
 split at h
 · assumption
 · cases h
theorem isSlice_ok {P : Program} {t : TypeId} (h : isSlice P t = true) : ∃ e, P.underlying t = some (.slice e) := by
 unfold isSlice at h
 split at h
 · exact ⟨_, by assumption⟩
 · cases h
theorem mapT_ok {P : Program} {t k e : TypeId} (h : mapT P t = some (k, e)) : P.underlying t = some (.map k e) := by
 unfold mapT at h
 split at h
 · simp only [Option.some.injEq, Prod.mk.injEq] at h
   obtain ⟨rfl, rfl⟩ := h
   assumption
 · cases h
noncomputable def eqB (a : List UInt8) : List UInt8 → Bool := List.rec (motive := fun _ => List UInt8 → Bool) (fun b => List.rec (motive := fun _ => Bool) true (fun _ _ _ => false) b)
 (fun x _ ih b => List.rec (motive := fun _ => Bool) false (fun y s _ => Bool.rec (motive := fun _ => Bool) false (ih s) (Nat.beq x.toNat y.toNat)) b) a
theorem eqB_eq : ∀ a b : List UInt8, eqB a b = (a == b)
 | [], [] => rfl
 | [], _ :: _ => rfl
 | _ :: _, [] => rfl
 | x :: r, y :: s => by
   have ih := eqB_eq r s
   show Bool.rec (motive := fun _ => Bool) false (eqB r s) (Nat.beq x.toNat y.toNat) = _
   rw [ih, List.cons_beq_cons]
   have h : Nat.beq x.toNat y.toNat = (x == y) := by
     rw [Bool.eq_iff_iff, beq_iff_eq, ← UInt8.toNat_inj, Nat.beq_eq]
   rw [h]
   cases (x == y) <;> rfl
noncomputable def binK (op : BinOp) : Value → Value → Option Value
 | .string a, .string b => match op with
     | .eql => some (.bool (eqB a.data.toList b.data.toList))
     | .neq => some (.bool !(eqB a.data.toList b.data.toList))
     | .lss => some (.bool (Op.bytesLess a.data.toList b.data.toList))
     | .leq => some (.bool (Op.bytesLess a.data.toList b.data.toList || eqB a.data.toList b.data.toList))
     | .gtr => some (.bool !(Op.bytesLess a.data.toList b.data.toList || eqB a.data.toList b.data.toList))
     | .geq => some (.bool !(Op.bytesLess a.data.toList b.data.toList))
     | .add => if a.data.toList.length + b.data.toList.length ≤ 9223372036854775807 then some (.string ⟨⟨a.data.toList ++ b.data.toList⟩⟩) else none
     | _ => none
 | v, w => bin op v w
theorem binK_eq (op : BinOp) (v w : Value) : binK op v w = bin op v w := by
 cases v <;> try rfl
 cases w <;> try rfl
 rename_i a b
 have h1 : ∀ x : ByteArray, x.data.toList = x.toList := fun x => (ByteArray.toList_eq x).symm
 have h2 : ∀ x : ByteArray, x.toList.length = x.size := fun x => by rw [← h1]; rfl
 have h3 : (⟨⟨a.toList ++ b.toList⟩⟩ : ByteArray) = a ++ b := by
   rw [← h1, ← h1]
   apply ByteArray.ext
   rw [ByteArray.data_append]
   apply Array.ext'
   simp
 cases op <;> simp only [binK, bin, eqB_eq, h1, h2, h3]
noncomputable def e0bin (P : Program) (op : BinOp) (t : TypeId) (u v : AV) : Option AV := match u.raw? with
 | some v1 => match v.raw? with
   | some v2 => (binK op v1 v2).map fun v => .c (.raw v)
   | none => none
 | none => match v.raw? with
   | some v2 => if u.isAddr && nilPtrV v2 && isPtrT P t then (nilCmp op).map fun b => .bool b else none
   | none => none
def partsV : List Nat → List AV → Nat → Nat → Option (List (List CV))
 | [], [], _, _ => some []
 | i :: is, v :: vs, k, sz => if i = k then match v.strip.closedCells, partsV is vs (k + 1) sz with
     | some cs, some l => if cs.length = sz then some (cs :: l) else none
     | _, _ => none
   else none
 | _, _, _, _ => none
theorem partsV_ok (e : Operand → AV) : ∀ (ps : List (Nat × Operand)) (k sz : Nat), partsV (ps.map (·.1)) ((ps.map (·.2)).map e) k sz = partsC e ps k sz
 | [], k, sz => rfl
 | (i, y) :: r, k, sz => by
   simp only [List.map_cons, partsV, partsC, partsV_ok e r]
   cases (e y).strip.closedCells <;> cases partsC e r (k + 1) sz <;> rfl
theorem bind_some {α β : Type} {x : Option α} {f : α → Option β} {b : β} (h : x.bind f = some b) : ∃ a, x = some a ∧ f a = some b := Option.bind_eq_some_iff.1 h
theorem map_some {α β : Type} {x : Option α} {f : α → β} {b : β} (h : x.map f = some b) : ∃ a, x = some a ∧ f a = b := Option.map_eq_some_iff.1 h
def emm (lo : Bool) : List AV → Option AV
 | [y, z] => match y.val.bind AV.num, z.val.bind AV.num with
   | some (k, a), some (k', b) => if k = k' then some (.c (.raw (.int k (bif lo then (if b < a then b else a) else (if a < b then b else a))))) else none
   | _, _ => none
 | _ => none
theorem emm_ok {lo : Bool} {s : Slots} {x : AV} {args : Array Operand} (h : emm lo (args.toList.map (ev s)) = some x) : ∃ y z k a b, args = #[y, z] ∧ (ev s y).strip = .c (.raw (.int k a)) ∧ (ev s z).strip = .c (.raw (.int k b)) ∧ (true = true → (ev s y).wh = true ∧ (ev s z).wh = true) ∧
     x = .c (.raw (.int k (bif lo then (if b < a then b else a) else (if a < b then b else a)))) := by
 unfold emm at h
 split at h
 · rename_i y z hl
   split at h
   · rename_i k a k' b h1 h2
     obtain ⟨u, hu, hb⟩ := bind_some h1
     obtain ⟨w1, e1⟩ := AV.val_ok hu
     obtain ⟨v, hv, hq⟩ := bind_some h2
     obtain ⟨w2, e2⟩ := AV.val_ok hv
     obtain ⟨hk, h'⟩ := ite_some h
     clear h
     subst hk
     have h := Option.some.inj h'
     match ha : args.toList, hl with
     | [y', z'], hl =>
       simp only [List.map_cons, List.map_nil, List.cons.injEq, and_true] at hl
       obtain ⟨rfl, rfl⟩ := hl
       refine ⟨y', z', k, a, b, ?_, e1.trans (AV.num_ok hb), e2.trans (AV.num_ok hq), fun _ => ⟨w1, w2⟩, h.symm⟩
       rw [← Array.toArray_toList (xs := args), ha]
   · cases h
 · cases h
noncomputable def e0 (P : Program) : Op → List AV → Option AV
 | .move _, [x] => some x
 | .assign _, [x] => some x
 | .pick _ _ _, [c, y, z] => match c.val.bind AV.bool?, y.strip.bool?, z.strip.bool? with
   | some b, some p, some q => if (bif b then y.wh else z.wh) then some (.bool (bif b then p else q)) else none
   | _, _, _ => none
 | .binOp op t _ _ _, [y, z] => match y.val, z.val with
   | some u, some v => e0bin P op t u v
   | _, _ => none
 | .unOp .not _ _, [y] => (y.val.bind AV.bool?).map fun b => .bool (!b)
 | .unOp .neg _ _, [y] => (y.val.bind AV.num).map fun q => .c (.raw (.int q.1 (q.1.wrap (0 - q.2))))
 | .fieldAddr t _ f, [y] => match tinfo P t with
   | some i => match i.fields[f]? with
     | some (off, sz) => if sz == 0 then none else y.val.bind (addOff off)
     | none => none
   | none => none
 | .extract _ i, [y] => match y.val with
   | some (.c (.tup xs)) => if i < xs.length then some (.c (xs.getD i .any)) else none
   | _ => none
 | .build t parts, vs => match tinfo P t with
   | some i => if i.agg && !i.zero.isEmpty && !i.fields.isEmpty && (i.fields.all fun p => p.2 != 0) && vs.all AV.wh then
       (bfill i.fields (i.zero.map constAV1) ((parts.toList.map (·.1)).zip (vs.map AV.strip))).map .agg else none
   | none => none
 | .buildSlice t len parts, vs => match tinfo P t with
   | some i => if i.slice then match tinfo P i.elem with
     | some j => if len = parts.size ∧ len * j.size ≤ 2 ^ 24 ∧ (vs.all AV.wh) = true ∧ (len = 0 ∨ j.zero.isEmpty = false) then
         match partsV (parts.toList.map (·.1)) vs 0 j.size with
         | some l => some (if len = 0 then .emp else .c (.im j.size len fun i => l.getD i []))
         | none => none
       else none
     | none => none
     else none
   | none => none
 | .convert src dst _, [y] => match P.underlying src, intT P dst, y.val.bind AV.num with
   | some _, some k, some q => some (.c (.raw (.int k (k.wrap q.2))))
   | _, _, _ => none
 | .nilCheck _, [y] => match y.val with
   | some u => if u.isPtr then some u else none
   | none => none
 | .index t _ _, [y, z] => if isStr P t then match y.val.bind AV.raw?, z.val.bind AV.num with
     | some (.string b), some q => if 0 ≤ q.2 ∧ q.2 < (b.size : Int) then some (.c (.raw (.int .u8 (byteAt b q.2.toNat)))) else none
     | _, _ => none
   else none
 | .makeFunc (.func f) first _, vs => if first.size = 0 ∧ (vs.all AV.wh) = true ∧ ((vs.map AV.strip).all fun x => x.flatP && x.one) = true then some (.fn f (vs.map AV.strip)) else none
 | .call ⟨.builtin .min, _, _⟩, vs => emm true vs
 | .call ⟨.builtin .max, _, _⟩, vs => emm false vs
 | _, _ => none
abbrev opv (s : Slots) (op : Op) : List AV := op.operands.toList.map (ev s)
theorem e0bin_ok {P : Program} {op : BinOp} {t t2 : TypeId} {y z : Operand} {s : Slots} {u v x : AV} (hu : (ev s y).val = some u) (hv : (ev s z).val = some v) (h : e0bin P op t u v = some x) : aop0 P (.binOp op t y z t2) (ev s) true x := by
 obtain ⟨w1, e1⟩ := AV.val_ok hu
 obtain ⟨w2, e2⟩ := AV.val_ok hv
 unfold e0bin at h
 split at h
 · rename_i v1 h1
   have h1 := AV.raw_ok h1
   subst h1
   split at h
   · rename_i v2 h2
     have h2 := AV.raw_ok h2
     subst h2
     obtain ⟨r, h3, rfl⟩ := map_some h
     rw [binK_eq] at h3
     simp only [aop0, e1]
     exact ⟨v2, r, e2, .inl h3, fun _ => ⟨w1, w2⟩, rfl⟩
   · cases h
 · split at h
   · rename_i v2 h2
     have h2 := AV.raw_ok h2
     subst h2
     split at h
     · rename_i hc
       simp only [Bool.and_eq_true] at hc
       obtain ⟨⟨c1, c2⟩, c3⟩ := hc
       obtain ⟨b, h3, rfl⟩ := map_some h
       have hn : v2 = .pointer none := by
         unfold nilPtrV at c2
         split at c2
         · rfl
         · cases c2
       subst hn
       simp only [aop0, e1]
       cases u with
       | c q => cases q <;> first | (exact .inl ⟨c1, e2, fun _ => ⟨w1, w2⟩, b, h3, isPtrT_ok c3, rfl⟩) | (simp [AV.isAddr] at c1)
       | _ => exact .inl ⟨c1, e2, fun _ => ⟨w1, w2⟩, b, h3, isPtrT_ok c3, rfl⟩
     · cases h
   · cases h
theorem all_wh {s : Slots} {l : List Operand} (h : ((l.map (ev s)).all AV.wh) = true) : ∀ y ∈ l, (ev s y).wh = true := by
 rw [List.all_eq_true] at h
 exact fun y hy => h _ (List.mem_map.2 ⟨y, hy, rfl⟩)
theorem zip_parts (s : Slots) (parts : List (Nat × Operand)) : (parts.map (·.1)).zip ((((parts.map (·.2)).map (ev s))).map AV.strip) = parts.map fun p => (p.1, (ev s p.2).strip) := by
 induction parts with
 | nil => rfl
 | cons p r ih => simp only [List.map_cons, List.zip_cons_cons, ih]
theorem e0_ok {P : Program} {s : Slots} {x : AV} (op : Op) (h : e0 P op (opv s op) = some x) : aop0 P op (ev s) true x := by
 cases op with
 | move y => simp only [e0, opv, Op.operands, List.map_cons, List.map_nil, Option.some.injEq] at h; exact h.symm
 | assign y => simp only [e0, opv, Op.operands, List.map_cons, List.map_nil, Option.some.injEq] at h; exact h.symm
 | pick c y z =>
   simp only [e0, opv, Op.operands, List.map_cons, List.map_nil] at h
   split at h
   · rename_i b p q h1 h2 h3
     obtain ⟨u, hu, hb⟩ := bind_some h1
     obtain ⟨w1, e1⟩ := AV.val_ok hu
     split at h
     · rename_i hc
       simp only [Option.some.injEq] at h
       refine ⟨b, p, q, e1.trans (AV.bool_ok hb), AV.bool_ok h2, AV.bool_ok h3, fun _ => ⟨w1, fun e => ?_, fun e => ?_⟩, h.symm⟩
       · subst e; exact hc
       · subst e; exact hc
     · cases h
   · cases h
 | binOp op t y z t2 =>
   simp only [e0, opv, Op.operands, List.map_cons, List.map_nil] at h
   split at h
   · rename_i u v hu hv
     exact e0bin_ok hu hv h
   · cases h
 | unOp o t y =>
   cases o with
   | not =>
     simp only [e0, opv, Op.operands, List.map_cons, List.map_nil] at h
     obtain ⟨b, h1, rfl⟩ := map_some h
     obtain ⟨u, hu, hb⟩ := bind_some h1
     obtain ⟨w1, e1⟩ := AV.val_ok hu
     exact ⟨b, e1.trans (AV.bool_ok hb), fun _ => w1, rfl⟩
   | neg =>
     simp only [e0, opv, Op.operands, List.map_cons, List.map_nil] at h
     obtain ⟨⟨k, n⟩, h1, rfl⟩ := map_some h
     obtain ⟨u, hu, hb⟩ := bind_some h1
     obtain ⟨w1, e1⟩ := AV.val_ok hu
     exact ⟨k, n, e1.trans (AV.num_ok hb), fun _ => w1, rfl⟩
   | _ => simp [e0, opv, Op.operands] at h
 | fieldAddr t y f =>
   simp only [e0, opv, Op.operands, List.map_cons, List.map_nil] at h
   split at h
   · rename_i i hi
     split at h
     · rename_i off sz hf
       split at h
       · cases h
       · rename_i hz
         obtain ⟨u, hu, hb⟩ := bind_some h
         obtain ⟨w1, e1⟩ := AV.val_ok hu
         exact ⟨i, off, sz, hi, hf, by simpa using hz, by rw [e1]; exact hb, fun _ => w1⟩
     · cases h
   · cases h
 | extract y i =>
   simp only [e0, opv, Op.operands, List.map_cons, List.map_nil] at h
   split at h
   · rename_i xs hu
     obtain ⟨w1, e1⟩ := AV.val_ok hu
     split at h
     · rename_i hi
       simp only [Option.some.injEq] at h
       exact ⟨xs, e1, fun _ => ⟨w1, hi⟩, h.symm⟩
     · cases h
   · cases h
 | build t parts =>
   simp only [e0, opv, Op.operands] at h
   split at h
   · rename_i i hi
     obtain ⟨hc, h⟩ := ite_some h
     simp only [Bool.and_eq_true, Bool.not_eq_true', List.all_eq_true, bne_iff_ne, ne_eq] at hc
     obtain ⟨⟨⟨⟨c1, c2⟩, c3⟩, c4⟩, c5⟩ := hc
     obtain ⟨cs, h1, rfl⟩ := map_some h
     rw [zip_parts] at h1
     refine .inr ⟨i, cs, hi, c1, fun e => by rw [e] at c2; simp at c2, fun e => by rw [e] at c3; simp at c3, c4, h1, fun _ p hp => ?_, rfl⟩
     exact c5 _ (List.mem_map.2 ⟨p.2, List.mem_map.2 ⟨p, hp, rfl⟩, rfl⟩)
   · cases h
 | buildSlice t len parts =>
   simp only [e0, opv, Op.operands] at h
   split at h
   · rename_i i hi
     split at h
     · rename_i hs
       split at h
       · rename_i j hj
         obtain ⟨hc, h⟩ := ite_some h
         obtain ⟨c1, c2, c3, c4⟩ := hc
         split at h
         · rename_i l hl
           simp only [Option.some.injEq] at h
           rw [partsV_ok] at hl
           refine ⟨i, j, l, hi, hs, hj, c1, c2, hl, c4.imp id fun e h0 => by rw [h0] at e; simp at e, fun _ p hp => ?_, h.symm⟩
           rw [List.all_eq_true] at c3
           exact c3 _ (List.mem_map.2 ⟨p.2, List.mem_map.2 ⟨p, hp, rfl⟩, rfl⟩)
         · cases h
       · cases h
     · cases h
   · cases h
 | convert t t2 y =>
   simp only [e0, opv, Op.operands, List.map_cons, List.map_nil] at h
   split at h
   · rename_i d k q h1 h2 h3
     obtain ⟨u, hu, hb⟩ := bind_some h3
     obtain ⟨w1, e1⟩ := AV.val_ok hu
     simp only [Option.some.injEq] at h
     exact ⟨k, q.1, q.2, ⟨d, h1⟩, intT_ok h2, e1.trans (AV.num_ok hb), fun _ => w1, h.symm⟩
   · cases h
 | nilCheck y =>
   simp only [e0, opv, Op.operands, List.map_cons, List.map_nil] at h
   split at h
   · rename_i u hu
     obtain ⟨w1, e1⟩ := AV.val_ok hu
     split at h
     · rename_i hp
       simp only [Option.some.injEq] at h
       subst h
       exact ⟨fun _ => w1, by rw [e1]; exact hp, e1.symm⟩
     · cases h
   · cases h
 | index t y z =>
   simp only [e0, opv, Op.operands, List.map_cons, List.map_nil] at h
   split at h
   · rename_i ht
     split at h
     · rename_i b q h1 h2
       obtain ⟨u, hu, hb⟩ := bind_some h1
       obtain ⟨w1, e1⟩ := AV.val_ok hu
       obtain ⟨v, hv, hq⟩ := bind_some h2
       obtain ⟨w2, e2⟩ := AV.val_ok hv
       split at h
       · rename_i hc
         simp only [Option.some.injEq] at h
         exact ⟨isStr_ok ht, b, q.1, q.2, e1.trans (AV.raw_ok hb), e2.trans (AV.num_ok hq), fun _ => ⟨w1, w2, hc.1, hc.2⟩, h.symm⟩
       · cases h
     · cases h
   · cases h
 | makeFunc fn first caps =>
   cases fn with
   | func f =>
     simp only [e0, opv, Op.operands] at h
     obtain ⟨⟨c1, c2, c3⟩, h⟩ := ite_some h
     have hf : first = #[] := Array.eq_empty_of_size_eq_zero c1
     subst hf
     have he : (#[] ++ caps).toList = caps.toList := by simp
     rw [he] at c2 c3 h
     simp only [Option.some.injEq] at h
     refine ⟨f, caps.toList.map fun y => (ev s y).strip, rfl, rfl, fun _ => all_wh c2, rfl, ?_, ?_⟩
     · rw [List.map_map] at c3; exact c3
     · rw [List.map_map] at h; exact h.symm
   | _ => simp [e0, opv] at h
 | call c =>
   obtain ⟨callee, args, ats⟩ := c
   cases callee with
   | builtin b =>
     cases b with
     | min =>
       simp only [e0, opv, Op.operands, Call.operands, Array.toList_append, List.nil_append] at h
       obtain ⟨y, z, k, a, b, q⟩ := emm_ok (lo := true) (by simpa using h)
       exact ⟨y, z, k, a, b, q⟩
     | max =>
       simp only [e0, opv, Op.operands, Call.operands, Array.toList_append, List.nil_append] at h
       obtain ⟨y, z, k, a, b, q⟩ := emm_ok (lo := false) (by simpa using h)
       exact ⟨y, z, k, a, b, q⟩
     | _ => simp [e0, opv] at h
   | _ => simp [e0, opv] at h
 | _ => simp [e0, opv] at h
end Go.Am
namespace Go.Am
open Go.RowKit
def rowFn (l : List (List CV)) : Nat → List CV := fun i => l.getD i []
def tab (n : Nat) (f : Nat → List CV) : Nat → List CV := rowFn ((List.range n).map f)
theorem tab_eq {n : Nat} {f : Nat → List CV} {i : Nat} (h : i < n) : tab n f i = f i := by
 unfold tab rowFn
 rw [List.getD_eq_getElem?_getD, List.getElem?_map, List.getElem?_range h]
 rfl
def AObj.retab : AObj → AObj
 | .row ty sz n f => let l := (List.range n).map f; .row ty sz n (rowFn l)
 | x => x
theorem retab_le (x : AObj) : objLe x x.retab := by
 cases x with
 | row ty sz n f => exact objLe_row fun i hi => (tab_eq (f := f) hi).symm
 | _ => exact objLe_refl _
def eload (P : Program) (h : Nat → AObj) (t : TypeId) (y : AV) : Option AV := match tinfo P t with
 | some i => if i.agg || i.size == 1 then match y.val with
   | some (.pim xs) => if i.size ≤ xs.length then some (loadC i xs) else none
   | some (.c (.ptr xs)) => if i.size ≤ xs.length then some (loadC i xs) else none
   | some (.ptr o off) => match h o with
     | .box _ cells => if off + i.size ≤ cells.length then some (loadA i (cells.drop off)) else none
     | _ => none
   | some (.rp o L k off) => match h o with
     | .row _ sz n f => if L = n ∧ k < n ∧ off + i.size ≤ sz then some (loadC i ((f k).drop off)) else none
     | _ => none
   | _ => none
   else none
 | none => none
def ebnd : Option Operand → List AV → Option (Option Nat × List AV)
 | none, vs => some (none, vs)
 | some _, v :: vs => match v.val.bind AV.num with
   | some (_, n) => if 0 ≤ n then some (some n.toNat, vs) else none
   | none => none
 | some _, [] => none
noncomputable def keyEqK : Value → Value → Bool
 | .string a, .string b => eqB a.data.toList b.data.toList
 | v, w => keyEq v w
theorem keyEqK_eq (v w : Value) : keyEqK v w = keyEq v w := by
 cases v <;> try rfl
 cases w <;> try rfl
 rename_i a b
 show eqB a.data.toList b.data.toList = (a.data == b.data)
 rw [eqB_eq]
 rw [Bool.eq_iff_iff, beq_iff_eq, beq_iff_eq]
 constructor
 · exact fun h => Array.ext' h
 · exact fun h => by rw [h]
noncomputable def getEK (k : Value) : List (Value × AV) → Option AV
 | [] => none
 | e :: r => if keyEqK k e.1 then some e.2 else getEK k r
theorem getEK_eq (k : Value) : ∀ l : List (Value × AV), getEK k l = getE k l
 | [] => rfl
 | e :: r => by rw [getEK, getE, keyEqK_eq, getEK_eq k r]
noncomputable def putLK (k : Value) (v : AV) (c : Nat) : List (Value × Nat × AV) → List (Value × Nat × AV) × Nat
 | [] => ([(k, c, v)], c + 1)
 | e :: r => if keyEqK k e.1 then ((k, e.2.1, v) :: r, c) else (e :: (putLK k v c r).1, (putLK k v c r).2)
theorem putLK_eq (k : Value) (v : AV) (c : Nat) : ∀ l : List (Value × Nat × AV), putLK k v c l = putL k v c l
 | [] => rfl
 | e :: r => by rw [putLK, putL, keyEqK_eq, putLK_eq k v c r]
noncomputable def efound (P : Program) (et : TypeId) (es : List (Value × AV)) (k : Value) : Option (AV × Bool) := match getEK k es with
 | some v => some (v, true)
 | none => match tinfo P et, P.info? et with
   | some _, some j => match j.zero with
     | some (.slice none 0 0) => some (.emp, false)
     | some z => some (.c (.raw z), false)
     | none => none
   | _, _ => none
theorem efound_ok {P : Program} {et : TypeId} {es : List (Value × AV)} {k : Value} {q : AV × Bool} (h : efound P et es k = some q) : foundA P et es k q := by
 unfold efound at h
 unfold foundA
 rw [getEK_eq] at h
 cases hg : getE k es with
 | some v => simp only [hg, Option.some.injEq] at h; exact h.symm
 | none =>
   simp only [hg] at h ⊢
   split at h
   · rename_i i j hi hj
     split at h
     · rename_i hz
       simp only [Option.some.injEq] at h
       subst h
       exact ⟨rfl, i, j, _, hi, hj, hz, .inr (.inr ⟨rfl, rfl⟩)⟩
     · rename_i z _ hz
       simp only [Option.some.injEq] at h
       subst h
       exact ⟨rfl, i, j, z, hi, hj, hz, .inl rfl⟩
     · cases h
   · cases h
noncomputable def efind (P : Program) (h : Nat → AObj) (kd : TypeDesc) (et : TypeId) (k : Value) : AV → Option (AV × Bool)
 | .mref o => match h o with
   | .map es _ => if (es.all fun e => keyOk kd e.1) = true then efound P et (es.map fun e => (e.1, e.2.2)) k else none
   | _ => none
 | .c (.mp es) => if (es.all fun e => keyOk kd e.1) = true then efound P et (es.map fun e => (e.1, AV.c e.2)) k else none
 | .c (.raw (.map none)) => efound P et [] k
 | _ => none
noncomputable def elookup (P : Program) (h : Nat → AObj) (t : TypeId) (ok : Bool) (y z : AV) : Option AV := match mapT P t with
 | some (kt, et) => match P.underlying kt, y.val, z.val.bind AV.raw? with
   | some kd, some m, some k => if keyOk kd k then match efind P h kd et k m with
       | some q => if ok then q.1.closed1.map fun y => .c (.tup [y, .bool q.2]) else some q.1
       | none => none
     else none
   | _, _, _ => none
 | none => none
def elen (P : Program) (h : Nat → AObj) (t : TypeId) (y : AV) : Option AV := match y.val with
 | some (.c (.im _ n _)) => if isSlice P t then some (.int n) else none
 | some (.own o L) => match h o with
   | .row _ _ n _ => if isSlice P t && decide (L = n) then some (.int L) else none
   | _ => none
 | some (.osub o L _ k) => match h o with
   | .row _ _ n _ => if isSlice P t && decide (L = n) then some (.int k) else none
   | _ => none
 | some .emp => if isSlice P t then some (.int 0) else none
 | some (.c .emp) => if isSlice P t then some (.int 0) else none
 | some (.mref o) => match h o, mapT P t with
   | .map es _, some _ => some (.int es.length)
   | _, _ => none
 | some (.c (.mp es)) => (mapT P t).map fun _ => .int es.length
 | some (.bs _ n) => if isSlice P t then some (.int n) else none
 | some (.c (.raw (.string s))) => if isStr P t then some (.int s.size) else none
 | _ => none
def sl2 (P : Program) (t : TypeId) : Option (TI × TI) := match tinfo P t with
 | some i => if i.slice then (tinfo P i.elem).map fun j => (i, j) else none
 | none => none
theorem sl2_ok {P : Program} {t : TypeId} {i j : TI} (h : sl2 P t = some (i, j)) : tinfo P t = some i ∧ i.slice = true ∧ tinfo P i.elem = some j := by
 unfold sl2 at h
 split at h
 · rename_i i' hi
   split at h
   · rename_i hs
     obtain ⟨j', h1, h2⟩ := map_some h
     simp only [Prod.mk.injEq] at h2
     obtain ⟨rfl, rfl⟩ := h2
     exact ⟨hi, hs, h1⟩
   · cases h
 · cases h
def eidx (P : Program) (h : Nat → AObj) (t : TypeId) (y z : AV) : Option AV := match sl2 P t, z.val.bind AV.num with
 | some (_, j), some (_, n) => if 0 ≤ n then match y.val with
   | some (.c (.im sz m f)) => if sz = j.size ∧ n < m then some (.pim (f n.toNat)) else none
   | some (.own o L) => match h o with
     | .row _ sz m _ => if L = m ∧ sz = j.size ∧ n < m then some (.rp o L n.toNat 0) else none
     | _ => none
   | some (.osub o L off q) => match h o with
     | .row _ sz m _ => if L = m ∧ sz = j.size ∧ n < q then some (.rp o L (off + n.toNat) 0) else none
     | _ => none
   | some (.bs o m) => if j.size = 1 ∧ n < m then some (.ptr o n.toNat) else none
   | _ => none
   else none
 | _, _ => none
def eslice (P : Program) (h : Nat → AObj) (t : TypeId) (lo hi : Option Operand) (y : AV) (vs : List AV) : Option AV := match ebnd lo vs with
 | some (l, vs') => match ebnd hi vs' with
   | some (hh, []) => match y.val with
     | some (.c (.im sz n f)) => match sl2 P t with
       | some (_, j) => if sz = j.size ∧ hh.getD n ≤ n ∧ l.getD 0 ≤ hh.getD n then some (.c (.im sz (hh.getD n - l.getD 0) fun q => f (l.getD 0 + q))) else none
       | none => none
     | some (.own o L) => match h o with
       | .row _ sz n _ => match sl2 P t with
         | some (_, j) => if sz = j.size ∧ hh.getD n ≤ n ∧ l.getD 0 ≤ hh.getD n ∧ L = n then some (.osub o L (l.getD 0) (hh.getD n - l.getD 0)) else none
         | none => none
       | _ => none
     | some (.osub o L off k) => match h o with
       | .row _ sz n _ => match sl2 P t with
         | some (_, j) => if sz = j.size ∧ hh.getD k ≤ k ∧ l.getD 0 ≤ hh.getD k ∧ L = n then some (.osub o L (off + l.getD 0) (hh.getD k - l.getD 0)) else none
         | none => none
       | _ => none
     | some .emp => match sl2 P t with
       | some _ => if hh.getD 0 = 0 ∧ l.getD 0 = 0 then some .emp else none
       | none => none
     | some (.c (.raw (.string b))) => if isStr P t && decide (hh.getD b.size ≤ b.size ∧ l.getD 0 ≤ hh.getD b.size) then some (.str (b.extract (l.getD 0) (hh.getD b.size))) else none
     | _ => none
   | _ => none
 | none => none
def elenL (P : Program) (h : Nat → AObj) (ats : Array TypeId) : List AV → Option AV
 | [y] => if ats.size = 1 then elen P h (ats.getD 0 0) y else none
 | _ => none
noncomputable def e1 (P : Program) (h : Nat → AObj) : Op → List AV → Option AV
 | .load t _, [y] => eload P h t y
 | .call ⟨.builtin .len, _, ats⟩, vs => elenL P h ats vs
 | .indexAddr t _ _, [y, z] => eidx P h t y z
 | .slice t _ lo hi none, y :: vs => eslice P h t lo hi y vs
 | .lookup t _ _ ok, [y, z] => elookup P h t ok y z
 | _, _ => none
section
variable {P : Program} {s : Slots} {h : AH} {x : AV}
theorem eload_ok [Glb] {t : TypeId} {y : Operand} (hx : eload P h t (ev s y) = some x) : aop1 P (.load t y) (ev s) h true x := by
 unfold eload at hx
 split at hx
 · rename_i i hi
   split at hx
   · rename_i hc
     have h1 : i.agg = false → i.size = 1 := fun e => by rw [e] at hc; simpa using hc
     split at hx
     · rename_i xs hv
       obtain ⟨w1, e1⟩ := AV.val_ok hv
       split at hx
       · rename_i hl
         simp only [Option.some.injEq] at hx
         refine ⟨i, hi, h1, fun _ => w1, ?_⟩
         rw [e1]
         exact ⟨fun _ => hl, hx.symm⟩
       · cases hx
     · rename_i xs hv
       obtain ⟨w1, e1⟩ := AV.val_ok hv
       split at hx
       · rename_i hl
         simp only [Option.some.injEq] at hx
         refine ⟨i, hi, h1, fun _ => w1, ?_⟩
         rw [e1]
         exact ⟨fun _ => hl, hx.symm⟩
       · cases hx
     · rename_i o off hv
       obtain ⟨w1, e1⟩ := AV.val_ok hv
       split at hx
       · rename_i ty cells ho
         split at hx
         · rename_i hl
           simp only [Option.some.injEq] at hx
           refine ⟨i, hi, h1, fun _ => w1, ?_⟩
           rw [e1]
           exact ⟨ty, cells, ho, fun _ => hl, hx.symm⟩
         · cases hx
       · cases hx
     · rename_i o L k off hv
       obtain ⟨w1, e1⟩ := AV.val_ok hv
       split at hx
       · rename_i ty sz n f ho
         split at hx
         · rename_i hl
           simp only [Option.some.injEq] at hx
           refine ⟨i, hi, h1, fun _ => w1, ?_⟩
           rw [e1]
           exact ⟨ty, sz, n, f, ho, fun _ => hl, hx.symm⟩
         · cases hx
       · cases hx
     · cases hx
   · cases hx
 · cases hx
theorem elookup_ok [Glb] {t : TypeId} {y z : Operand} {ok : Bool} (hx : elookup P h t ok (ev s y) (ev s z) = some x) : aop1 P (.lookup t y z ok) (ev s) h true x := by
 unfold elookup at hx
 split at hx
 · rename_i kt et hm
   split at hx
   · rename_i kd m k hk hy hz
     obtain ⟨w1, e1⟩ := AV.val_ok hy
     obtain ⟨u, hu, hr⟩ := bind_some hz
     obtain ⟨w2, e2⟩ := AV.val_ok hu
     split at hx
     · rename_i hko
       split at hx
       · rename_i q hq
         refine ⟨kt, et, kd, k, q, mapT_ok hm, hk, hko, e2.trans (AV.raw_ok hr), fun _ => ⟨w1, w2⟩, ?_, ?_⟩
         · rw [e1]
           unfold efind at hq
           split at hq
           · split at hq
             · rename_i es c ho
               obtain ⟨ha, hq⟩ := ite_some hq
               exact ⟨es, c, ho, ha, efound_ok hq⟩
             · cases hq
           · obtain ⟨ha, hq⟩ := ite_some hq
             exact ⟨ha, efound_ok hq⟩
           · exact efound_ok hq
           · cases hq
         · cases ok with
           | true =>
             simp only [if_true] at hx ⊢
             obtain ⟨y', h1, h2⟩ := map_some hx
             exact ⟨y', h1, h2.symm⟩
           | false =>
             simp only [Bool.false_eq_true, if_false, Option.some.injEq] at hx ⊢
             exact hx.symm
       · cases hx
     · cases hx
   · cases hx
 · cases hx
theorem ebnd_ok {lo : Option Operand} {vs vs' : List AV} {l : Option Nat} {ys : List Operand} (hv : vs = (lo.toArray.toList ++ ys).map (ev s)) (h : ebnd lo vs = some (l, vs')) :
   vs' = ys.map (ev s) ∧ (∀ z, lo = some z → (ev s z).wh = true ∧ ∃ k n, l = some n ∧ (ev s z).strip = .c (.raw (.int k (n : Nat)))) ∧ (lo = none → l = none) := by
 cases lo with
 | none =>
   simp only [ebnd, Option.some.injEq, Prod.mk.injEq] at h
   obtain ⟨h1, h2⟩ := h
   refine ⟨?_, fun z e => ?_, fun _ => h1.symm⟩
   · rw [← h2, hv]; simp
   · cases e
 | some z =>
   subst hv
   simp only [Option.toArray_some, List.cons_append, List.nil_append, List.map_cons, ebnd] at h
   split at h
   · rename_i k n hq
     obtain ⟨u, hu, hr⟩ := bind_some hq
     obtain ⟨w2, e2⟩ := AV.val_ok hu
     split at h
     · rename_i h0
       simp only [Option.some.injEq, Prod.mk.injEq] at h
       obtain ⟨rfl, rfl⟩ := h
       refine ⟨rfl, fun z' e => ?_, fun e => by cases e⟩
       cases e
       refine ⟨w2, k, n.toNat, rfl, ?_⟩
       rw [e2, AV.num_ok hr, Int.toNat_of_nonneg h0]
     · cases h
   · cases h
end
end Go.Am
namespace Go.Am
open Go.RowKit
section
variable {P : Program} {s : Slots} {h : AH} {x : AV}
theorem args1 {args : Array Operand} {y : AV} (h : args.toList.map (ev s) = [y]) : ∃ z, args = #[z] ∧ ev s z = y := by
 match ha : args.toList, h with
 | [z], h =>
   simp only [List.map_cons, List.map_nil, List.cons.injEq, and_true] at h
   exact ⟨z, by rw [← Array.toArray_toList (xs := args), ha], h⟩
theorem args2 {args : Array Operand} {y z : AV} (h : args.toList.map (ev s) = [y, z]) : ∃ y' z', args = #[y', z'] ∧ ev s y' = y ∧ ev s z' = z := by
 match ha : args.toList, h with
 | [y', z'], h =>
   simp only [List.map_cons, List.map_nil, List.cons.injEq, and_true] at h
   exact ⟨y', z', by rw [← Array.toArray_toList (xs := args), ha], h.1, h.2⟩
theorem size1 {ats : Array TypeId} (h : ats.size = 1) : ats = #[ats.getD 0 0] := by
 match ats, h with
 | ⟨[a]⟩, _ => rfl
theorem elen_ok [Glb] {z : Operand} {t : TypeId} (hx : elen P h t (ev s z) = some x) : aop1 P (.call ⟨.builtin .len, #[z], #[t]⟩) (ev s) h true x := by
 unfold elen at hx
 split at hx
 · rename_i sz n f hv
   obtain ⟨w1, e1⟩ := AV.val_ok hv
   refine ⟨z, t, rfl, rfl, fun _ => w1, ?_⟩
   rw [e1]
   split at hx
   · rename_i hs
     simp only [Option.some.injEq] at hx
     exact ⟨isSlice_ok hs, hx.symm⟩
   · cases hx
 · rename_i o L hv
   obtain ⟨w1, e1⟩ := AV.val_ok hv
   refine ⟨z, t, rfl, rfl, fun _ => w1, ?_⟩
   rw [e1]
   split at hx
   · rename_i ty sz n f ho
     split at hx
     · rename_i hs
       simp only [Bool.and_eq_true, decide_eq_true_eq] at hs
       simp only [Option.some.injEq] at hx
       exact ⟨isSlice_ok hs.1, ty, sz, n, f, ho, fun _ => hs.2, hx.symm⟩
     · cases hx
   · cases hx
 · rename_i o L off k hv
   obtain ⟨w1, e1⟩ := AV.val_ok hv
   refine ⟨z, t, rfl, rfl, fun _ => w1, ?_⟩
   rw [e1]
   split at hx
   · rename_i ty sz n f ho
     split at hx
     · rename_i hs
       simp only [Bool.and_eq_true, decide_eq_true_eq] at hs
       simp only [Option.some.injEq] at hx
       exact ⟨isSlice_ok hs.1, ty, sz, n, f, ho, fun _ => hs.2, hx.symm⟩
     · cases hx
   · cases hx
 · rename_i hv
   obtain ⟨w1, e1⟩ := AV.val_ok hv
   refine ⟨z, t, rfl, rfl, fun _ => w1, ?_⟩
   rw [e1]
   split at hx
   · rename_i hs
     simp only [Option.some.injEq] at hx
     exact ⟨isSlice_ok hs, hx.symm⟩
   · cases hx
 · rename_i hv
   obtain ⟨w1, e1⟩ := AV.val_ok hv
   refine ⟨z, t, rfl, rfl, fun _ => w1, ?_⟩
   rw [e1]
   split at hx
   · rename_i hs
     simp only [Option.some.injEq] at hx
     exact ⟨isSlice_ok hs, hx.symm⟩
   · cases hx
 · rename_i o hv
   obtain ⟨w1, e1⟩ := AV.val_ok hv
   refine ⟨z, t, rfl, rfl, fun _ => w1, ?_⟩
   rw [e1]
   split at hx
   · rename_i es c q ho hm
     simp only [Option.some.injEq] at hx
     exact ⟨⟨q.1, q.2, mapT_ok hm⟩, es, c, ho, hx.symm⟩
   · cases hx
 · rename_i es hv
   obtain ⟨w1, e1⟩ := AV.val_ok hv
   refine ⟨z, t, rfl, rfl, fun _ => w1, ?_⟩
   rw [e1]
   obtain ⟨q, hm, rfl⟩ := map_some hx
   exact ⟨⟨q.1, q.2, mapT_ok hm⟩, rfl⟩
 · rename_i o n hv
   obtain ⟨w1, e1⟩ := AV.val_ok hv
   refine ⟨z, t, rfl, rfl, fun _ => w1, ?_⟩
   rw [e1]
   split at hx
   · rename_i hs
     simp only [Option.some.injEq] at hx
     exact ⟨isSlice_ok hs, hx.symm⟩
   · cases hx
 · rename_i str hv
   obtain ⟨w1, e1⟩ := AV.val_ok hv
   refine ⟨z, t, rfl, rfl, fun _ => w1, ?_⟩
   rw [e1]
   split at hx
   · rename_i hs
     simp only [Option.some.injEq] at hx
     exact ⟨isStr_ok hs, hx.symm⟩
   · cases hx
 · cases hx
theorem eidx_ok [Glb] {t : TypeId} {y z : Operand} (hx : eidx P h t (ev s y) (ev s z) = some x) : aop1 P (.indexAddr t y z) (ev s) h true x := by
 refine .inr ?_
 unfold eidx at hx
 split at hx
 · rename_i i j k n hs hz
   obtain ⟨t1, t2, t3⟩ := sl2_ok hs
   obtain ⟨u, hu, hr⟩ := bind_some hz
   obtain ⟨w2, e2⟩ := AV.val_ok hu
   split at hx
   · rename_i h0
     split at hx
     · rename_i sz m f hv
       obtain ⟨w1, e1⟩ := AV.val_ok hv
       refine ⟨i, j, k, n, t1, t2, t3, e2.trans (AV.num_ok hr), fun _ => ⟨w1, w2⟩, ?_⟩
       rw [e1]
       split at hx
       · rename_i hc
         simp only [Option.some.injEq] at hx
         exact ⟨fun _ => ⟨hc.1, h0, hc.2⟩, hx.symm⟩
       · cases hx
     · rename_i o L hv
       obtain ⟨w1, e1⟩ := AV.val_ok hv
       refine ⟨i, j, k, n, t1, t2, t3, e2.trans (AV.num_ok hr), fun _ => ⟨w1, w2⟩, ?_⟩
       rw [e1]
       split at hx
       · rename_i ty sz m f ho
         split at hx
         · rename_i hc
           simp only [Option.some.injEq] at hx
           exact ⟨ty, sz, m, f, ho, fun _ => ⟨hc.1, hc.2.1, h0, hc.2.2⟩, hx.symm⟩
         · cases hx
       · cases hx
     · rename_i o L off q hv
       obtain ⟨w1, e1⟩ := AV.val_ok hv
       refine ⟨i, j, k, n, t1, t2, t3, e2.trans (AV.num_ok hr), fun _ => ⟨w1, w2⟩, ?_⟩
       rw [e1]
       split at hx
       · rename_i ty sz m f ho
         split at hx
         · rename_i hc
           simp only [Option.some.injEq] at hx
           exact ⟨ty, sz, m, f, ho, fun _ => ⟨hc.1, hc.2.1, h0, hc.2.2⟩, hx.symm⟩
         · cases hx
       · cases hx
     · rename_i o m hv
       obtain ⟨w1, e1⟩ := AV.val_ok hv
       refine ⟨i, j, k, n, t1, t2, t3, e2.trans (AV.num_ok hr), fun _ => ⟨w1, w2⟩, ?_⟩
       rw [e1]
       split at hx
       · rename_i hc
         simp only [Option.some.injEq] at hx
         exact ⟨fun _ => ⟨hc.1, h0, hc.2⟩, hx.symm⟩
       · cases hx
     · cases hx
   · cases hx
 · cases hx
theorem eslice_ok [Glb] {t : TypeId} {y : Operand} {lo hi : Option Operand} (hx : eslice P h t lo hi (ev s y) ((lo.toArray.toList ++ hi.toArray.toList).map (ev s)) = some x) : aop1 P (.slice t y lo hi none) (ev s) h true x := by
 unfold eslice at hx
 split at hx
 · rename_i l vs' hl
   obtain ⟨b1, b2, b3⟩ := ebnd_ok rfl hl
   split at hx
   · rename_i hh hH
     obtain ⟨c1, c2, c3⟩ := ebnd_ok (ys := []) (by simpa using b1) hH
     have lo1 : ∀ z, lo = some z → (true = true → (ev s z).wh = true) ∧ ∃ k, (ev s z).strip = .c (.raw (.int k (l.getD 0 : Nat))) := fun z e => by
       obtain ⟨q1, k, n, rfl, q3⟩ := b2 z e
       exact ⟨fun _ => q1, k, q3⟩
     have lo2 : lo = none → l.getD 0 = 0 := fun e => by rw [b3 e]; rfl
     have hi1 : ∀ (d : Nat) z, hi = some z → (true = true → (ev s z).wh = true) ∧ ∃ k, (ev s z).strip = .c (.raw (.int k (hh.getD d : Nat))) := fun d z e => by
       obtain ⟨q1, k, n, rfl, q3⟩ := c2 z e
       exact ⟨fun _ => q1, k, q3⟩
     have hi2 : ∀ d : Nat, hi = none → hh.getD d = d := fun d e => by rw [c3 e]; rfl
     split at hx
     · rename_i sz n f hv
       obtain ⟨w1, e1⟩ := AV.val_ok hv
       split at hx
       · rename_i i j hs
         obtain ⟨t1, t2, t3⟩ := sl2_ok hs
         split at hx
         · rename_i hc
           simp only [Option.some.injEq] at hx
           refine ⟨l.getD 0, hh.getD n, lo1, lo2, hi1 n, fun _ => ⟨w1, hc.2.2⟩, ?_⟩
           rw [e1]
           exact ⟨⟨i, j, t1, t2, t3, fun _ => ⟨hc.1, hc.2.1⟩⟩, hi2 n, hx.symm⟩
         · cases hx
       · cases hx
     · rename_i o L hv
       obtain ⟨w1, e1⟩ := AV.val_ok hv
       split at hx
       · rename_i ty sz n f ho
         split at hx
         · rename_i i j hs
           obtain ⟨t1, t2, t3⟩ := sl2_ok hs
           split at hx
           · rename_i hc
             simp only [Option.some.injEq] at hx
             refine ⟨l.getD 0, hh.getD n, lo1, lo2, hi1 n, fun _ => ⟨w1, hc.2.2.1⟩, ?_⟩
             rw [e1]
             exact ⟨ty, sz, n, f, ho, ⟨i, j, t1, t2, t3, fun _ => ⟨hc.1, hc.2.1⟩⟩, fun _ => hc.2.2.2, hi2 n, hx.symm⟩
           · cases hx
         · cases hx
       · cases hx
     · rename_i o L off k hv
       obtain ⟨w1, e1⟩ := AV.val_ok hv
       split at hx
       · rename_i ty sz n f ho
         split at hx
         · rename_i i j hs
           obtain ⟨t1, t2, t3⟩ := sl2_ok hs
           split at hx
           · rename_i hc
             simp only [Option.some.injEq] at hx
             refine ⟨l.getD 0, hh.getD k, lo1, lo2, hi1 k, fun _ => ⟨w1, hc.2.2.1⟩, ?_⟩
             rw [e1]
             exact ⟨ty, sz, n, f, ho, ⟨i, j, t1, t2, t3, fun _ => ⟨hc.1, hc.2.1⟩⟩, fun _ => hc.2.2.2, hi2 k, hx.symm⟩
           · cases hx
         · cases hx
       · cases hx
     · rename_i hv
       obtain ⟨w1, e1⟩ := AV.val_ok hv
       split at hx
       · rename_i q hs
         obtain ⟨t1, t2, t3⟩ := sl2_ok hs
         split at hx
         · rename_i hc
           simp only [Option.some.injEq] at hx
           refine ⟨l.getD 0, hh.getD 0, lo1, lo2, hi1 0, fun _ => ⟨w1, by omega⟩, ?_⟩
           rw [e1]
           exact ⟨⟨q.1, q.2, t1, t2, t3⟩, hc.1, hx.symm⟩
         · cases hx
       · cases hx
     · rename_i b hv
       obtain ⟨w1, e1⟩ := AV.val_ok hv
       split at hx
       · rename_i hc
         simp only [Bool.and_eq_true, decide_eq_true_eq] at hc
         simp only [Option.some.injEq] at hx
         refine ⟨l.getD 0, hh.getD b.size, lo1, lo2, hi1 b.size, fun _ => ⟨w1, hc.2.2⟩, ?_⟩
         rw [e1]
         exact ⟨isStr_ok hc.1, fun _ => hc.2.1, hi2 b.size, hx.symm⟩
       · cases hx
     · cases hx
   · cases hx
 · cases hx
theorem e1_ok [Glb] (op : Op) (hx : e1 P h op (opv s op) = some x) : aop1 P op (ev s) h true x := by
 cases op with
 | load t y => exact eload_ok (by simpa only [e1, opv, Op.operands, List.map_cons, List.map_nil] using hx)
 | indexAddr t y z => exact eidx_ok (by simpa only [e1, opv, Op.operands, List.map_cons, List.map_nil] using hx)
 | lookup t y z ok => exact elookup_ok (by simpa only [e1, opv, Op.operands, List.map_cons, List.map_nil] using hx)
 | slice t y lo hi mx =>
   cases mx with
   | none =>
     refine eslice_ok ?_
     simpa [e1, opv, Op.operands] using hx
   | some m => simp [e1, opv, Op.operands] at hx
 | call c =>
   obtain ⟨callee, args, ats⟩ := c
   cases callee with
   | builtin b =>
     cases b with
     | len =>
       have hx' : elenL P h ats (args.toList.map (ev s)) = some x := by simpa [e1, opv, Op.operands, Call.operands] using hx
       unfold elenL at hx'
       split at hx'
       · rename_i y hl
         obtain ⟨h1, h2⟩ := ite_some hx'
         obtain ⟨z, rfl, rfl⟩ := args1 hl
         rw [size1 h1]
         exact elen_ok h2
       · cases hx'
     | _ => simp [e1, opv] at hx
   | _ => simp [e1, opv] at hx
 | _ => simp [e1, opv] at hx
def estore (P : Program) (h : Nat → AObj) (t : TypeId) (y z : AV) : Option (Nat × AObj) := match tinfo P t, y.val, z.val with
 | some i, some (.ptr o off), some v => match h o, v.cells with
   | .box ty cells, some l => if l.length = i.size ∧ off + i.size ≤ cells.length then some (o, .box ty (setL cells off l)) else none
   | _, _ => none
 | some i, some (.rp o L k off), some v => match h o, v.closedCells with
   | .row ty sz n f, some l => if L = n ∧ k < n ∧ l.length = i.size ∧ off + i.size ≤ sz then some (o, .row ty sz n (upd f k (setLC (f k) off l))) else none
   | _, _ => none
 | _, _, _ => none
noncomputable def emapU (P : Program) (h : Nat → AObj) (t : TypeId) (m k v : AV) : Option (Nat × AObj) := match mapT P t with
 | some (kt, _) => match P.underlying kt, m.val, k.val.bind AV.raw?, v.val with
   | some kd, some (.mref o), some kk, some vv => match h o with
     | .map es c => if keyOk kd kk = true ∧ (es.all fun e => keyOk kd e.1) = true then some (o, let q := putLK kk vv c es; .map q.1 q.2) else none
     | _ => none
   | _, _, _, _ => none
 | none => none
def eapp (P : Program) (h : Nat → AObj) (fresh : Nat) (t : TypeId) (y z : AV) : Option (Nat × AObj × AV) := match sl2 P t, y.val, z.val with
 | some (i, j), some u, some v => if 0 < j.size ∧ j.zero.length = j.size then match srcOf h v with
     | some (sz, m, g) => if m = 0 ∨ sz = j.size then match u with
         | .own o L => match h o with
           | .row ty sz' n f => if sz' = j.size ∧ ty = i.elem ∧ L = n ∧ n + m ≤ maxLen ∧ (n + m) * j.bytes ≤ 140737488355328 then
               some (o, .row ty j.size (n + m) (fun q => if q < n then f q else g (q - n)), .own o (n + m)) else none
           | _ => none
         | .emp => if m ≤ maxLen ∧ m * j.bytes ≤ 140737488355328 then some (fresh, .row i.elem j.size m g, .own fresh m) else none
         | _ => none
       else none
     | none => none
   else none
 | _, _, _ => none
def eappL (P : Program) (h : Nat → AObj) (fresh : Nat) (ats : Array TypeId) : List AV → Option (Nat × AObj × AV)
 | [y, z] => if ats.size = 2 ∧ ats.getD 0 0 = ats.getD 1 0 then eapp P h fresh (ats.getD 0 0) y z else none
 | _ => none
def emake (P : Program) (fresh : Nat) (t : TypeId) (y z : AV) : Option (AObj × AV) := match sl2 P t, y.val.bind AV.num, z.val.bind AV.num with
 | some (i, j), some (_, n), some (_, n') => if j.zero.length = j.size ∧ 0 < j.size ∧ n = n' ∧ 0 ≤ n ∧ n ≤ 9223372036854775807 ∧ j.bytes * n ≤ 281474976710656 then
     some (.row i.elem j.size n.toNat (fun _ => j.zero.map fun v => (constAV1 v).closed1.getD .any), .own fresh n.toNat) else none
 | _, _, _ => none
noncomputable def e2 (P : Program) (h : Nat → AObj) (fresh : Nat) : Op → List AV → Option (Nat × AObj × AV)
 | .store t _ _, [y, z] => (estore P h t y z).map fun q => (q.1, q.2, .c .any)
 | .mapUpdate t _ _ _, [m, k, v] => (emapU P h t m k v).map fun q => (q.1, q.2, .c .any)
 | .call ⟨.builtin .append, _, ats⟩, vs => eappL P h fresh ats vs
 | _, _ => none
def e3 (P : Program) (fresh : Nat) : Op → List AV → Option (AObj × AV)
 | .box t _, [y] => match y.val with
   | some u => u.cells.map fun l => (.box t l, .ptr fresh 0)
   | none => none
 | .alloc t, _ => match tinfo P t with
   | some i => if i.zero.isEmpty then none else some (.box t (i.zero.map constAV1), .ptr fresh 0)
   | none => none
 | .makeMap t _, vs => if (vs.all fun y => (y.val.bind AV.num).isSome) = true then (mapT P t).map fun _ => (.map [] 0, .mref fresh) else none
 | .makeSlice t _ _, [y, z] => emake P fresh t y z
 | _, _ => none
theorem estore_ok {d : Option Tmp} {t : TypeId} {y z : Operand} {ob : Nat} {x' : AObj} (hd : d = none) (hx : estore P h t (ev s y) (ev s z) = some (ob, x')) : aop2 P (.store t y z) (ev s) h d ob x' (.c .any) := by
 unfold estore at hx
 split at hx
 · rename_i i o off v hi hy hz
   obtain ⟨w1, e1⟩ := AV.val_ok hy
   obtain ⟨w2, e2⟩ := AV.val_ok hz
   split at hx
   · rename_i ty cells l ho hl
     obtain ⟨hc, hx⟩ := ite_some hx
     simp only [Option.some.injEq, Prod.mk.injEq] at hx
     refine ⟨hd, i, hi, w1, w2, ?_⟩
     rw [e1]
     exact ⟨hx.1.symm, ty, cells, l, ho, by rw [e2]; exact hl, hc.1, hc.2, hx.2.symm⟩
   · cases hx
 · rename_i i o L k off v hi hy hz
   obtain ⟨w1, e1⟩ := AV.val_ok hy
   obtain ⟨w2, e2⟩ := AV.val_ok hz
   split at hx
   · rename_i ty sz n f l ho hl
     obtain ⟨hc, hx⟩ := ite_some hx
     simp only [Option.some.injEq, Prod.mk.injEq] at hx
     refine ⟨hd, i, hi, w1, w2, ?_⟩
     rw [e1]
     exact ⟨hx.1.symm, ty, sz, n, f, l, ho, hc.1, hc.2.1, by rw [e2]; exact hl, hc.2.2.1, hc.2.2.2, hx.2.symm⟩
   · cases hx
 · cases hx
theorem emapU_ok {d : Option Tmp} {t : TypeId} {m k v : Operand} {ob : Nat} {x' : AObj} (hd : d = none) (hx : emapU P h t (ev s m) (ev s k) (ev s v) = some (ob, x')) : aop2 P (.mapUpdate t m k v) (ev s) h d ob x' (.c .any) := by
 unfold emapU at hx
 split at hx
 · rename_i kt et hm
   split at hx
   · rename_i kd o kk vv hk hy hz hv
     obtain ⟨w1, e1⟩ := AV.val_ok hy
     obtain ⟨u, hu, hr⟩ := bind_some hz
     obtain ⟨w2, e2⟩ := AV.val_ok hu
     obtain ⟨w3, e3⟩ := AV.val_ok hv
     split at hx
     · rename_i es c ho
       obtain ⟨hc, hx⟩ := ite_some hx
       simp only [Option.some.injEq, Prod.mk.injEq] at hx
       refine ⟨hd, kt, et, kd, kk, es, c, mapT_ok hm, hk, hc.1, e2.trans (AV.raw_ok hr), w1, w2, w3, ?_, ?_, hc.2, ?_⟩
       · rw [e1, hx.1]
       · rw [← hx.1]; exact ho
       · rw [e3]; rw [← putLK_eq]; exact hx.2.symm
     · cases hx
   · cases hx
 · cases hx
theorem size2 {ats : Array TypeId} (h : ats.size = 2) (he : ats.getD 0 0 = ats.getD 1 0) : ats = #[ats.getD 0 0, ats.getD 0 0] := by
 match ats, h, he with
 | ⟨[a, b]⟩, _, he => simp only [Array.getD] at he; simp_all
theorem eapp_ok {d : Option Tmp} {args : Array Operand} {ats : Array TypeId} {fresh ob : Nat} {x' : AObj} (hf : ob = fresh → h fresh = .gone) (hx : eappL P h fresh ats (args.toList.map (ev s)) = some (ob, x', x)) : aop2 P (.call ⟨.builtin .append, args, ats⟩) (ev s) h d ob x' x := by
 unfold eappL at hx
 split at hx
 · rename_i y' z' hl
   obtain ⟨y, z, rfl, rfl, rfl⟩ := args2 hl
   obtain ⟨⟨h1, h2⟩, hx⟩ := ite_some hx
   rw [size2 h1 h2]
   generalize ats.getD 0 0 = t at hx
   unfold eapp at hx
   split at hx
   · rename_i i j u v hs hy hz
     obtain ⟨t1, t2, t3⟩ := sl2_ok hs
     obtain ⟨w1, e1⟩ := AV.val_ok hy
     obtain ⟨w2, e2⟩ := AV.val_ok hz
     obtain ⟨⟨c1, c2⟩, hx⟩ := ite_some hx
     split at hx
     · rename_i sz m g hsrc
       obtain ⟨c3, hx⟩ := ite_some hx
       refine ⟨y, z, t, i, j, sz, m, g, rfl, rfl, t1, t2, t3, c1, c2, w1, w2, by rw [e2]; exact hsrc, c3, ?_⟩
       rw [e1]
       split at hx
       · rename_i o L
         split at hx
         · rename_i ty sz' n f ho
           have hq := ite_some hx
           clear hx
           obtain ⟨⟨k1, k2, k3, k4, k5⟩, hx⟩ := hq
           simp only [Option.some.injEq, Prod.mk.injEq] at hx
           subst k1
           obtain ⟨rfl, q2, q3⟩ := hx
           exact ⟨rfl, ty, n, f, ho, k2, k3, k4, k5, q2.symm, q3.symm⟩
         · cases hx
       · obtain ⟨⟨k1, k2⟩, hx⟩ := ite_some hx
         simp only [Option.some.injEq, Prod.mk.injEq] at hx
         obtain ⟨rfl, q2, q3⟩ := hx
         exact ⟨hf rfl, k1, k2, q2.symm, q3.symm⟩
       · cases hx
     · cases hx
   · cases hx
 · cases hx
theorem e2_ok (d : Option Tmp) (op : Op) {fresh ob : Nat} {x' : AObj} (hd : d = none ∨ ∃ args ats, op = .call ⟨.builtin .append, args, ats⟩) (hf : ob = fresh → h fresh = .gone) (hx : e2 P h fresh op (opv s op) = some (ob, x', x)) : aop2 P op (ev s) h d ob x' x := by
 cases op with
 | store t y z =>
   simp only [e2, opv, Op.operands, List.map_cons, List.map_nil] at hx
   obtain ⟨q, h1, h2⟩ := map_some hx
   simp only [Prod.mk.injEq] at h2
   obtain ⟨rfl, rfl, rfl⟩ := h2
   exact estore_ok (hd.resolve_right (by simp)) h1
 | mapUpdate t m k v =>
   simp only [e2, opv, Op.operands, List.map_cons, List.map_nil] at hx
   obtain ⟨q, h1, h2⟩ := map_some hx
   simp only [Prod.mk.injEq] at h2
   obtain ⟨rfl, rfl, rfl⟩ := h2
   exact emapU_ok (hd.resolve_right (by simp)) h1
 | call c =>
   obtain ⟨callee, args, ats⟩ := c
   cases callee with
   | builtin b =>
     cases b with
     | append =>
       have hx' : eappL P h fresh ats (args.toList.map (ev s)) = some (ob, x', x) := by simpa [e2, opv, Op.operands, Call.operands] using hx
       exact eapp_ok hf hx'
     | _ => simp [e2, opv] at hx
   | _ => simp [e2, opv] at hx
 | _ => simp [e2, opv] at hx
theorem e3_ok (op : Op) {fresh : Nat} {x' : AObj} (hx : e3 P fresh op (opv s op) = some (x', x)) : aop3 P op (ev s) fresh x' x := by
 cases op with
 | box t y =>
   simp only [e3, opv, Op.operands, List.map_cons, List.map_nil] at hx
   split at hx
   · rename_i u hu
     obtain ⟨w1, e1⟩ := AV.val_ok hu
     obtain ⟨l, h1, h2⟩ := map_some hx
     simp only [Prod.mk.injEq] at h2
     exact ⟨l, w1, by rw [e1]; exact h1, h2.1.symm, h2.2.symm⟩
   · cases hx
 | alloc t =>
   simp only [e3, opv] at hx
   split at hx
   · rename_i i hi
     split at hx
     · cases hx
     · rename_i hz
       simp only [Option.some.injEq, Prod.mk.injEq] at hx
       exact ⟨i, hi, fun e => hz (by rw [e]; rfl), hx.1.symm, hx.2.symm⟩
   · cases hx
 | makeMap t r =>
   simp only [e3, opv] at hx
   obtain ⟨hr, hx⟩ := ite_some hx
   obtain ⟨q, h1, h2⟩ := map_some hx
   simp only [Prod.mk.injEq] at h2
   refine ⟨⟨q.1, q.2, mapT_ok h1⟩, fun y e => ?_, h2.1.symm, h2.2.symm⟩
   subst e
   rw [List.all_eq_true] at hr
   have h3 := hr (ev s y) (by simp [Op.operands])
   rw [Option.isSome_iff_exists] at h3
   obtain ⟨kn, h3⟩ := h3
   obtain ⟨u, hu, hb⟩ := bind_some h3
   obtain ⟨w1, e1⟩ := AV.val_ok hu
   exact ⟨w1, kn.1, kn.2, e1.trans (AV.num_ok hb)⟩
 | makeSlice t y z =>
   simp only [e3, opv, Op.operands, List.map_cons, List.map_nil] at hx
   unfold emake at hx
   split at hx
   · rename_i i j k1 n k2 n' hs h1 h2
     obtain ⟨t1, t2, t3⟩ := sl2_ok hs
     obtain ⟨u, hu, hr⟩ := bind_some h1
     obtain ⟨w1, e1⟩ := AV.val_ok hu
     obtain ⟨v, hv, hq⟩ := bind_some h2
     obtain ⟨w2, e2⟩ := AV.val_ok hv
     have hq' := ite_some hx
     clear hx
     obtain ⟨⟨c1, c2, c3, c4, c5, c6⟩, hx⟩ := hq'
     simp only [Option.some.injEq, Prod.mk.injEq] at hx
     subst c3
     exact ⟨i, j, k1, k2, n, t1, t2, t3, c1, c2, w1, w2, e1.trans (AV.num_ok hr), e2.trans (AV.num_ok hq), c4, c5, c6, hx.1.symm, hx.2.symm⟩
   · cases hx
 | _ => simp [e3, opv] at hx
end
end Go.Am
namespace Go.Am
open Go.RowKit
noncomputable def nthK {α : Type} (d : α) (l : List α) : Nat → α := List.rec (motive := fun _ => Nat → α) (fun _ => d) (fun a _ ih n => Nat.rec (motive := fun _ => α) a (fun m _ => ih m) n) l
noncomputable def setK {α : Type} (l : List α) (x : α) : Nat → List α := List.rec (motive := fun _ => Nat → List α) (fun _ => []) (fun a r ih n => Nat.rec (motive := fun _ => List α) (x :: r) (fun m _ => a :: ih m) n) l
theorem nthK_eq {α : Type} (d : α) : ∀ (l : List α) (n : Nat), nthK d l n = l.getD n d
 | [], n => rfl
 | a :: r, 0 => rfl
 | a :: r, n + 1 => by
   have := nthK_eq d r n
   simp only [List.getD_cons_succ]
   rw [← this]
   rfl
theorem setK_eq {α : Type} (x : α) : ∀ (l : List α) (n : Nat), setK l x n = l.set n x
 | [], n => rfl
 | a :: r, 0 => rfl
 | a :: r, n + 1 => by
   have := setK_eq x r n
   rw [List.set_cons_succ, ← this]
   rfl
noncomputable def hD (V : List AObj) : AH := fun o => nthK .gone V o
theorem hD_def (V : List AObj) (o : Nat) : hD V o = V.getD o .gone := nthK_eq _ _ _
noncomputable def sD (S : List (List AV)) : Slots := fun t => nthK (.c .any) (nthK [] S (t / 8)) (t % 8)
theorem sD_def (S : List (List AV)) (t : Nat) : sD S t = (S.getD (t / 8) []).getD (t % 8) (.c .any) := by
 unfold sD
 rw [nthK_eq, nthK_eq]
def Ext (g h : AH) : Prop := ∀ o, g o ≠ .gone → h o = g o
theorem Ext.refl (g : AH) : Ext g g := fun _ _ => rfl
def appEs (h : AH) : List (Nat × AObj) → AH
 | [] => h
 | p :: r => appEs (upd h p.1 p.2) r
section
variable {P : Program} {g h : AH} {x y z : AV}
theorem eload_mono (he : Ext g h) {t : TypeId} (hx : eload P g t y = some x) : eload P h t y = some x := by
 revert hx
 unfold eload
 cases tinfo P t with
 | none => exact id
 | some i =>
   simp only
   cases hc : (i.agg || i.size == 1) with
   | false => exact id
   | true =>
     simp only [if_true]
     cases y.val with
     | none => exact id
     | some u =>
       cases u with
       | ptr o off =>
         intro hx
         by_cases hg : g o = .gone
         · simp [hg] at hx
         · simp only [he o hg]; exact hx
       | rp o L k off =>
         intro hx
         by_cases hg : g o = .gone
         · simp [hg] at hx
         · simp only [he o hg]; exact hx
       | c cv => cases cv <;> first | exact id | (rename_i v; cases v <;> exact id)
       | _ => exact id
theorem elen_mono (he : Ext g h) {t : TypeId} (hx : elen P g t y = some x) : elen P h t y = some x := by
 revert hx
 unfold elen
 cases y.val with
 | none => exact id
 | some u =>
   cases u with
   | own o L =>
     intro hx
     by_cases hg : g o = .gone
     · simp [hg] at hx
     · simp only [he o hg]; exact hx
   | osub o L off k =>
     intro hx
     by_cases hg : g o = .gone
     · simp [hg] at hx
     · simp only [he o hg]; exact hx
   | mref o =>
     intro hx
     by_cases hg : g o = .gone
     · simp [hg] at hx
     · simp only [he o hg]; exact hx
   | c cv => cases cv <;> first | exact id | (rename_i v; cases v <;> exact id)
   | _ => exact id
theorem eidx_mono (he : Ext g h) {t : TypeId} (hx : eidx P g t y z = some x) : eidx P h t y z = some x := by
 revert hx
 unfold eidx
 cases sl2 P t with
 | none => exact id
 | some q =>
   cases z.val.bind AV.num with
   | none => exact id
   | some r =>
     obtain ⟨k, n⟩ := r
     simp only
     by_cases h0 : 0 ≤ n
     · simp only [if_pos h0]
       cases y.val with
       | none => exact id
       | some u =>
         cases u with
         | own o L =>
           intro hx
           by_cases hg : g o = .gone
           · simp [hg] at hx
           · simp only [he o hg]; exact hx
         | osub o L off k =>
           intro hx
           by_cases hg : g o = .gone
           · simp [hg] at hx
           · simp only [he o hg]; exact hx
         | c cv => cases cv <;> first | exact id | (rename_i v; cases v <;> exact id)
         | _ => exact id
     · simp only [if_neg h0]; exact id
theorem eslice_mono (he : Ext g h) {t : TypeId} {lo hi : Option Operand} {vs : List AV} (hx : eslice P g t lo hi y vs = some x) : eslice P h t lo hi y vs = some x := by
 revert hx
 unfold eslice
 cases ebnd lo vs with
 | none => exact id
 | some q =>
   simp only
   cases ebnd hi q.2 with
   | none => exact id
   | some r =>
     obtain ⟨hh, rest⟩ := r
     cases rest with
     | cons _ _ => exact id
     | nil =>
       simp only
       cases y.val with
       | none => exact id
       | some u =>
         cases u with
         | own o L =>
           intro hx
           by_cases hg : g o = .gone
           · simp [hg] at hx
           · simp only [he o hg]; exact hx
         | osub o L off k =>
           intro hx
           by_cases hg : g o = .gone
           · simp [hg] at hx
           · simp only [he o hg]; exact hx
         | c cv => cases cv <;> first | exact id | (rename_i v; cases v <;> exact id)
         | _ => exact id
theorem elookup_mono (he : Ext g h) {t : TypeId} {ok : Bool} (hx : elookup P g t ok y z = some x) : elookup P h t ok y z = some x := by
 revert hx
 unfold elookup
 cases mapT P t with
 | none => exact id
 | some q =>
   simp only
   cases P.underlying q.1 with
   | none => exact id
   | some kd =>
     cases y.val with
     | none => exact id
     | some m =>
       cases z.val.bind AV.raw? with
       | none => exact id
       | some k =>
         simp only
         cases m with
         | mref o =>
           intro hx
           by_cases hg : g o = .gone
           · simp only [efind, hg] at hx; split at hx <;> cases hx
           · simp only [efind, he o hg]; exact hx
         | c cv => cases cv <;> first | exact id | (rename_i v; cases v <;> first | exact id | (rename_i r; cases r <;> exact id))
         | _ => exact id
theorem e1_mono (he : Ext g h) {op : Op} {vs : List AV} (hx : e1 P g op vs = some x) : e1 P h op vs = some x := by
 revert hx
 unfold e1
 split
 · exact eload_mono he
 · unfold elenL
   split
   · rename_i ats _
     intro hx
     obtain ⟨h1, h2⟩ := ite_some hx
     rw [if_pos h1]
     exact elen_mono he h2
   · exact id
 · exact eidx_mono he
 · exact eslice_mono he
 · exact elookup_mono he
 · exact id
theorem srcOf_mono (he : Ext g h) {v : AV} {q : Nat × Nat × (Nat → List CV)} (hx : srcOf g v = some q) : srcOf h v = some q := by
 revert hx
 unfold srcOf
 split
 · exact id
 · exact id
 · exact id
 · rename_i o L
   intro hx
   by_cases hg : g o = .gone
   · simp [hg] at hx
   · simp only [he o hg]; exact hx
 · rename_i o L off k
   intro hx
   by_cases hg : g o = .gone
   · simp [hg] at hx
   · simp only [he o hg]; exact hx
 · exact id
theorem estore_mono (he : Ext g h) {t : TypeId} {q : Nat × AObj} (hx : estore P g t y z = some q) : estore P h t y z = some q := by
 revert hx
 unfold estore
 cases tinfo P t with
 | none => exact id
 | some i =>
   cases y.val with
   | none => exact id
   | some u =>
     cases z.val with
     | none => cases u <;> exact id
     | some v =>
       cases u with
       | ptr o off =>
         intro hx
         by_cases hg : g o = .gone
         · simp [hg] at hx
         · simp only [he o hg]; exact hx
       | rp o L k off =>
         intro hx
         by_cases hg : g o = .gone
         · simp [hg] at hx
         · simp only [he o hg]; exact hx
       | _ => exact id
theorem emapU_mono (he : Ext g h) {t : TypeId} {w : AV} {q : Nat × AObj} (hx : emapU P g t y z w = some q) : emapU P h t y z w = some q := by
 revert hx
 unfold emapU
 cases mapT P t with
 | none => exact id
 | some r =>
   simp only
   cases P.underlying r.1 with
   | none => exact id
   | some kd =>
     cases y.val with
     | none => exact id
     | some m =>
       cases z.val.bind AV.raw? with
       | none => cases m <;> exact id
       | some k =>
         cases w.val with
         | none => cases m <;> exact id
         | some vv =>
           cases m with
           | mref o =>
             intro hx
             by_cases hg : g o = .gone
             · simp [hg] at hx
             · simp only [he o hg]; exact hx
           | _ => exact id
theorem eapp_mono (he : Ext g h) {t : TypeId} {fr : Nat} {q : Nat × AObj × AV} (hx : eapp P g fr t y z = some q) : eapp P h fr t y z = some q := by
 revert hx
 unfold eapp
 cases sl2 P t with
 | none => exact id
 | some r =>
   obtain ⟨i, j⟩ := r
   cases y.val with
   | none => exact id
   | some u =>
     cases z.val with
     | none => exact id
     | some v =>
       simp only
       intro hx
       obtain ⟨hc, hx⟩ := ite_some hx
       rw [if_pos hc]
       cases hs : srcOf g v with
       | none => rw [hs] at hx; cases hx
       | some sq =>
         rw [hs] at hx
         rw [srcOf_mono he hs]
         simp only at hx ⊢
         obtain ⟨hc2, hx⟩ := ite_some hx
         rw [if_pos hc2]
         cases u with
         | own o L =>
           by_cases hg : g o = .gone
           · simp [hg] at hx
           · simp only [he o hg]; exact hx
         | _ => exact hx
theorem e2_mono (he : Ext g h) {op : Op} {vs : List AV} {fr : Nat} {q : Nat × AObj × AV} (hx : e2 P g fr op vs = some q) : e2 P h fr op vs = some q := by
 revert hx
 unfold e2
 split
 · intro hx
   obtain ⟨r, h1, h2⟩ := map_some hx
   rw [estore_mono he h1]
   exact congrArg some h2
 · intro hx
   obtain ⟨r, h1, h2⟩ := map_some hx
   rw [emapU_mono he h1]
   exact congrArg some h2
 · unfold eappL
   split
   · intro hx
     obtain ⟨h1, h2⟩ := ite_some hx
     rw [if_pos h1]
     exact eapp_mono he h2
   · exact id
 · exact id
end
section
variable {P : Program} {nt : Nat} {fo : List Nat} {ops : Array Oper}
def StepOk [Glb] (P : Program) (nt : Nat) (fo : List Nat) (ops : Array Oper) (o : Oper) (x : AV) (es : List (Nat × AObj)) (s : Slots) (h : AH) : Prop :=
 ∀ (l : List Oper) (Q : APost), AWpL P nt fo ops l Q (updO s o.dst x) (appEs h es) → AWpL P nt fo ops (o :: l) Q s h
theorem AWpL.weak [Glb] {l : List Oper} {Q : APost} {s s' : Slots} {h h' : AH} (hw : Weak fo s h s' h') (hc : AWpL P nt fo ops l Q s' h') : AWpL P nt fo ops l Q s h := fun E a w I R => hc E a w I (hw E nt a w I R)
theorem awpl_retab [Glb] {l : List Oper} {Q : APost} {s : Slots} {h : AH} {ob : Nat} {x : AObj} (hq : AWpL P nt fo ops l Q s (upd h ob x.retab)) : AWpL P nt fo ops l Q s (upd h ob x) := by
 refine AWpL.weak (weak_rows fun o => ?_) hq
 by_cases ho : o = ob
 · subst ho; rw [upd_same, upd_same]; exact retab_le x
 · rw [upd_ne _ _ _ _ ho, upd_ne _ _ _ _ ho]; exact objLe_refl _
theorem hD_len (V : List AObj) : hD V V.length = .gone := by simp [hD_def]
end
end Go.Am
namespace Go.Am
open Go.RowKit
section
variable {P : Program} {nt : Nat} {fo : List Nat} {ops : Array Oper}
def maxI (k : IntKind) : Int → List Int → Int
 | a, [] => a
 | a, b :: r => maxI k (if b > a then b else a) r
theorem run_maxL (k : IntKind) (w : World) : ∀ (l : List Int) (a : Int), ((l.map (Value.int k)).foldlM Builtin.max2 (.int k a) : Sem Value).run P w = .ok (.int k (maxI k a l)) w
 | [], a => rfl
 | b :: r, a => by
   rw [List.map_cons, List.foldlM_cons]
   simp only [Builtin.max2, Sem.run_bind, Sem.run_pure, Result.andThen_ok]
   exact run_maxL k w r _
def intsOf (k : IntKind) : List AV → Option (List Int)
 | [] => some []
 | x :: r => match x.val.bind AV.num, intsOf k r with
   | some (k', n), some l => if k' = k then some (n :: l) else none
   | _, _ => none
theorem intsOf_ok [Glb] {E : Env} {w : World} {s : Slots} {h : AH} {gs : Gs} {a : Act} (R : RelG E nt s h gs a w) {k : IntKind} : ∀ {ys : List Operand} {l : List Int}, intsOf k (ys.map (ev s)) = some l → ys.map a.eval = l.map (Value.int k)
 | [], l, h => by
   simp only [List.map_nil, intsOf, Option.some.injEq] at h
   subst h
   rfl
 | y :: ys, l, h => by
   simp only [List.map_cons, intsOf] at h
   split at h
   · rename_i k' n l' h1 h2
     obtain ⟨hk, h3⟩ := ite_some h
     simp only [Option.some.injEq] at h3
     subst h3
     obtain ⟨u, hu, hr⟩ := bind_some h1
     obtain ⟨w1, e1⟩ := AV.val_ok hu
     have c1 := (ev_ok R y).raw_of w1 (e1.trans (AV.num_ok hr))
     rw [List.map_cons, List.map_cons, intsOf_ok R h2, c1, hk]
   · cases h
def eMax (vs : List AV) : Option AV := match vs with
 | x :: r => match x.val.bind AV.num with
   | some (k, n) => (intsOf k r).map fun l => .c (.raw (.int k (maxI k n l)))
   | none => none
 | [] => none
theorem eMax_ok [Glb] {s : Slots} {h : AH} {d : Option Tmp} {args : Array Operand} {ats : Array TypeId} {ty : TypeId} {pos : String} {af : Array Edge} {x : AV} (hd : dOk nt d = true) (hx : eMax (args.toList.map (ev s)) = some x) : StepOk P nt fo ops ⟨d, .call ⟨.builtin .max, args, ats⟩, ty, pos, af, none⟩ x [] s h := by
 intro l Q hq
 refine awpl_val (o := ⟨d, .call ⟨.builtin .max, args, ats⟩, ty, pos, af, none⟩) rfl (fun E a w gs R => ?_) hq
 unfold eMax at hx
 split at hx
 · rename_i x0 r hl
   split at hx
   · rename_i k n h1
     obtain ⟨li, h2, rfl⟩ := map_some hx
     match ha : args.toList, hl with
     | y :: ys, hl =>
       simp only [List.map_cons, List.cons.injEq] at hl
       obtain ⟨rfl, rfl⟩ := hl
       obtain ⟨u, hu, hr⟩ := bind_some h1
       obtain ⟨w1, e1⟩ := AV.val_ok hu
       have c1 := (ev_ok R y).raw_of w1 (e1.trans (AV.num_ok hr))
       have c2 := intsOf_ok R h2
       have hlist : (args.map a.eval).toList = .int k n :: li.map (Value.int k) := by
         rw [Array.toList_map, ha, List.map_cons, c1, c2]
       refine ⟨.int k (maxI k n li), w, ?_, gs, R.putO (fun t e => by simp only at e; subst e; simpa [dOk] using hd) (.c _ _ (.raw _))⟩
       have hm : (Builtin.max_ ats ty (args.map a.eval)).run P w = .ok (.int k (maxI k n li)) w := by
         unfold Builtin.max_
         rw [hlist]
         exact run_maxL k w li n
       simp [execOp, resolve, invoke, builtin, hm]
   · cases hx
 · cases hx
def eMakeC (P : Program) (fresh : Nat) (t : TypeId) (y z : AV) : Option (AV × List (Nat × AObj)) := match sl2 P t, y.val.bind AV.num, z.val.bind AV.num with
 | some (i, j), some (_, n), some (_, c) => if j.zero.length = j.size ∧ 0 < j.size ∧ 0 ≤ n ∧ n ≤ c ∧ c ≤ 9223372036854775807 ∧ j.bytes * c ≤ 281474976710656 then
     some (.own fresh n.toNat, [(fresh, (AObj.row i.elem j.size n.toNat fun _ => j.zero.map fun v => (constAV1 v).closed1.getD .any).retab)]) else none
 | _, _, _ => none
theorem eMakeC_ok [Glb] {s : Slots} {h : AH} {d fresh : Nat} {t : TypeId} {y z : Operand} {ty : TypeId} {pos : String} {af : Array Edge} {x : AV} {es : List (Nat × AObj)} (hd : d < nt) (hn0 : ∀ p ∈ es, p.1 = fresh → h fresh = .gone) (hx : eMakeC P fresh t (ev s y) (ev s z) = some (x, es)) :
   StepOk P nt fo ops ⟨some d, .makeSlice t y z, ty, pos, af, none⟩ x es s h := by
 intro l Q hq
 unfold eMakeC at hx
 split at hx
 · rename_i i j k1 n k2 c hs h1 h2
   obtain ⟨e1, e2, e3⟩ := sl2_ok hs
   obtain ⟨u, hu, hr1⟩ := bind_some h1
   obtain ⟨w1, q1⟩ := AV.val_ok hu
   obtain ⟨v, hv, hr2⟩ := bind_some h2
   obtain ⟨w2, q2⟩ := AV.val_ok hv
   have e5 := q1.trans (AV.num_ok hr1)
   have e6 := q2.trans (AV.num_ok hr2)
   obtain ⟨⟨e4, e40, e7, e70, e8, e9⟩, hx⟩ := ite_some hx
   simp only [Option.some.injEq, Prod.mk.injEq] at hx
   obtain ⟨rfl, rfl⟩ := hx
   have ho : h fresh = .gone := hn0 _ (List.mem_cons_self ..) rfl
   have hq' : AWpL P nt fo ops l Q (upd s d (.own fresh n.toNat)) (upd h fresh (.row i.elem j.size n.toNat fun _ => j.zero.map fun v => (constAV1 v).closed1.getD .any)) := awpl_retab hq
   refine awpl_val (o := ⟨some d, .makeSlice t y z, ty, pos, af, none⟩) rfl (fun E a w gs R => ?_) hq'
   have c1 := (ev_ok R y).raw_of w1 e5
   have c2 := (ev_ok R z).raw_of w2 e6
   obtain ⟨i', dd, t1, t2, -, -, -, t6, t7, -, -⟩ := tinfo_some e1
   obtain ⟨j', dj, u1, u2, u3, u4, -, -, -, -, u9⟩ := tinfo_some e3
   cases dd with
   | slice el =>
     simp only at t6
     rw [t6] at u1
     cases hzz : j'.zero with
     | none =>
       rw [hzz] at u9
       simp only at u9
       rw [u9] at e4
       simp only [List.length_nil] at e4
       omega
     | some zv =>
       rw [hzz] at u9
       simp only at u9
       obtain ⟨z1, z2⟩ := tinfo_zero (by rw [← t6]; exact e3) u1 hzz
       rw [← u3] at z1
       have hzs : zv.cells.size = j.size := z1
       have hr := run_make (P := P) w t el j' zv t2 u1 hzz k1 k2 n c e7 e70 (by rw [← u4]; exact e9) e8
       rw [← u3] at hr
       obtain ⟨m, rfl⟩ := Int.eq_ofNat_of_zero_le e7
       obtain ⟨C, rfl⟩ := Int.eq_ofNat_of_zero_le (show 0 ≤ c by omega)
       simp only [Int.toNat_natCast] at hr ⊢
       have hmC : m ≤ C := by omega
       have R' := R.new fresh ho (.row i.elem j.size m (fun _ => j.zero.map fun v => (constAV1 v).closed1.getD .any)) C el (madeCells zv.cells (C * j.size)) fun hL _ => by
         have hpos : 0 < zv.cells.size := by omega
         have hle : m * j.size ≤ C * j.size := Nat.mul_le_mul_right _ hmC
         refine .inr ⟨w.heap.size, C, _, upd_same _ _ _, by rw [t6]; exact heap_alloc_new w _, size_madeCells _ _, hmC, by simp only [maxLen]; omega, fun q _ => by simpa using e4, fun q hq => ?_, fun q r hq hr => ?_⟩
         · have h3 := getD_made (z := zv.cells) (n := C * j.size) (i := q / j.size) (j := q % j.size) hpos (by rw [hzs]; exact Nat.mod_lt _ e40) (by rw [hzs, Nat.mul_comm, Nat.div_add_mod]; omega)
           rw [hzs, Nat.mul_comm (q / j.size), Nat.div_add_mod] at h3
           rw [h3]
           have hlt : q % j.size < zv.cells.toList.length := by rw [Array.length_toList, hzs]; exact Nat.mod_lt _ e40
           rw [← getD_toList, getD_lt hlt]
           exact z2 _ (List.getElem_mem hlt)
         · have hqr : q * j.size + r < m * j.size := by
             have : q * j.size + j.size ≤ m * j.size := by rw [← Nat.succ_mul]; exact Nat.mul_le_mul_right _ hq
             omega
           have h3 := getD_made (z := zv.cells) (n := C * j.size) (i := q) (j := r) hpos (by omega) (by rw [hzs]; omega)
           rw [hzs] at h3
           rw [h3]
           have hlt : r < zv.cells.toList.length := by rw [Array.length_toList, hzs]; exact hr
           rw [← getD_toList, getD_lt hlt, u9, getD_lt (by simpa using hlt), List.getElem_map]
           have hk := constAV1_ok (w.alloc (.cells (madeCells zv.cells (C * j.size)) el)) (Zf E.Z (upd gs fresh (some (w.heap.size, C)))) h gs zv.cells.toList[r]
           generalize zv.cells.toList[r] = u at hk
           cases hc : (constAV1 u).closed1 with
           | none => exact .any _
           | some q => exact hk.closed1_of hc
       refine ⟨_, _, ?_, _, R'.put hd (.own (some ⟨w.heap.size, 0, none⟩) m C fresh m i.elem j.size m _ (upd_same _ _ _) (Nat.le_refl _) fun _ => .inl ⟨w.heap.size, C, upd_same _ _ _, rfl, rfl, rfl⟩)⟩
       simp only [execOp, c1, c2, Sem.run_bind, hr, Result.andThen_ok, Sem.run_pure]
   | _ => simp_all
 · cases hx
def byteCV : List CV → Option UInt8
 | [.raw (.int .u8 x)] => if 0 ≤ x ∧ x < 256 then some (UInt8.ofNat x.toNat) else none
 | _ => none
def bytesL (f : Nat → List CV) : Nat → Nat → Option (List UInt8)
 | _, 0 => some []
 | i, n + 1 => match byteCV (f i), bytesL f (i + 1) n with
   | some b, some l => some (b :: l)
   | _, _ => none
theorem bytesL_ok {f : Nat → List CV} : ∀ {n i : Nat} {l : List UInt8}, bytesL f i n = some l → l.length = n ∧ ∀ j (hj : j < l.length), f (i + j) = [.raw (.int .u8 (l[j].toNat : Int))]
 | 0, i, l, h => by
   simp only [bytesL, Option.some.injEq] at h
   subst h
   exact ⟨rfl, fun j hj => absurd hj (Nat.not_lt_zero _)⟩
 | n + 1, i, l, h => by
   simp only [bytesL] at h
   split at h
   · rename_i b l' h1 h2
     simp only [Option.some.injEq] at h
     subst h
     obtain ⟨g1, g2⟩ := bytesL_ok h2
     refine ⟨by simp [g1], fun j hj => ?_⟩
     cases j with
     | zero =>
       unfold byteCV at h1
       split at h1
       · rename_i x hf
         obtain ⟨hc, h1⟩ := ite_some h1
         simp only [Option.some.injEq] at h1
         subst h1
         simp only [Nat.add_zero, List.getElem_cons_zero]
         rw [hf]
         have : ((UInt8.ofNat x.toNat).toNat : Int) = x := by
           rw [UInt8.toNat_ofNat']
           omega
         rw [this]
       · cases h1
     | succ j =>
       have := g2 j (by simpa using hj)
       simpa [Nat.add_assoc, Nat.add_comm 1 j] using this
   · cases h
noncomputable def eB2s (P : Program) (V : List AObj) (t u : TypeId) (y : AV) : Option AV := match P.underlying t with
 | some (.slice e) => if isStr P u && intT P e == some .u8 then match y with
   | .own o L => match hD V o with
     | .row _ sz n f => if sz = 1 ∧ L = n ∧ 0 < n then (bytesL f 0 n).map fun l => .c (.raw (.string ⟨l.toArray⟩)) else none
     | _ => none
   | .c (.im sz n f) => if sz = 1 ∧ 0 < n then (bytesL f 0 n).map fun l => .c (.raw (.string ⟨l.toArray⟩)) else none
   | _ => none
   else none
 | _ => none
theorem eB2s_ok [Glb] {s : Slots} {h : AH} {V : List AObj} {d : Option Tmp} {t u : TypeId} {y : Operand} {ty : TypeId} {pos : String} {af : Array Edge} {x : AV} (hd : dOk nt d = true) (he : Ext (hD V) h) (hx : eB2s P V t u (ev s y) = some x) : StepOk P nt fo ops ⟨d, .convert t u y, ty, pos, af, none⟩ x [] s h := by
 intro l Q hq
 have hdd : ∀ q, d = some q → q < nt := fun q e => by subst e; simpa [dOk] using hd
 unfold eB2s at hx
 split at hx
 · rename_i e ht
   obtain ⟨hc, hx⟩ := ite_some hx
   rw [Bool.and_eq_true, beq_iff_eq] at hc
   have hu := isStr_ok hc.1
   have he8 := intT_ok hc.2
   refine awpl_val (o := ⟨d, .convert t u y, ty, pos, af, none⟩) rfl (fun E a w gs R => ?_) hq
   have hv := ev_ok R y
   split at hx
   · rename_i o L hy
     split at hx
     · rename_i ty0 sz n f hr
       have ho : h o = .row ty0 sz n f := by rw [he o (by rw [hr]; simp), hr]
       have hq2 := ite_some hx
       clear hx
       obtain ⟨⟨rfl, rfl, h0⟩, hx⟩ := hq2
       obtain ⟨bs, hb, rfl⟩ := map_some hx
       obtain ⟨b1, b2⟩ := bytesL_ok hb
       rw [hy] at hv
       generalize hv0 : a.eval y = v at hv
       cases hv with
       | own A k c _ _ ty' sz' n' f' ho' hL hvv =>
         rw [ho] at ho'
         injection ho' with f1 f2 f3 f4
         subst f1 f2 f3 f4
         rcases hvv rfl with ⟨b, K, g1, rfl, rfl, rfl⟩ | ⟨_, _, _, g⟩
         · have hob := R.objs o
           rw [ho] at hob
           rcases hob with r1 | ⟨b', K', cur, r1, r2, r3, r4, r5, r6, r7, r8⟩
           · rw [g1] at r1; cases r1
           rw [g1] at r1
           simp only [Option.some.injEq, Prod.mk.injEq] at r1
           obtain ⟨rfl, rfl⟩ := r1
           have hcell : ∀ j (hj : j < bs.length), w.cell? ((⟨b, 0, none⟩ : Addr).add j) = some (.int .u8 (bs[j].toNat : Int)) := fun j hj => by
             have h1 := r8 j 0 (by omega) (by omega)
             rw [show f j = [.raw (.int .u8 (bs[j].toNat : Int))] by have := b2 j hj; rwa [Nat.zero_add] at this] at h1
             simp only [Nat.mul_one, Nat.add_zero, List.getD_cons_zero] at h1
             have h2 := h1.raw_inv
             rw [addr_lit]
             simp only [World.cell?, r2, Nat.zero_add, Option.isSome_none, Bool.false_eq_true, if_false]
             rw [← h2]
             have : j < cur.size := by rw [r3, Nat.mul_one]; omega
             simp [Array.getD, this]
           have hrun := run_convert_bytes_back (P := P) w t u e ⟨b, 0, none⟩ c bs ht he8 hu hcell
           rw [b1] at hrun
           refine ⟨_, w, ?_, gs, R.putO hdd (.c _ _ (.raw _))⟩
           simp [execOp, hv0, hrun]
         · omega
     · cases hx
   · rename_i sz n f hy
     have hq2 := ite_some hx
     clear hx
     obtain ⟨⟨rfl, h0⟩, hx⟩ := hq2
     obtain ⟨bs, hb, rfl⟩ := map_some hx
     obtain ⟨b1, b2⟩ := bytesL_ok hb
     rw [hy] at hv
     generalize hv0 : a.eval y = v at hv
     cases hv with
     | c _ _ hxx =>
       cases hxx with
       | nul => omega
       | im ad _ c _ _ g hb' hlt hnc hcc ho hf' hh =>
         have hcell : ∀ j (hj : j < bs.length), w.cell? (ad.add j) = some (.int .u8 (bs[j].toNat : Int)) := fun j hj => by
           have h1 := hh j 0 (by omega) (by omega)
           rw [show f j = [.raw (.int .u8 (bs[j].toNat : Int))] by have := b2 j hj; rwa [Nat.zero_add] at this] at h1
           simp only [Nat.mul_one, Nat.add_zero, List.getD_cons_zero] at h1
           rw [hcc j (by omega), h1.raw_inv]
         have hrun := run_convert_bytes_back (P := P) w t u e ad c bs ht he8 hu hcell
         rw [b1] at hrun
         refine ⟨_, w, ?_, gs, R.putO hdd (.c _ _ (.raw _))⟩
         simp [execOp, hv0, hrun]
   · cases hx
 · cases hx
noncomputable def eClear (P : Program) (V : List AObj) (ats : Array TypeId) : List AV → Option (AV × List (Nat × AObj))
 | [.osub o L off k] => if ats.size = 1 then match hD V o, sl2 P (ats.getD 0 0) with
   | .row ty0 sz n f, some (_, j) => match j.zero with
     | [z] => if sz = 1 ∧ j.size = 1 ∧ L = n then some (.c .any, [(o, (AObj.row ty0 1 n fun q => if off ≤ q ∧ q < off + k then [(constAV1 z).closed1.getD .any] else f q).retab)]) else none
     | _ => none
   | _, _ => none
   else none
 | _ => none
theorem eClear_ok [Glb] {s : Slots} {h : AH} {V : List AObj} {args : Array Operand} {ats : Array TypeId} {ty : TypeId} {pos : String} {af : Array Edge} {x : AV} {es : List (Nat × AObj)} (he : Ext (hD V) h) (hx : eClear P V ats (args.toList.map (ev s)) = some (x, es)) :
   StepOk P nt fo ops ⟨none, .call ⟨.builtin .clear, args, ats⟩, ty, pos, af, none⟩ x es s h := by
 intro l Q hq
 unfold eClear at hx
 split at hx
 · rename_i o L off k hl
   obtain ⟨y, rfl, hy⟩ := args1 hl
   have hq1 := ite_some hx
   clear hx
   obtain ⟨h1, hx⟩ := hq1
   split at hx
   · rename_i ty0 sz n f i j hr hs
     split at hx
     · rename_i z hz
       have hq2 := ite_some hx
       clear hx
       obtain ⟨⟨rfl, h2, rfl⟩, hx⟩ := hq2
       simp only [Option.some.injEq, Prod.mk.injEq] at hx
       obtain ⟨rfl, rfl⟩ := hx
       obtain ⟨t1, t2, t3⟩ := sl2_ok hs
       rw [size1 h1]
       exact awpl_clear (awpl_retab hq) hy (by rw [he o (by rw [hr]; simp), hr]) t1 t2 t3 h2 hz
     · cases hx
   · cases hx
 · cases hx
theorem weak_dead [Glb] {s : Slots} {h : AH} {t o o' L k n : Nat} {ty : TypeId} {sz m : Nat} {f : Nat → List CV} (hs : s t = .own o' L) (ho : h o = .row ty sz m f) (hm : n < m) : Weak fo s h (upd s t (.osub o n 0 k)) h := by
 intro E nt a w I ⟨gs, R⟩
 refine ⟨gs, { R with slots := fun t' => ?_ }⟩
 have h1 := R.slots t'
 by_cases e : t' = t
 · subst e
   rw [upd_same]
   rw [hs] at h1
   generalize a.tmps.getD t' undef = v at h1
   cases h1 with
   | own A k' c _ _ ty' sz' n' f' ho' hL hv => exact .osub A k' c o n 0 k ty sz m f ho (by omega) fun e => by omega
 · rw [upd_ne _ _ _ _ e]
   exact h1
def notTmp (t : Nat) : Operand → Bool
 | .tmp t' => t' != t
 | _ => true
noncomputable def eAppS (P : Program) (V : List AObj) (args : Array Operand) (ats : Array TypeId) : List AV → Option (AV × List (Nat × AObj))
 | [.osub o L off k, z] => match args.toList, hD V o with
   | [.tmp t, zo], .row ty sz n f => if off = 0 ∧ L = n ∧ notTmp t zo = true then
       match eappL P (upd (upd (hD V) o (.row ty sz (n + 1) f)) V.length (.row ty sz k f)) (V.length + 1) ats [.own V.length k, z] with
       | some (ob, x', x) => if ob = V.length ∧ o ≠ V.length then some (x, [(o, (AObj.row ty sz (n + 1) f).retab), (V.length, x'.retab)]) else none
       | none => none
     else none
   | _, _ => none
 | _ => none
theorem eAppS_ok [Glb] {s : Slots} {h : AH} {V : List AObj} {d : Option Tmp} {args : Array Operand} {ats : Array TypeId} {ty : TypeId} {pos : String} {af : Array Edge} {x : AV} {es : List (Nat × AObj)} (hd : dOk nt d = true) (he : Ext (hD V) h) (hn : ∀ p ∈ es, hD V p.1 = .gone → h p.1 = .gone)
   (hx : eAppS P V args ats (args.toList.map (ev s)) = some (x, es)) : StepOk P nt fo ops ⟨d, .call ⟨.builtin .append, args, ats⟩, ty, pos, af, none⟩ x es s h := by
 intro l Q hq
 unfold eAppS at hx
 split at hx
 · rename_i o L off k z hl
   split at hx
   · rename_i t zo ty0 sz n f ha hr
     have hq1 := ite_some hx
     clear hx
     obtain ⟨⟨rfl, rfl, hne⟩, hx⟩ := hq1
     split at hx
     · rename_i ob x' x0 happ
       have hq2 := ite_some hx
       clear hx
       obtain ⟨⟨rfl, hol⟩, hx⟩ := hq2
       simp only [Option.some.injEq, Prod.mk.injEq] at hx
       obtain ⟨rfl, rfl⟩ := hx
       rw [ha] at hl
       simp only [List.map_cons, List.map_nil, List.cons.injEq, and_true] at hl
       obtain ⟨hst, hz⟩ := hl
       have hst' : s t = .osub o L 0 k := hst
       have ho : h o = .row ty0 sz L f := by rw [he o (by rw [hr]; simp), hr]
       have hgo : h V.length = .gone := hn (V.length, x'.retab) (by simp) (hD_len V)
       have hargs : args = #[.tmp t, zo] := by rw [← Array.toArray_toList (xs := args), ha]
       subst hargs
       refine awpl_shrink t o V.length k ?_ ho hgo hst'
       have hev : (#[.tmp t, zo] : Array Operand).toList.map (ev (upd s t (.own V.length k))) = [.own V.length k, z] := by
         have e1 : ev (upd s t (.own V.length k)) (.tmp t) = .own V.length k := upd_same _ _ _
         have e2 : ev (upd s t (.own V.length k)) zo = z := by
           rw [← hz]
           cases zo with
           | tmp t' => exact upd_ne _ _ _ _ (by simpa [notTmp] using hne)
           | _ => rfl
         simp [e1, e2]
       have hext : Ext (upd (upd (hD V) o (.row ty0 sz (L + 1) f)) V.length (.row ty0 sz k f)) (upd (upd h o (.row ty0 sz (L + 1) f)) V.length (.row ty0 sz k f)) := by
         intro q hq'
         by_cases e1 : q = V.length
         · rw [e1, upd_same, upd_same]
         · rw [upd_ne _ _ _ _ e1, upd_ne _ _ _ _ e1] at *
           by_cases e2 : q = o
           · rw [e2, upd_same, upd_same]
           · rw [upd_ne _ _ _ _ e2, upd_ne _ _ _ _ e2] at *
             exact he q hq'
       have happ' : eappL P (upd (upd h o (.row ty0 sz (L + 1) f)) V.length (.row ty0 sz k f)) (V.length + 1) ats [.own V.length k, z] = some (V.length, x', x0) := by
         unfold eappL at happ ⊢
         obtain ⟨g1, g2⟩ := ite_some happ
         simp only
         rw [if_pos g1]
         exact eapp_mono hext g2
       rw [← hev] at happ'
       have hap := eapp_ok (d := d) (fun e => absurd e (by omega)) happ'
       refine awpl_op (o := ⟨d, .call ⟨.builtin .append, #[.tmp t, zo], ats⟩, ty, pos, af, none⟩) (by unfold dOk at hd; exact hd) rfl ⟨x0, some (V.length, x'), ?_, ?_⟩
       · unfold aStep aEx
         exact ⟨V.length, x', hap, rfl⟩
       · show AWpL P nt fo ops l Q (updO (upd s t (.own V.length k)) d x0) (upd (upd (upd h o (.row ty0 sz (L + 1) f)) V.length (.row ty0 sz k f)) V.length x')
         have hcol : upd (upd (upd h o (.row ty0 sz (L + 1) f)) V.length (.row ty0 sz k f)) V.length x' = upd (upd h o (.row ty0 sz (L + 1) f)) V.length x' := by
           funext q
           by_cases e1 : q = V.length
           · rw [e1, upd_same, upd_same]
           · rw [upd_ne _ _ _ _ e1, upd_ne _ _ _ _ e1, upd_ne _ _ _ _ e1]
         rw [hcol]
         have hq' : AWpL P nt fo ops l Q (updO s d x0) (upd (upd h o (.row ty0 sz (L + 1) f)) V.length x') := by
           refine AWpL.weak (weak_rows fun q => ?_) hq
           show objLe _ (upd (upd h o _) V.length _ q)
           by_cases e1 : q = V.length
           · rw [e1, upd_same, upd_same]; exact retab_le _
           · rw [upd_ne _ _ _ _ e1, upd_ne _ _ _ _ e1]
             by_cases e2 : q = o
             · rw [e2, upd_same, upd_same]; exact retab_le (.row ty0 sz (L + 1) f)
             · rw [upd_ne _ _ _ _ e2, upd_ne _ _ _ _ e2]; exact objLe_refl _
         by_cases hdt : d = some t
         · have e : updO (upd s t (.own V.length k)) d x0 = updO s d x0 := by
             subst hdt
             funext q
             simp only [updO, upd]
             split <;> rfl
           rw [e]
           exact hq'
         · have e0 : updO (upd s t (.own V.length k)) d x0 t = .own V.length k := by rw [updO_ne hdt, upd_same]
           have ho3 : (upd (upd h o (.row ty0 sz (L + 1) f)) V.length x') o = .row ty0 sz (L + 1) f := by rw [upd_ne _ _ _ _ hol, upd_same]
           have hw := weak_dead (fo := fo) (t := t) (o := o) (n := L) (k := k) e0 ho3 (by omega)
           have e : upd (updO (upd s t (.own V.length k)) d x0) t (.osub o L 0 k) = updO s d x0 := by
             funext q
             by_cases e1 : q = t
             · rw [e1, upd_same, updO_ne hdt, hst']
             · rw [upd_ne _ _ _ _ e1]
               cases d with
               | none => exact upd_ne _ _ _ _ e1
               | some d =>
                 simp only [updO, upd, e1, if_false]
           rw [e] at hw
           exact AWpL.weak hw hq'
     · cases hx
   · cases hx
 · cases hx
def eAppZ (P : Program) (fresh : Nat) (ats : Array TypeId) : List AV → Option (AV × List (Nat × AObj))
 | [.emp, z] => match sl2 P (ats.getD 0 0), intT P (ats.getD 1 0), z.val.bind AV.num with
   | some (i, j), some _, some (_, n) => if ats.size = 2 ∧ j.zero.length = j.size ∧ 0 < j.size ∧ 0 < n ∧ n.toNat ≤ maxLen ∧ n.toNat * j.bytes ≤ 140737488355328 then
       some (.own fresh n.toNat, [(fresh, (AObj.row i.elem j.size n.toNat fun _ => j.zero.map fun v => (constAV1 v).closed1.getD .any).retab)]) else none
   | _, _, _ => none
 | _ => none
theorem size22 {ats : Array TypeId} (h : ats.size = 2) : ats = #[ats.getD 0 0, ats.getD 1 0] := by
 match ats, h with
 | ⟨[a, b]⟩, _ => rfl
theorem zero_made (z : Array Value) (n : Nat) : Builtin.zeroCells z n = madeCells z (n * z.size) := rfl
theorem eAppZ_ok [Glb] {s : Slots} {h : AH} {d : Option Tmp} {fresh : Nat} {args : Array Operand} {ats : Array TypeId} {ty : TypeId} {pos : String} {af : Array Edge} {x : AV} {es : List (Nat × AObj)} (hd : dOk nt d = true) (hn0 : ∀ p ∈ es, p.1 = fresh → h fresh = .gone)
   (hx : eAppZ P fresh ats (args.toList.map (ev s)) = some (x, es)) : StepOk P nt fo ops ⟨d, .call ⟨.builtin .append, args, ats⟩, ty, pos, af, none⟩ x es s h := by
 intro l Q hq
 have hdd : ∀ q, d = some q → q < nt := fun q e => by subst e; simpa [dOk] using hd
 unfold eAppZ at hx
 split at hx
 · rename_i zv0 hl
   obtain ⟨y, z, rfl, hy, rfl⟩ := args2 hl
   split at hx
   · rename_i i j kt k n hs hit hz
     have hq1 := ite_some hx
     clear hx
     obtain ⟨⟨h2, e5, e4, h0, e9, e10⟩, hx⟩ := hq1
     simp only [Option.some.injEq, Prod.mk.injEq] at hx
     obtain ⟨rfl, rfl⟩ := hx
     have ho : h fresh = .gone := hn0 _ (List.mem_cons_self ..) rfl
     obtain ⟨e1, e2, e3⟩ := sl2_ok hs
     obtain ⟨u, hu, hr1⟩ := bind_some hz
     obtain ⟨w1, q1⟩ := AV.val_ok hu
     have eint := q1.trans (AV.num_ok hr1)
     obtain ⟨m, rfl⟩ := Int.eq_ofNat_of_zero_le (show 0 ≤ n by omega)
     simp only [Int.toNat_natCast] at *
     rw [size22 h2]
     generalize ats.getD 0 0 = t at *
     generalize ats.getD 1 0 = tn at *
     have hm0 : 0 < m := by omega
     have hq' : AWpL P nt fo ops l Q (updO s d (.own fresh m)) (upd h fresh (.row i.elem j.size m fun _ => j.zero.map fun v => (constAV1 v).closed1.getD .any)) := awpl_retab hq
     refine awpl_val (o := ⟨d, .call ⟨.builtin .append, #[y, z], #[t, tn]⟩, ty, pos, af, none⟩) rfl (fun E a w gs R => ?_) hq'
     have c1 := ev_ok R y
     rw [hy] at c1
     have c2 := (ev_ok R z).raw_of w1 eint
     generalize hvy : a.eval y = vy at c1
     obtain ⟨i', dd, t1, t2, -, -, -, t6, t7, -, -⟩ := tinfo_some e1
     obtain ⟨j', dj, u1, u2, u3, u4, -, -, -, -, u9⟩ := tinfo_some e3
     cases dd with
     | slice el =>
       simp only at t6
       rw [t6] at u1
       cases hzz : j'.zero with
       | none =>
         rw [hzz] at u9
         simp only at u9
         rw [u9] at e5
         simp only [List.length_nil] at e5
         omega
       | some zv =>
         rw [hzz] at u9
         simp only at u9
         obtain ⟨z1, z2⟩ := tinfo_zero (by rw [← t6]; exact e3) u1 hzz
         rw [← u3] at z1
         have hzs : zv.cells.size = j.size := z1
         cases c1 with
         | emp B =>
           have hold : (Builtin.firstCells j'.size 0 (.slice B 0 0)).run P w.drew = .ok ([] : List Value).toArray w.drew := by cases B <;> simp [Builtin.firstCells, loadCells, loadCellsFrom]
           have hr := Lib.run_append_grow_zeros (P := P) w t tn ty el j' zv k kt t2 (intT_ok hit) u1 hzz B 0 0 [] hold m hm0 (by omega) (by omega) (by simp only [maxLen] at e9; omega) (by rw [← u4]; omega) (growslice_fits (by omega) (by rw [Nat.zero_add, ← u4]; exact e10))
           have hpos : 0 < zv.cells.size := by omega
           have hlen : (Builtin.zeroCells zv.cells m).toList.length = m * j.size := by simp [size_zeroCells, hzs]
           have hget : ∀ q r, q < m → r < j.size → (Builtin.zeroCells zv.cells m).toList.getD (q * j.size + r) undef = zv.cells.getD r undef := fun q r hq hr => by
             have hqr : q * j.size + r < m * j.size := by
               have : q * j.size + j.size ≤ m * j.size := by rw [← Nat.succ_mul]; exact Nat.mul_le_mul_right _ hq
               omega
             have h3 := getD_made (z := zv.cells) (n := m * zv.cells.size) (i := q) (j := r) hpos (by omega) (by rw [hzs]; exact hqr)
             rw [hzs] at h3
             rw [getD_toList, zero_made, hzs]
             exact h3
           have hG := grown_block R fresh 0 m 0 j.size el [] (Builtin.zeroCells zv.cells m).toList zv.cells (fun _ => []) (fun _ => j.zero.map fun v => (constAV1 v).closed1.getD .any) hzs e4 (by simp) hlen (by omega) (fun q hq => by omega) (fun q hq => by
               have hd1 : q / j.size < m := (Nat.div_lt_iff_lt_mul e4).2 hq
               have hm1 : q % j.size < j.size := Nat.mod_lt _ e4
               have := hget (q / j.size) (q % j.size) hd1 hm1
               rw [Nat.mul_comm, Nat.div_add_mod] at this
               rw [this, ← getD_toList, getD_lt (by rw [Array.length_toList, hzs]; exact hm1)]
               exact z2 _ (List.getElem_mem _)) (fun q hq => by omega) (fun q hq => by simpa using e5) (fun p q hp hq => by omega) (fun p q hp hq => by
               have hlt : q < zv.cells.toList.length := by rw [Array.length_toList, hzs]; exact hq
               rw [hget p q hp hq, ← getD_toList, getD_lt hlt, u9, getD_lt (by simpa using hlt), List.getElem_map]
               have hk := constAV1_ok w (Zf E.Z gs) h gs zv.cells.toList[q]
               generalize zv.cells.toList[q] = u at hk
               cases hc : (constAV1 u).closed1 with
               | none => exact .any _
               | some q => exact hk.closed1_of hc) (fun ty2 sz2 n2 f2 e => by rw [ho] at e; cases e) (fun ty cells e => by rw [ho] at e; cases e) (fun es c e => by rw [ho] at e; cases e) (fun m s l t e => by rw [ho] at e; cases e)
           have hexec : ∀ v w', (Builtin.append_ #[t, tn] ty #[.slice B 0 0, .int k m]).run P w = .ok v w' → (execOp a.eval ⟨d, .call ⟨.builtin .append, #[y, z], #[t, tn]⟩, ty, pos, af, none⟩).run P w = .ok (.value v) w' := by
             intro v w' hr
             simp [execOp, resolve, invoke, builtin, hvy, c2, hr]
           refine ⟨_, _, hexec _ _ hr, upd gs fresh (some (w.heap.size, grownCap w (0 + m) 0 el)), ?_⟩
           simp only [Nat.zero_add, Nat.not_lt_zero, if_false, Nat.sub_zero] at hG ⊢
           rw [t6]
           exact hG.putO hdd (.own _ _ _ fresh m el j.size m _ (upd_same _ _ _) (Nat.le_refl _) fun _ => .inl ⟨w.heap.size, _, upd_same _ _ _, rfl, rfl, rfl⟩)
     | _ => simp_all
   · cases hx
 · cases hx
def strOf : AV → Option ByteArray
 | .c (.raw (.string b)) => some b
 | _ => none
theorem strOf_ok {x : AV} {b : ByteArray} (h : strOf x = some b) : x = .c (.raw (.string b)) := by
 unfold strOf at h
 split at h
 · simp only [Option.some.injEq] at h
   subst h
   rfl
 · cases h
def eMinS : List AV → Option AV
 | [y, z] => match y.val.bind strOf, z.val.bind strOf with
   | some a, some b => some (.c (.raw (.string (if (Op.bytesLess a.data.toList b.data.toList || a.data.toList == b.data.toList) = true then a else b))))
   | _, _ => none
 | _ => none
theorem eMinS_ok [Glb] {s : Slots} {h : AH} {d : Option Tmp} {args : Array Operand} {ats : Array TypeId} {ty : TypeId} {pos : String} {af : Array Edge} {x : AV} (hd : dOk nt d = true) (hx : eMinS (args.toList.map (ev s)) = some x) : StepOk P nt fo ops ⟨d, .call ⟨.builtin .min, args, ats⟩, ty, pos, af, none⟩ x [] s h := by
 intro l Q hq
 refine awpl_val (o := ⟨d, .call ⟨.builtin .min, args, ats⟩, ty, pos, af, none⟩) rfl (fun E a w gs R => ?_) hq
 unfold eMinS at hx
 split at hx
 · rename_i y' z' hl
   obtain ⟨y, z, rfl, rfl, rfl⟩ := args2 hl
   split at hx
   · rename_i a0 b0 h1 h2
     obtain ⟨u, hu, hr1⟩ := bind_some h1
     obtain ⟨w1, e1⟩ := AV.val_ok hu
     obtain ⟨v, hv, hr2⟩ := bind_some h2
     obtain ⟨w2, e2⟩ := AV.val_ok hv
     have c1 := (ev_ok R y).raw_of w1 (e1.trans (strOf_ok hr1))
     have c2 := (ev_ok R z).raw_of w2 (e2.trans (strOf_ok hr2))
     simp only [Option.some.injEq] at hx
     subst hx
     refine ⟨_, w, ?_, gs, R.putO (fun t e => by simp only at e; subst e; simpa [dOk] using hd) (.c _ _ (.raw _))⟩
     have hb : ∀ x : ByteArray, x.data.toList = x.toList := fun x => (ByteArray.toList_eq x).symm
     simp [execOp, resolve, invoke, builtin, Builtin.min_, Builtin.min2, c1, c2, Op.stringOp, asBool, hb]
   · cases hx
 · cases hx
noncomputable def eLookA (P : Program) (V : List AObj) (t : TypeId) : List AV → Option AV
 | [.mref o, z] => match mapT P t, hD V o, z.val.bind AV.raw? with
   | some (kt, et), .map es _, some k => match P.underlying kt with
     | some kd => if keyOk kd k = true ∧ (es.all fun e => keyOk kd e.1) = true then match efound P et (es.map fun e => (e.1, e.2.2)) k with
         | some q => if q.1.closed1.isNone then some (.c (.tup [.any, .bool q.2])) else none
         | none => none
       else none
     | none => none
   | _, _, _ => none
 | _ => none
theorem eLookA_ok [Glb] {s : Slots} {h : AH} {V : List AObj} {d : Option Tmp} {t : TypeId} {y z : Operand} {ty : TypeId} {pos : String} {af : Array Edge} {x : AV} (hd : dOk nt d = true) (he : Ext (hD V) h) (hx : eLookA P V t [ev s y, ev s z] = some x) : StepOk P nt fo ops ⟨d, .lookup t y z true, ty, pos, af, none⟩ x [] s h := by
 intro l Q hq
 refine awpl_val (o := ⟨d, .lookup t y z true, ty, pos, af, none⟩) rfl (fun E a w gs R => ?_) hq
 unfold eLookA at hx
 split at hx
 · rename_i o z' hl
   simp only [List.cons.injEq, and_true] at hl
   obtain ⟨hy, rfl⟩ := hl
   split at hx
   · rename_i kt et es c k hm ho hz
     split at hx
     · rename_i kd hkd
       obtain ⟨⟨hk, hall⟩, hx⟩ := ite_some hx
       split at hx
       · rename_i q hq1
         obtain ⟨_, hx⟩ := ite_some hx
         simp only [Option.some.injEq] at hx
         subst hx
         have e2 : h o = .map es c := by rw [he o (by rw [ho]; simp), ho]
         obtain ⟨u, hu, hr⟩ := bind_some hz
         obtain ⟨w2, q2⟩ := AV.val_ok hu
         have c2 := (ev_ok R z).raw_of w2 (q2.trans (AV.raw_ok hr))
         have c1 := ev_ok R y
         rw [hy] at c1
         have key : ∃ v, (Instr.lookup t (a.eval y) k true).run P w = .ok (if true then .tuple #[v, .bool q.2] else v) w ∧ RA w (Zf E.Z gs) h gs v q.1 := by
           generalize a.eval y = vy at c1
           cases c1 with
           | mref _ b K es0 clock0 ho' hg =>
             have hob := R.objs o
             rw [e2] at hob
             obtain ⟨b', K', ents, q1, q2', q3, q4, q5⟩ := hob
             rw [hg] at q1
             simp only [Option.some.injEq, Prod.mk.injEq] at q1
             obtain ⟨rfl, rfl⟩ := q1
             refine run_lookup (mapT_ok hm) hkd hk (by simpa using q3) (fun i hi => ?_) (fun i hi => ?_) (by simpa [List.all_map, Function.comp_def] using hall) (efound_ok hq1) (.inr ⟨b, c, rfl, q2'⟩) true
             · have hi' : i < es.length := by simpa using hi
               have := (q4 i hi').1
               rw [getD_lt hi, List.getElem_map]
               rw [getD_lt hi'] at this
               exact this
             · have hi' : i < es.length := by simpa using hi
               have := q5 i hi'
               rw [getD_lt hi, List.getElem_map]
               rw [getD_lt hi'] at this
               exact this
         obtain ⟨v, hrun, _⟩ := key
         refine ⟨.tuple #[v, .bool q.2], w, ?_, gs, R.putO (fun t e => by simp only at e; subst e; simpa [dOk] using hd) (.c _ _ (.tup _ _ rfl fun i hi => ?_))⟩
         · simp only [if_true] at hrun
           simp only [execOp, c2, Sem.run_bind, hrun, Result.andThen_ok, Sem.run_pure]
         · match i, hi with
           | 0, _ => exact .any _
           | 1, _ => exact .raw _
       · cases hx
     · cases hx
   · cases hx
 · cases hx
def isAsg (d : Option Tmp) : Op → Bool
 | .assign (.tmp t) => d == some t
 | .store _ _ (.tmp t) => d == some t
 | _ => false
def eLit (P : Program) (fresh : Nat) (t : TypeId) (len : Nat) (parts : List Nat) (vs : List AV) : Option (AV × List (Nat × AObj)) := match sl2 P t with
 | some (i, j) => if len = parts.length ∧ len * j.size ≤ 2 ^ 24 ∧ (vs.all AV.wh) = true ∧ j.zero.isEmpty = false ∧ 0 < len ∧ len ≤ maxLen then
     match partsV parts vs 0 j.size with
     | some l => some (.own fresh len, [(fresh, .row i.elem j.size len (rowFn l))])
     | none => none
   else none
 | none => none
theorem eLit_ok [Glb] {s : Slots} {h : AH} {d : Option Tmp} {fresh : Nat} {t : TypeId} {len : Nat} {parts : Array (Nat × Operand)} {ty : TypeId} {pos : String} {af : Array Edge} {x : AV} {es : List (Nat × AObj)} (hd : dOk nt d = true) (hn0 : ∀ p ∈ es, p.1 = fresh → h fresh = .gone)
   (hx : eLit P fresh t len (parts.toList.map (·.1)) ((parts.toList.map (·.2)).map (ev s)) = some (x, es)) : StepOk P nt fo ops ⟨d, .buildSlice t len parts, ty, pos, af, none⟩ x es s h := by
 intro l0 Q hq
 have hdd : ∀ q, d = some q → q < nt := fun q e => by subst e; simpa [dOk] using hd
 unfold eLit at hx
 split at hx
 · rename_i i j hs
   obtain ⟨e1, e2, e3⟩ := sl2_ok hs
   have hq1 := ite_some hx
   clear hx
   obtain ⟨⟨hlen, e5, hw, e7, e8, e9⟩, hx⟩ := hq1
   rw [List.length_map, Array.length_toList] at hlen
   subst hlen
   split at hx
   · rename_i l hl
     simp only [Option.some.injEq, Prod.mk.injEq] at hx
     obtain ⟨rfl, rfl⟩ := hx
     rw [partsV_ok] at hl
     have ho : h fresh = .gone := hn0 _ (List.mem_cons_self ..) rfl
     have hwh : ∀ p ∈ parts.toList, (ev s p.2).wh = true := fun p hp => by
       rw [List.all_eq_true] at hw
       exact hw _ (List.mem_map.2 ⟨p.2, List.mem_map.2 ⟨p, hp, rfl⟩, rfl⟩)
     refine awpl_val (o := ⟨d, .buildSlice t parts.size parts, ty, pos, af, none⟩) rfl (fun E a w gs R => ?_) hq
     obtain ⟨i', dd, t1, t2, -, -, -, t6, t7, -, -⟩ := tinfo_some e1
     obtain ⟨j', dj, u1, u2, u3, -, -, -, -, -, u9⟩ := tinfo_some e3
     cases dd with
     | slice el =>
       simp only at t6
       rw [t6] at u1
       have hsz : (sizeOf el).run P w = .ok j.size w := by simp [sizeOf, typeInfo, u1, u3]
       have key : ∀ zc : Array Value, (((Array.range (parts.size * j.size)).map (zc[· % zc.size]!))).size = parts.size * j.size := by intro zc; simp
       have hzz : ∃ zc : Array Value, (parts.size * j.size = 0 ∧ zc = #[]) ∨ (parts.size * j.size ≠ 0 ∧ ∃ z, (zeroValue el).run P w = .ok z w ∧ zc = z.cells) := by
         by_cases h0 : parts.size * j.size = 0
         · exact ⟨#[], .inl ⟨h0, rfl⟩⟩
         · cases hz : j'.zero with
           | none =>
             rw [hz] at u9
             simp only at u9
             rw [u9] at e7
             simp at e7
           | some z => exact ⟨z.cells, .inr ⟨h0, z, by simp [zeroValue, typeInfo, u1, hz], rfl⟩⟩
       obtain ⟨zc, hzc⟩ := hzz
       obtain ⟨r0, r1, cur', r2, r3, r4, r5⟩ := fillS_ok (w := w) (h := h) (gs := gs) (Z := Zf E.Z gs) (ev s) a.eval j.size parts.toList 0 l ((Array.range (parts.size * j.size)).map (zc[· % zc.size]!)) (fun p hp => (ev_ok R p.2).strip (hwh p hp)) hl (by rw [key]; simp)
       have r2' : Instr.fill (fun i => some (i * j.size, j.size)) ((Array.range (parts.size * j.size)).map (zc[· % zc.size]!)) ((parts.map fun p => (p.1, a.eval p.2)).toList) = some cur' := by simpa using r2
       have hcs : cur'.size = parts.size * j.size := by rw [r3, key]
       have R' := R.new fresh ho (.row i.elem j.size parts.size (rowFn l)) parts.size el cur' fun hL _ => by
         refine .inr ⟨w.heap.size, parts.size, cur', upd_same _ _ _, by rw [t6]; exact heap_alloc_new w _, hcs, Nat.le_refl _, e9, fun q hq => r1 q (by simpa using hq), fun q hq => ?_, fun q r hq hr => ?_⟩
         · have hpos : 0 < j.size := by
             rcases Nat.eq_zero_or_pos j.size with h1 | h1
             · rw [h1] at hq; simp at hq
             · exact h1
           have h2 := r5 (q / j.size) (q % j.size) (by rw [Array.length_toList]; exact Nat.div_lt_of_lt_mul (by rw [Nat.mul_comm]; exact hq)) (Nat.mod_lt _ hpos)
           rw [Nat.zero_add, Nat.mul_comm (q / j.size), Nat.div_add_mod] at h2
           exact h2.1
         · have h2 := r5 q r (by simpa using hq) hr
           rw [Nat.zero_add] at h2
           exact h2.2.later hL
       refine ⟨.slice (some ⟨w.heap.size, 0, none⟩) parts.size parts.size, w.alloc (.cells cur' el), ?_, _, R'.putO hdd (.own _ _ _ fresh parts.size i.elem j.size parts.size _ (upd_same _ _ _) (Nat.le_refl _) fun _ => .inl ⟨w.heap.size, parts.size, upd_same _ _ _, rfl, rfl, rfl⟩)⟩
       simp only [execOp, Instr.buildSlice, Sem.run_bind, run_underlying t2, Result.andThen_ok, hsz]
       rw [if_neg (by omega)]
       rcases hzc with ⟨h0, rfl⟩ | ⟨h0, z, hz1, rfl⟩
       · rw [if_pos h0]
         simp only [Sem.run_pure, Result.andThen_ok, Sem.run_bind, r2', newRow, run_newObj]
         rfl
       · rw [if_neg h0]
         simp only [Sem.run_pure, Result.andThen_ok, Sem.run_bind, hz1, r2', newRow, run_newObj]
         rfl
     | _ => simp_all
   · cases hx
 · cases hx
noncomputable def eX (P : Program) (ops : Array Oper) (o : Oper) (vs : List AV) (V : List AObj) : Option (AV × List (Nat × AObj)) := match o.op with
 | .buildSlice t len parts => if ops.toList.any (fun p => isAsg o.dst p.op) then eLit P V.length t len (parts.toList.map (·.1)) vs else none
 | .lookup t _ _ true => (eLookA P V t vs).map fun x => (x, [])
 | .call ⟨.builtin .min, _, _⟩ => (eMinS vs).map fun x => (x, [])
 | .call ⟨.builtin .max, args, _⟩ => if args.size = 2 then none else (eMax vs).map fun x => (x, [])
 | .call ⟨.builtin .clear, _, ats⟩ => if o.dst.isNone then eClear P V ats vs else none
 | .call ⟨.builtin .append, args, ats⟩ => match eAppS P V args ats vs with
   | some r => some r
   | none => eAppZ P V.length ats vs
 | .call ⟨.builtin .cap, _, ats⟩ => match vs with
   | [.emp] => if ats.size = 1 ∧ isSlice P (ats.getD 0 0) = true ∧ o.dst.isSome = true then some (.int 0, []) else none
   | _ => none
 | .makeSlice t _ _ => match o.dst, vs with
   | some _, [y, z] => eMakeC P V.length t y z
   | _, _ => none
 | .convert t u _ => match vs with
   | [y] => (eB2s P V t u y).map fun x => (x, [])
   | _ => none
 | _ => none
theorem eX_ok [Glb] {ops' : Array Oper} {o : Oper} {V : List AObj} {s : Slots} {h : AH} {x : AV} {es : List (Nat × AObj)} (hg : o.guard = none) (hdk : dOk nt o.dst = true) (he : Ext (hD V) h) (hn : ∀ p ∈ es, hD V p.1 = .gone → h p.1 = .gone)
   (hx : eX P ops' o (opv s o.op) V = some (x, es)) : StepOk P nt fo ops o x es s h := by
 obtain ⟨d, op, ty, pos, af, g⟩ := o
 simp only at hg
 subst hg
 unfold eX at hx
 simp only at hx
 split at hx
 · rename_i t len parts
   obtain ⟨_, hx⟩ := ite_some hx
   exact eLit_ok hdk (fun p hp e => by
     have := hn p hp
     rw [e] at this
     exact this (hD_len V)) (by simpa only [opv, Op.operands] using hx)
 · rename_i t y z
   obtain ⟨y', h1, h2⟩ := map_some hx
   simp only [Prod.mk.injEq] at h2
   obtain ⟨rfl, rfl⟩ := h2
   exact eLookA_ok hdk he (by simpa [opv, Op.operands] using h1)
 · rename_i args ats
   obtain ⟨y, h1, h2⟩ := map_some hx
   simp only [Prod.mk.injEq] at h2
   obtain ⟨rfl, rfl⟩ := h2
   exact eMinS_ok hdk (by simpa [opv, Op.operands, Call.operands] using h1)
 · rename_i args ats
   split at hx
   · cases hx
   · obtain ⟨y, h1, h2⟩ := map_some hx
     simp only [Prod.mk.injEq] at h2
     obtain ⟨rfl, rfl⟩ := h2
     exact eMax_ok hdk (by simpa [opv, Op.operands, Call.operands] using h1)
 · rename_i args ats
   obtain ⟨hd, hx⟩ := ite_some hx
   have hd' : d = none := by cases d <;> simp_all
   subst hd'
   exact eClear_ok he (by simpa [opv, Op.operands, Call.operands] using hx)
 · rename_i args ats
   split at hx
   · rename_i r hr
     simp only [Option.some.injEq] at hx
     subst hx
     exact eAppS_ok hdk he hn (by simpa [opv, Op.operands, Call.operands] using hr)
   · exact eAppZ_ok hdk (fun p hp e => by
       have := hn p hp
       rw [e] at this
       exact this (hD_len V)) (by simpa [opv, Op.operands, Call.operands] using hx)
 · rename_i args ats
   split at hx
   · rename_i hvs
     obtain ⟨⟨h1, h2, h3⟩, hx⟩ := ite_some hx
     simp only [Option.some.injEq, Prod.mk.injEq] at hx
     obtain ⟨rfl, rfl⟩ := hx
     obtain ⟨y, rfl, hy⟩ := args1 (s := s) (args := args) (by simpa [opv, Op.operands, Call.operands] using hvs)
     obtain ⟨e, hs⟩ := isSlice_ok h2
     cases d with
     | none => cases h3
     | some d =>
       rw [size1 h1]
       intro l Q hq
       exact awpl_capE hq hy hs (by simpa [dOk] using hdk)
   · cases hx
 · rename_i t y z
   split at hx
   · rename_i d' y' z' hvs
     simp only [opv, Op.operands, List.map_cons, List.map_nil, List.cons.injEq, and_true] at hvs
     obtain ⟨rfl, rfl⟩ := hvs
     exact eMakeC_ok (by simpa [dOk] using hdk) (fun p hp e => by
       have := hn p hp
       rw [e] at this
       exact this (hD_len V)) hx
   · cases hx
 · rename_i t u y
   split at hx
   · rename_i y' hvs
     simp only [opv, Op.operands, List.map_cons, List.map_nil, List.cons.injEq, and_true] at hvs
     subst hvs
     obtain ⟨x1, h1, h2⟩ := map_some hx
     simp only [Prod.mk.injEq] at h2
     obtain ⟨rfl, rfl⟩ := h2
     exact eB2s_ok hdk he h1
   · cases hx
 · cases hx
end
end Go.Am
namespace Go.Am
open Go.RowKit
def AObj.isGone : AObj → Bool
 | .gone => true
 | _ => false
theorem isGone_iff {x : AObj} : x.isGone = true ↔ x = .gone := by cases x <;> simp [AObj.isGone]
theorem isGone_not {x : AObj} : x.isGone = false ↔ x ≠ .gone := by cases x <;> simp [AObj.isGone]
noncomputable def nonGone (V : List AObj) : List Nat := (List.range V.length).filter fun o => !(hD V o).isGone
theorem hD_lt {V : List AObj} {o : Nat} (h : hD V o ≠ .gone) : o < V.length := by
 rcases Nat.lt_or_ge o V.length with q | q
 · exact q
 · exact absurd (by simp [hD_def, List.getD, List.getElem?_eq_none q]) h
theorem nonGone_iff {V : List AObj} {o : Nat} : o ∈ nonGone V ↔ hD V o ≠ .gone := by
 unfold nonGone
 rw [List.mem_filter, List.mem_range, Bool.not_eq_true', isGone_not]
 exact ⟨fun h => h.2, fun h => ⟨hD_lt h, h⟩⟩
theorem boxIn_refs {ks : List Nat} {x : AObj} (h : boxIn ks x = true) : (∀ ty cells, x = .box ty cells → ∀ y ∈ cells, ∀ k ∈ y.refsw, k ∈ ks) ∧ ∀ k ∈ x.refsM, k ∈ ks := by
 constructor
 · rintro ty cells rfl y hy k hk
   unfold boxIn refsIn at h
   rw [List.all_eq_true] at h
   have := h y hy
   rw [List.all_eq_true] at this
   simpa using this k hk
 · intro k hk
   cases x with
   | map es c =>
     unfold boxIn refsIn at h
     simp only [AObj.refsM, List.mem_flatMap] at hk
     obtain ⟨e, he, hke⟩ := hk
     rw [List.all_eq_true] at h
     have := h e.2.2 (List.mem_map.2 ⟨e, he, rfl⟩)
     rw [List.all_eq_true] at this
     simpa using this k hke
   | iter m s l t =>
     simp only [AObj.refsM, List.mem_singleton] at hk
     subst hk
     simpa [boxIn] using h
   | _ => simp [AObj.refsM] at hk
theorem refsIn_ok {ks : List Nat} {xs : List AV} (h : refsIn ks xs = true) : ∀ x ∈ xs, ∀ k ∈ x.refsw, k ∈ ks := by
 intro x hx k hk
 unfold refsIn at h
 rw [List.all_eq_true] at h
 have := h x hx
 rw [List.all_eq_true] at this
 simpa using this k hk
theorem foot_sub {ks ks' : List Nat} {h : AH} (hs : ∀ k ∈ ks, k ∈ ks') (hf : Foot ks h) : Foot ks' h := by
 have hin : ∀ k, k ∉ ks → h k = .gone := hf.out
 refine ⟨fun k hk => hf.out k fun hk' => hk (hs k hk'), fun k hk ty cells e x hx k' hk' => ?_, fun k hk k' hk' => ?_⟩
 · by_cases hm : k ∈ ks
   · exact hs _ (hf.closed k hm ty cells e x hx k' hk')
   · rw [hin k hm] at e; cases e
 · by_cases hm : k ∈ ks
   · exact hs _ (hf.maps k hm k' hk')
   · rw [hin k hm] at hk'; simp [AObj.refsM] at hk'
abbrev CallFn := FuncId → List AV → List AObj → Option (AV × List AObj × List Nat)
structure CallOk [Glb] (P : Program) (f : FuncId) (xs : List AV) (V : List AObj) (y : AV) (V' : List AObj) (D' : List Nat) : Prop where
 fn : AFun P f xs (hD V) fun out h1 => out = .ret y ∧ h1 = hD V'
 frame : ∀ o, o ∉ D' → hD V' o = hD V o
def CallFnOk [Glb] (P : Program) (call : CallFn) : Prop := ∀ f xs V y V' D', call f xs V = some (y, V', D') → CallOk P f xs V y V' D'
def objRefs : AObj → List Nat
 | .box _ cells => cells.flatMap AV.refsw
 | .map es _ => es.flatMap fun e => e.2.2.refsw
 | _ => []
noncomputable def closR (V : List AObj) : Nat → List Nat → List Nat
 | 0, l => l
 | n + 1, l =>
   let m := ((l.flatMap fun o => objRefs (hD V o)).filter fun o => !decide (o ∈ l)).eraseDups
   if m.isEmpty then l else closR V n (l ++ m)
theorem closR_sub {V : List AObj} : ∀ (n : Nat) (l : List Nat), ∀ o ∈ l, o ∈ closR V n l
 | 0, l, o, h => h
 | n + 1, l, o, h => by
   unfold closR
   extract_lets m
   by_cases hm : m.isEmpty = true
   · rw [if_pos hm]; exact h
   · rw [if_neg hm]; exact closR_sub n _ o (List.mem_append_left _ h)
noncomputable def maskV (ks : List Nat) (V : List AObj) : List AObj := V.zipIdx.map fun p => if p.2 ∈ ks then p.1 else .gone
theorem hD_mask (ks : List Nat) (V : List AObj) (o : Nat) : hD (maskV ks V) o = if o ∈ ks then hD V o else .gone := by
 simp only [hD_def, maskV, List.getD_eq_getElem?_getD, List.getElem?_map, List.getElem?_zipIdx, Nat.zero_add]
 cases V[o]? with
 | none => simp
 | some x => simp only [Option.map_some, Option.getD_some]
noncomputable def eCallV (call : CallFn) (f : FuncId) (xs : List AV) (V V0 : List AObj) (ks0 : List Nat) : Option (AV × List (Nat × AObj)) := match call f xs V0 with
 | some (y, V', D') =>
   let ks := ks0 ++ D'.filter fun o => !(hD V' o).isGone && (hD V o).isGone
   if (D'.all fun o => decide (o ∈ ks) || (hD V' o).isGone) && (ks.all fun o => boxIn ks (hD V' o)) && refsIn ks [y] then
     some (y, (D'.filter fun o => o ∈ ks).map fun o => (o, hD V' o)) else none
 | none => none
noncomputable def eCallOp (call : CallFn) (f : FuncId) (xs : List AV) (V : List AObj) : Option (AV × List (Nat × AObj)) :=
 let ks0 := closR V 10 (xs.flatMap AV.refsw)
 if ks0.all fun o => !(hD V o).isGone && boxIn ks0 (hD V o) then
   if ks0.isEmpty then match eCallV call f xs V [] [] with
     | some r => some r
     | none => eCallV call f xs V (maskV ks0 V) ks0
   else eCallV call f xs V (maskV ks0 V) ks0
 else none
theorem appEs_out {h : AH} {o : Nat} : ∀ {es : List (Nat × AObj)}, o ∉ es.map (·.1) → ∀ {h : AH}, appEs h es o = h o
 | [], _, _ => rfl
 | p :: r, hn, h => by
   simp only [List.map_cons, List.mem_cons, not_or] at hn
   rw [appEs, appEs_out (h := h) hn.2, upd_ne _ _ _ _ hn.1]
theorem appEs_map {g : AH} {o : Nat} : ∀ {D : List Nat} {h : AH}, appEs h (D.map fun o => (o, g o)) o = if o ∈ D then g o else h o
 | [], h => by simp [appEs]
 | a :: D, h => by
   rw [List.map_cons, appEs, appEs_map]
   by_cases ho : o ∈ D
   · simp [ho]
   · by_cases hoa : o = a
     · subst hoa; simp [ho, upd_same]
     · simp [ho, hoa, upd_ne _ _ _ _ hoa]
section
variable {P : Program} {nt : Nat} {fo : List Nat} {ops : Array Oper}
def Entry [Glb] (P : Program) (nt : Nat) (fo : List Nat) (ops : Array Oper) (o : Oper) (f : FuncId) (xs : List AV) (s : Slots) : Prop :=
 ∀ (l : List Oper) (Q : APost) (h h1 : AH) (ks : List Nat), AFun P f xs h1 (CallQ P nt fo ops l Q o.dst ks id s h) → Foot ks h1 → (∀ k ∈ ks, h k = (h1 k).ren id) → (∀ x ∈ xs, ∀ k ∈ x.refsw, k ∈ ks) → AWpL P nt fo ops (o :: l) Q s h
theorem map_ren_id (xs : List AV) : xs.map (AV.ren id) = xs := by
 have : (AV.ren id) = id := funext ren_id
 rw [this, List.map_id]
theorem entry_func [Glb] {s : Slots} {d : Option Tmp} {f : FuncId} {args : Array Operand} {ats : Array TypeId} {ty : TypeId} {pos : String} {af : Array Edge} (hd : dOk nt d = true) : Entry P nt fo ops ⟨d, .call ⟨.value (.func f), args, ats⟩, ty, pos, af, none⟩ f (args.toList.map (ev s)) s :=
 fun l Q h h1 ks hf hft hh hx => awpl_call ks id hf hd (map_ren_id _).symm (fun _ _ _ _ e => e) hft hh hx
theorem entry_fn [Glb] {s : Slots} {d : Option Tmp} {t : Tmp} {f : FuncId} {ps : List AV} {args : Array Operand} {ats : Array TypeId} {ty : TypeId} {pos : String} {af : Array Edge} (hd : dOk nt d = true) (hs : s t = .fn f ps) : Entry P nt fo ops ⟨d, .call ⟨.value (.tmp t), args, ats⟩, ty, pos, af, none⟩ f (args.toList.map (ev s) ++ ps) s :=
 fun l Q h h1 ks hf hft hh hx => awpl_callV ks id hf hs hd (map_ren_id _).symm (fun _ _ _ _ e => e) hft hh hx
theorem entry_raw [Glb] {s : Slots} {d : Option Tmp} {t : Tmp} {f : FuncId} {args : Array Operand} {ats : Array TypeId} {ty : TypeId} {pos : String} {af : Array Edge} (hd : dOk nt d = true) (hs : s t = .c (.raw (.func (.func f) #[] #[]))) : Entry P nt fo ops ⟨d, .call ⟨.value (.tmp t), args, ats⟩, ty, pos, af, none⟩ f (args.toList.map (ev s)) s := by
 intro l Q h h1 ks hf hft hh hxr
 refine enter_core (o := ⟨d, .call ⟨.value (.tmp t), args, ats⟩, ty, pos, af, none⟩) rfl (fun t e => by simp only at e; subst e; simpa [dOk] using hd) hf (fun _ _ _ _ e => e) hft hh hxr fun E a w gs R hen => ?_
 obtain ⟨fn, f1, f2, f3⟩ := hen
 have f2' : ¬ fn.name = "runtime.NumGoroutine" := by simpa using f2
 have f3' : ¬ fn.body = none := fun e => by rw [e] at f3; simp at f3
 have hv := R.slots t
 rw [hs] at hv
 have het : a.eval (.tmp t) = .func (.func f) #[] #[] := hv.raw_inv
 refine ⟨args.toList.map a.eval, ?_, by simp, fun i hi' => ?_⟩
 · have hvs : (args.toList.map a.eval).toArray = args.map a.eval := Array.ext' (by simp)
   rw [hvs]
   simp [execOp, resolve, Deferred.ofValue, het, invoke, callFunc, f1, f2', f3']
 · have hia : i < args.toList.length := by simpa using hi'
   have e1 : (args.toList.map a.eval).getD i undef = a.eval args.toList[i] := by rw [getD_lt (by simpa using hia), List.getElem_map]
   have e2 : ((args.toList.map (ev s)).getD i default).ren id = ev s args.toList[i] := by rw [getD_lt (by simpa using hia), List.getElem_map, ren_id]
   rw [e1, e2]
   exact ev_ok R _
theorem step_callV [Glb] {call : CallFn} {o : Oper} {f : FuncId} {xs : List AV} {s : Slots} {h : AH} {V V0 : List AObj} {ks0 : List Nat} {x : AV} {es : List (Nat × AObj)} (hE : Entry P nt fo ops o f xs s) (hc : CallFnOk P call) (hx : eCallV call f xs V V0 ks0 = some (x, es)) (he : Ext (hD V) h)
   (hn : ∀ p ∈ es, hD V p.1 = .gone → h p.1 = .gone) (hv : ∀ k, hD V0 k = if k ∈ ks0 then hD V k else .gone) (hr : ∀ x ∈ xs, ∀ k ∈ x.refsw, k ∈ ks0) (hb0 : (ks0.all fun o => !(hD V o).isGone && boxIn ks0 (hD V o)) = true) : StepOk P nt fo ops o x es s h := by
 intro l Q hq
 unfold eCallV at hx
 split at hx
 · rename_i y V' D' hcall
   have hok := hc _ _ _ _ _ _ hcall
   extract_lets ks at hx
   obtain ⟨hc1, hx⟩ := ite_some hx
   rw [Bool.and_eq_true, Bool.and_eq_true] at hc1
   obtain ⟨⟨hout, hbx⟩, hy⟩ := hc1
   simp only [Option.some.injEq, Prod.mk.injEq] at hx
   obtain ⟨rfl, rfl⟩ := hx
   have hsub : ∀ k ∈ ks0, k ∈ ks := fun k hk => List.mem_append_left _ hk
   have hin : ∀ k ∈ ks, k ∉ ks0 → k ∈ D' ∧ hD V k = .gone := fun k hk hg => by
     rcases List.mem_append.1 hk with hk | hk
     · exact absurd hk hg
     · rw [List.mem_filter, Bool.and_eq_true] at hk
       exact ⟨hk.1, isGone_iff.1 hk.2.2⟩
   rw [List.all_eq_true] at hb0 hbx hout
   have hb : ∀ k ∈ ks0, boxIn ks0 (hD V k) = true := fun k hk => by
     have := hb0 k hk
     rw [Bool.and_eq_true] at this
     exact this.2
   have hng : ∀ k ∈ ks0, hD V k ≠ .gone := fun k hk => by
     have := hb0 k hk
     rw [Bool.and_eq_true, Bool.not_eq_true', isGone_not] at this
     exact this.1
   have hft0 : Foot ks0 (hD V0) := by
     refine ⟨fun k hk => by rw [hv, if_neg hk], fun k hk ty cells e => ?_, fun k hk => ?_⟩
     · rw [hv, if_pos hk] at e
       exact (boxIn_refs (hb k hk)).1 ty cells e
     · rw [hv, if_pos hk]
       exact (boxIn_refs (hb k hk)).2
   have hft : Foot ks (hD V0) := foot_sub hsub hft0
   have hgone : ∀ k, k ∉ ks → hD V' k = .gone := fun k hk => by
     by_cases hd : k ∈ D'
     · have := hout k hd
       rw [Bool.or_eq_true] at this
       rcases this with h1 | h1
       · exact absurd (by simpa using h1) hk
       · exact isGone_iff.1 h1
     · rw [hok.frame k hd, hv, if_neg fun q => hk (hsub k q)]
   have hft' : Foot ks (hD V') := ⟨hgone, fun k hk ty cells e => (boxIn_refs (hbx k hk)).1 ty cells e, fun k hk => (boxIn_refs (hbx k hk)).2⟩
   have hh : ∀ k ∈ ks, h k = hD V0 k := fun k hk => by
     rw [hv]
     by_cases hk0 : k ∈ ks0
     · rw [if_pos hk0]
       exact he k (hng k hk0)
     · rw [if_neg hk0]
       obtain ⟨hd, hg⟩ := hin k hk hk0
       exact hn (k, hD V' k) (List.mem_map.2 ⟨k, List.mem_filter.2 ⟨hd, by simpa using hk⟩, rfl⟩) hg
   refine hE l Q h (hD V0) ks (hok.fn.mono fun out h1 q => ?_) hft (fun k hk => by rw [oren_id]; exact hh k hk) (fun x hx k hk => hsub _ (hr x hx k hk))
   obtain ⟨rfl, rfl⟩ := q
   refine ⟨refsIn_ok hy _ (by simp), hft', ?_⟩
   rw [ren_id, appL_ren]
   have e : appL id id (hD V') ks h = appEs h ((D'.filter fun o => decide (o ∈ ks)).map fun o => (o, hD V' o)) := by
     funext o
     have e1 := appEs_map (g := hD V') (o := o) (D := D'.filter fun o => decide (o ∈ ks)) (h := h)
     have e2 : ((D'.filter fun o => decide (o ∈ ks)).map fun o => (o, hD V' o)) = ((D'.filter fun o => decide (o ∈ ks)).map fun o => (o, hD V' o)) := rfl
     rw [e2, e1]
     by_cases ho : o ∈ ks
     · have a1 : appL id id (hD V') ks h o = hD V' o := appL_in (ρ := id) (g := id) (x := hD V') ho fun _ _ _ _ e => e
       rw [a1]
       by_cases hd : o ∈ D'
       · rw [if_pos (List.mem_filter.2 ⟨hd, by simpa using ho⟩)]
       · rw [if_neg fun q => hd (List.mem_filter.1 q).1, hh o ho]
         exact hok.frame o hd
     · have a2 : appL id id (hD V') ks h o = h o := appL_out (ρ := id) fun k hk e => ho (by have e' : k = o := e; rw [← e']; exact hk)
       rw [a2, if_neg fun q => ho (by simpa using (List.mem_filter.1 q).2)]
   rw [e]
   exact hq
 · cases hx
theorem step_call [Glb] {call : CallFn} {o : Oper} {f : FuncId} {xs : List AV} {s : Slots} {h : AH} {V : List AObj} {x : AV} {es : List (Nat × AObj)} (hE : Entry P nt fo ops o f xs s) (hc : CallFnOk P call) (hx : eCallOp call f xs V = some (x, es)) (he : Ext (hD V) h)
   (hn : ∀ p ∈ es, hD V p.1 = .gone → h p.1 = .gone) : StepOk P nt fo ops o x es s h := by
 unfold eCallOp at hx
 extract_lets ks0 at hx
 obtain ⟨hb, hx⟩ := ite_some hx
 have hr : ∀ x ∈ xs, ∀ k ∈ x.refsw, k ∈ ks0 := fun x hx k hk => closR_sub 10 _ k (List.mem_flatMap.2 ⟨x, hx, hk⟩)
 split at hx
 · rename_i hem
   have hk0 : ks0 = [] := by simpa using hem
   split at hx
   · rename_i r h1
     simp only [Option.some.injEq] at hx
     subst hx
     exact step_callV hE hc h1 he hn (fun k => by simp [hD_def]) (fun x hx k hk => by have := hr x hx k hk; rw [hk0] at this; exact this) rfl
   · exact step_callV hE hc hx he hn (hD_mask _ _) hr hb
 · exact step_callV hE hc hx he hn (hD_mask _ _) hr hb
def isApp : Op → Bool
 | .call ⟨.builtin .append, _, _⟩ => true
 | _ => false
theorem isApp_ok {op : Op} (h : isApp op = true) : ∃ args ats, op = .call ⟨.builtin .append, args, ats⟩ := by
 unfold isApp at h
 split at h
 · exact ⟨_, _, rfl⟩
 · cases h
theorem cls_le (op : Op) : cls op ≤ 3 := by
 cases op <;> first | (simp [cls]; done) | skip
 rename_i c
 obtain ⟨callee, args, ats⟩ := c
 cases callee with
 | builtin b => cases b <;> simp [cls]
 | _ => simp [cls]
noncomputable def eOp0 (P : Program) (call : CallFn) (o : Oper) (vs : List AV) (V : List AObj) : Option (AV × List (Nat × AObj)) :=
 match o.op with
 | .call ⟨.value (.func f), _, _⟩ => eCallOp call f vs.tail V
 | .call ⟨.value (.tmp _), _, _⟩ => match vs with
   | .fn f ps :: args => eCallOp call f (args ++ ps) V
   | .c (.raw (.func (.func f) first caps)) :: args => if first.size = 0 ∧ caps.size = 0 then eCallOp call f args V else none
   | _ => none
 | .insert t m k v => if o.dst.isNone then (e2 P (hD V) V.length (.mapUpdate t m k v) vs).map fun q => (q.2.2, [(q.1, q.2.1.retab)]) else none
 | op => match cls op with
   | 0 => (e0 P op vs).map fun x => (x, [])
   | 1 => (e1 P (hD V) op vs).map fun x => (x, [])
   | 2 => if o.dst.isNone || isApp op then (e2 P (hD V) V.length op vs).map fun q => (q.2.2, [(q.1, q.2.1.retab)]) else none
   | _ => if o.dst.isSome then (e3 P V.length op vs).map fun q => (q.2, [(V.length, q.1.retab)]) else none
noncomputable def eOp (P : Program) (call : CallFn) (ops : Array Oper) (o : Oper) (vs : List AV) (V : List AObj) : Option (AV × List (Nat × AObj)) := match eX P ops o vs V with
 | some r => some r
 | none => eOp0 P call o vs V
theorem step_ex [Glb] {o : Oper} {x : AV} {eff : Option (Nat × AObj)} {s : Slots} {h : AH} (hg : o.guard = none) (hd : dOk nt o.dst = true) (hx : aEx P o s h x eff) (l : List Oper) (Q : APost) (hq : AWpL P nt fo ops l Q (updO s o.dst x) (appE h eff)) : AWpL P nt fo ops (o :: l) Q s h := by
 refine awpl_op (by unfold dOk at hd; exact hd) (by rw [hg]) ⟨x, eff, ?_, hq⟩
 unfold aStep
 rw [hg]
 exact hx
theorem aex0 [Glb] {o : Oper} {x : AV} {s : Slots} {h : AH} (hc : cls o.op = 0) (hx : aop0 P o.op (ev s) true x) : aEx P o s h x none := by
 unfold aEx; simp only [hc]; exact ⟨hx, trivial⟩
theorem aex1 [Glb] {o : Oper} {x : AV} {s : Slots} {h : AH} (hc : cls o.op = 1) (hx : aop1 P o.op (ev s) h true x) : aEx P o s h x none := by
 unfold aEx; simp only [hc]; exact ⟨hx, trivial⟩
theorem aex2 [Glb] {o : Oper} {x : AV} {ob : Nat} {x' : AObj} {s : Slots} {h : AH} (hc : cls o.op = 2) (hx : aop2 P o.op (ev s) h o.dst ob x' x) : aEx P o s h x (some (ob, x')) := by
 unfold aEx; simp only [hc]; exact ⟨ob, x', hx, rfl⟩
theorem aex3 [Glb] {o : Oper} {x : AV} {ob : Nat} {x' : AObj} {s : Slots} {h : AH} (hc : cls o.op = 3) (hd : ∃ d, o.dst = some d) (hg : h ob = .gone) (hx : aop3 P o.op (ev s) ob x' x) : aEx P o s h x (some (ob, x')) := by
 unfold aEx; simp only [hc]; exact ⟨ob, x', hd, hg, hx, rfl⟩
end
end Go.Am
namespace Go.Am
open Go.RowKit
section
variable {P : Program} {nt : Nat} {fo : List Nat} {ops : Array Oper}
theorem awpl_insert [Glb] {l : List Oper} {Q : APost} {s : Slots} {h : AH} {d : Option Tmp} {t : TypeId} {m k v : Operand} {ty : TypeId} {pos : String} {af : Array Edge} {g : Option (Nat × Bool)}
   (hq : AWpL P nt fo ops (⟨d, .mapUpdate t m k v, ty, pos, af, g⟩ :: l) Q s h) : AWpL P nt fo ops (⟨d, .insert t m k v, ty, pos, af, g⟩ :: l) Q s h := fun E a w I R => hq E a w I R
theorem eOp_plain [Glb] {op' : Op} {d : Option Tmp} {ty : TypeId} {pos : String} {af : Array Edge} {vs : List AV} {V : List AObj} {s : Slots} {h : AH} {x : AV} {es : List (Nat × AObj)} (hdk : dOk nt d = true) (he : Ext (hD V) h) (hn : ∀ p ∈ es, hD V p.1 = .gone → h p.1 = .gone) (hvs : vs = opv s op')
   (hx : (match cls op' with
     | 0 => (e0 P op' vs).map fun x => (x, [])
     | 1 => (e1 P (hD V) op' vs).map fun x => (x, [])
     | 2 => if d.isNone || isApp op' then (e2 P (hD V) V.length op' vs).map fun q => (q.2.2, [(q.1, q.2.1.retab)]) else none
     | _ => if d.isSome then (e3 P V.length op' vs).map fun q => (q.2, [(V.length, q.1.retab)]) else none) = some (x, es)) : StepOk P nt fo ops ⟨d, op', ty, pos, af, none⟩ x es s h := by
 intro l Q hq
 subst hvs
 have hc3 := cls_le op'
 have hcl : cls op' = 0 ∨ cls op' = 1 ∨ cls op' = 2 ∨ cls op' = 3 := by omega
 rcases hcl with hc | hc | hc | hc
 · rw [hc] at hx
   obtain ⟨y, h1, h2⟩ := map_some hx
   simp only [Prod.mk.injEq] at h2
   obtain ⟨rfl, rfl⟩ := h2
   exact step_ex rfl hdk (aex0 hc (e0_ok _ h1)) l Q hq
 · rw [hc] at hx
   obtain ⟨y, h1, h2⟩ := map_some hx
   simp only [Prod.mk.injEq] at h2
   obtain ⟨rfl, rfl⟩ := h2
   exact step_ex rfl hdk (aex1 hc (e1_ok _ (e1_mono he h1))) l Q hq
 · rw [hc] at hx
   obtain ⟨hcd, hx⟩ := ite_some hx
   obtain ⟨q, h1, h2⟩ := map_some hx
   obtain ⟨ob, x', y⟩ := q
   simp only [Prod.mk.injEq] at h2
   obtain ⟨rfl, rfl⟩ := h2
   have hd' : d = none ∨ ∃ args ats, op' = .call ⟨.builtin .append, args, ats⟩ := by
     rw [Bool.or_eq_true] at hcd
     rcases hcd with q | q
     · left; cases d <;> simp_all
     · exact .inr (isApp_ok q)
   have h1' := e2_mono he h1
   have hf : ob = V.length → h V.length = .gone := fun e => by
     subst e
     exact hn (V.length, x'.retab) (by simp) (hD_len V)
   exact step_ex rfl hdk (aex2 (o := ⟨d, op', ty, pos, af, none⟩) hc (e2_ok d _ hd' hf h1')) l Q (awpl_retab hq)
 · rw [hc] at hx
   obtain ⟨hcd, hx⟩ := ite_some hx
   obtain ⟨q, h1, h2⟩ := map_some hx
   obtain ⟨x', y⟩ := q
   simp only [Prod.mk.injEq] at h2
   obtain ⟨rfl, rfl⟩ := h2
   have hgo : h V.length = .gone := hn (V.length, x'.retab) (by simp) (hD_len V)
   exact step_ex rfl hdk (aex3 (o := ⟨d, op', ty, pos, af, none⟩) hc (by cases d with | none => cases hcd | some d => exact ⟨d, rfl⟩) hgo (e3_ok _ h1)) l Q (awpl_retab hq)
theorem eOp0_ok [Glb] {call : CallFn} (hcl : CallFnOk P call) {o : Oper} {V : List AObj} {s : Slots} {h : AH} {x : AV} {es : List (Nat × AObj)} (hg : o.guard = none) (hdk : dOk nt o.dst = true) (he : Ext (hD V) h) (hn : ∀ p ∈ es, hD V p.1 = .gone → h p.1 = .gone)
   (hx : eOp0 P call o (opv s o.op) V = some (x, es)) : StepOk P nt fo ops o x es s h := by
 obtain ⟨d, op, ty, pos, af, g⟩ := o
 simp only at hg
 subst hg
 unfold eOp0 at hx
 simp only at hx
 split at hx
 · rename_i f args ats
   refine step_call (entry_func hdk) hcl ?_ he hn
   have e : (opv s (.call ⟨.value (.func f), args, ats⟩)).tail = args.toList.map (ev s) := by simp [opv, Op.operands, Call.operands]
   rw [e] at hx
   exact hx
 · rename_i t args ats
   have e : opv s (.call ⟨.value (.tmp t), args, ats⟩) = s t :: args.toList.map (ev s) := by simp [opv, Op.operands, Call.operands, ev]
   rw [e] at hx
   split at hx
   · rename_i f ps as' heq
     simp only [List.cons.injEq] at heq
     obtain ⟨h1, h2⟩ := heq
     rw [← h2] at hx
     exact step_call (entry_fn hdk h1) hcl hx he hn
   · rename_i f first caps as' heq
     simp only [List.cons.injEq] at heq
     obtain ⟨h1, h2⟩ := heq
     obtain ⟨⟨c1, c2⟩, hx⟩ := ite_some hx
     rw [← h2] at hx
     rw [Array.eq_empty_of_size_eq_zero c1, Array.eq_empty_of_size_eq_zero c2] at h1
     exact step_call (entry_raw hdk h1) hcl hx he hn
   · cases hx
 · rename_i t m k v
   obtain ⟨hcd, hx⟩ := ite_some hx
   have hdn : d = none := by cases d <;> simp_all
   subst hdn
   intro l Q hq
   refine awpl_insert ?_
   have e : opv s (.insert t m k v) = opv s (.mapUpdate t m k v) := rfl
   rw [e] at hx
   refine eOp_plain (d := none) hdk he hn rfl (op' := .mapUpdate t m k v) ?_ l Q hq
   simpa [cls] using hx
 · exact eOp_plain hdk he hn rfl hx
theorem eOp_ok [Glb] {ops' : Array Oper} {call : CallFn} (hcl : CallFnOk P call) {o : Oper} {V : List AObj} {s : Slots} {h : AH} {x : AV} {es : List (Nat × AObj)} (hg : o.guard = none) (hdk : dOk nt o.dst = true) (he : Ext (hD V) h) (hn : ∀ p ∈ es, hD V p.1 = .gone → h p.1 = .gone)
   (hx : eOp P call ops' o (opv s o.op) V = some (x, es)) : StepOk P nt fo ops o x es s h := by
 unfold eOp at hx
 split at hx
 · rename_i r hr
   simp only [Option.some.injEq] at hx
   subst hx
   exact eX_ok hg hdk he hn hr
 · exact eOp0_ok hcl hg hdk he hn hx
def eGuard (nt : Nat) (ops : Array Oper) (o : Oper) (s : Slots) : Option Bool := match o.guard with
 | none => some true
 | some (j, want) => match (ops[j]?).bind (·.dst) with
   | some t => if t < nt then (s t).strip.bool?.map fun g => (s t).wh && g == want else none
   | none => none
theorem awpl_gT [Glb] {o : Oper} {l : List Oper} {Q : APost} {s : Slots} {h : AH} (hg : eGuard nt ops o s = some true) (hq : AWpL P nt fo ops ({ o with guard := none } :: l) Q s h) : AWpL P nt fo ops (o :: l) Q s h := by
 intro E a w I ⟨gs, R⟩
 have h0 := hq E a w I ⟨gs, R⟩
 unfold eGuard at hg
 split at hg
 · rename_i e
   obtain ⟨d, op, ty, pos, af, g⟩ := o
   simp only at e
   subst e
   exact h0
 · rename_i j want e
   split at hg
   · rename_i t ht
     obtain ⟨hlt, hg⟩ := ite_some hg
     obtain ⟨b, h1, h2⟩ := map_some hg
     rw [Bool.and_eq_true, beq_iff_eq] at h2
     have hy := yielded_of R ht (AV.bool_ok h1) hlt
     rw [if_pos h2.1] at hy
     unfold wpList at h0 ⊢
     rw [if_pos (by simp [Region.wanted])] at h0
     rw [if_pos (by simp [Region.wanted, e, hy, h2.2])]
     exact h0
   · cases hg
theorem awpl_gF [Glb] {o : Oper} {l : List Oper} {Q : APost} {s : Slots} {h : AH} (hdk : dOk nt o.dst = true) (hg : eGuard nt ops o s = some false) (hq : AWpL P nt fo ops l Q (updO s o.dst (.when false (.bool false))) h) : AWpL P nt fo ops (o :: l) Q s h := by
 intro E a w I ⟨gs, R⟩
 have hdd : ∀ t, o.dst = some t → t < nt := fun t e => by rw [e] at hdk; simpa [dOk] using hdk
 unfold eGuard at hg
 split at hg
 · cases hg
 · rename_i j want e
   split at hg
   · rename_i t ht
     obtain ⟨hlt, hg⟩ := ite_some hg
     obtain ⟨b, h1, h2⟩ := map_some hg
     have hy := yielded_of R ht (AV.bool_ok h1) hlt
     unfold wpList
     rw [if_neg]
     · exact hq E _ w I ⟨gs, R.putO hdd (.when _ _ _ (fun e => by cases e) fun _ => rfl)⟩
     · cases hwh : (s t).wh with
       | false => rw [hwh] at hy; simp [Region.wanted, e, hy]
       | true =>
         rw [hwh] at hy h2
         simp only [Bool.true_and] at h2
         have : ¬ b = want := by simpa using h2
         simp [Region.wanted, e, hy, this]
   · cases hg
noncomputable def eStep (P : Program) (call : CallFn) (nt : Nat) (ops : Array Oper) (o : Oper) (s : Slots) (V : List AObj) : Option (AV × List (Nat × AObj)) :=
 if dOk nt o.dst then match eGuard nt ops o s with
   | some true => eOp P call ops o (opv s o.op) V
   | some false => some (.when false (.bool false), [])
   | none => none
 else none
theorem eStep_ok [Glb] {call : CallFn} (hcl : CallFnOk P call) {o : Oper} {V : List AObj} {s : Slots} {h : AH} {x : AV} {es : List (Nat × AObj)} (he : Ext (hD V) h) (hn : ∀ p ∈ es, hD V p.1 = .gone → h p.1 = .gone)
   (hx : eStep P call nt ops o s V = some (x, es)) : StepOk P nt fo ops o x es s h := by
 unfold eStep at hx
 obtain ⟨hdk, hx⟩ := ite_some hx
 intro l Q hq
 split at hx
 · rename_i hg
   refine awpl_gT hg ?_
   exact eOp_ok hcl (o := { o with guard := none }) rfl hdk he hn hx l Q hq
 · rename_i hg
   simp only [Option.some.injEq, Prod.mk.injEq] at hx
   obtain ⟨rfl, rfl⟩ := hx
   exact awpl_gF hdk hg hq
 · cases hx
end
end Go.Am
namespace Go.Am
open Go.RowKit
section
variable {P : Program} {nt : Nat} {fo : List Nat} {Q : APost} {s : Slots} {h : AH}
theorem aany_st [Glb] {ops : Array Oper} (hu : upEdges ops = true) (St : (Nat → Bool) → Slots × AH) (hst : ∀ L L' : Nat → Bool, (∀ j, j < ops.size → L j = L' j) → St L = St L')
   (step : ∀ i o, ops[i]? = some o → ∀ L, Fam ops (fun _ => false) L i → AWpL P nt fo ops [o] (thenQ (fun s' h' => s' = (St fun j => decide (j = i) || L j).1 ∧ h' = (St fun j => decide (j = i) || L j).2) Q) (St L).1 (St L).2)
   (fin : Q .normal (St fun _ => true).1 (St fun _ => true).2) :
   AAny P nt fo ops Q ops.size (Array.replicate ops.size false) (St fun _ => false).1 (St fun _ => false).2 := by
 have up : ∀ i o e, ops[i]? = some o → e ∈ o.after.toList → Region.binds .any e = true → e.on < i := by
   intro i o e ho hm hb
   unfold upEdges at hu
   rw [List.all_eq_true] at hu
   have h1 := hu (o, i) (by rw [List.mem_zipIdx_iff_getElem?]; simpa using ho)
   rw [List.all_eq_true] at h1
   have h2 := h1 e hm
   rw [hb] at h2
   simpa using h2
 have allL : ∀ {listed : Array Bool}, listed.size = ops.size → Region.ready .any ops listed = [] → ∀ j, j < ops.size → lset listed j = true := by
   intro listed hsz hr j
   induction j using Nat.strongRecOn with
   | _ j ih =>
     intro hj
     cases hl : lset listed j with
     | true => rfl
     | false =>
       exfalso
       have hm : j ∈ Region.ready .any ops listed := by
         unfold Region.ready
         rw [List.mem_filter]
         refine ⟨by simpa using hj, ?_⟩
         have hl' : listed.getD j true = false := by
           unfold lset at hl
           have : j < listed.size := by omega
           simp only [Array.getD, this, dite_true] at hl ⊢
           exact hl
         simp only [Bool.and_eq_true, Bool.not_eq_true', hl', Array.getElem?_eq_getElem hj, Option.map_some, Option.getD_some, Array.all_eq_true_iff_forall_mem, Bool.or_eq_true, true_and]
         intro e he'
         cases hb : Region.binds .any e with
         | false => exact .inl rfl
         | true =>
           have hlt := up j _ e (Array.getElem?_eq_getElem hj) (Array.mem_toList_iff.2 he') hb
           exact .inr (ih e.on hlt (by omega))
       rw [hr] at hm
       cases hm
 have main : ∀ (fuel : Nat) (listed : Array Bool), listed.size = ops.size → listed.toList.count false ≤ fuel →
     (∀ i o e, ops[i]? = some o → lset listed i = true → e ∈ o.after.toList → Region.binds .any e = true → lset listed e.on = true) →
     AAny P nt fo ops Q fuel listed (St (lset listed)).1 (St (lset listed)).2 := by
   have done : ∀ (fuel : Nat) (listed : Array Bool), listed.size = ops.size → Region.ready .any ops listed = [] → AAny P nt fo ops Q fuel listed (St (lset listed)).1 (St (lset listed)).2 := by
     intro fuel listed hsz hr
     have hall := allL hsz hr
     refine aany_end hr ?_
     rw [hst (lset listed) (fun _ => true) fun j hj => hall j hj]
     exact fin
   intro fuel
   induction fuel with
   | zero =>
     intro listed hsz hcount hcl
     refine done 0 listed hsz ?_
     cases hr : Region.ready .any ops listed with
     | nil => rfl
     | cons i l =>
       exfalso
       obtain ⟨o, h1, h2, h3, h4⟩ := ready_spec (listed := listed) (i := i) (by rw [hr]; simp)
       have hi : i < listed.size := by omega
       have : listed.toList.count false ≠ 0 := by
         have hm : false ∈ listed.toList := by
           simp only [Array.getD, hi, dite_true, Array.getInternal_eq_getElem] at h3
           rw [← h3]
           exact Array.mem_toList_iff.2 (Array.getElem_mem hi)
         exact Nat.ne_of_gt (List.count_pos_iff.2 hm)
       omega
   | succ fuel ih =>
     intro listed hsz hcount hcl
     by_cases hr : Region.ready .any ops listed = []
     · exact done _ listed hsz hr
     refine aany_step _ rfl hr ?_
     have key : ∀ i ∈ Region.ready .any ops listed, ∃ o, ops[i]? = some o ∧ AWpL P nt fo ops [o] (thenQ (AAny P nt fo ops Q fuel (listed.setIfInBounds i true)) Q) (St (lset listed)).1 (St (lset listed)).2 := by
       intro i hi
       obtain ⟨o, ho, hlt, h3, h4⟩ := ready_spec hi
       have hil : i < listed.size := by omega
       have hLi : lset listed i = false := by
         unfold lset
         simp only [Array.getD, hil, dite_true, Array.getInternal_eq_getElem] at h3 ⊢
         exact h3
       have hset : lset (listed.setIfInBounds i true) = fun j => decide (j = i) || lset listed j := funext fun j => by
         unfold lset
         simp only [Array.getD_eq_getD_getElem?]
         by_cases hji : j = i
         · subst hji
           simp [hil]
         · rw [Array.getElem?_setIfInBounds_ne (Ne.symm hji)]
           simp [hji]
       have F : Fam ops (fun _ => false) (lset listed) i := ⟨hLi, fun o' e ho' hm hb => by
         rw [ho] at ho'
         injection ho' with ho'
         subst ho'
         exact h4 e hm hb, hcl, fun _ e => by cases e⟩
       have hs := step i o ho (lset listed) F
       refine ⟨o, ho, fun E a w I R => ?_⟩
       have hw := hs E a w I R
       have go : ∀ (a' : Act) (w' : World), (∃ s' h', (s' = (St fun j => decide (j = i) || lset listed j).1 ∧ h' = (St fun j => decide (j = i) || lset listed j).2) ∧ Rel E nt s' h' a' w') → ∃ s' h', AAny P nt fo ops Q fuel (listed.setIfInBounds i true) s' h' ∧ Rel E nt s' h' a' w' := by
         rintro a' w' ⟨s', h', ⟨rfl, rfl⟩, R'⟩
         refine ⟨_, _, ?_, R'⟩
         have hcnt : (listed.setIfInBounds i true).toList.count false ≤ fuel := by
           have h5 : listed.toList[i]'(by simpa using hil) = false := by
             simp only [Array.getD, hil, dite_true, Array.getInternal_eq_getElem] at h3
             simpa using h3
           rw [Array.toList_setIfInBounds, List.count_set (by simpa using hil)]
           simp only [h5]
           have : (if (false == false) = true then 1 else 0) = 1 := rfl
           rw [this]
           have : (if (true == false) = true then 1 else 0) = 0 := rfl
           rw [this]
           omega
         have hcl' : ∀ i' o' e, ops[i']? = some o' → lset (listed.setIfInBounds i true) i' = true → e ∈ o'.after.toList → Region.binds .any e = true → lset (listed.setIfInBounds i true) e.on = true := by
           intro i' o' e g1 h2 h5 h6
           rw [hset] at h2 ⊢
           simp only [Bool.or_eq_true, decide_eq_true_eq] at h2 ⊢
           rcases h2 with rfl | h2
           · rw [ho] at g1
             injection g1 with g1
             subst g1
             exact .inr (h4 e h5 h6)
           · exact .inr (hcl i' o' e g1 h2 h5 h6)
         have := ih (listed.setIfInBounds i true) (by simpa using hsz) hcnt hcl'
         rw [hset] at this
         exact this
       unfold wpList at hw ⊢
       split at hw
       · rename_i hc
         rw [if_pos hc]
         rcases hw with q | q
         · exact .inl (wp_change (Q1 := fun e a' w' => ∃ s' h', thenQ (fun s' h' => s' = (St fun j => decide (j = i) || lset listed j).1 ∧ h' = (St fun j => decide (j = i) || lset listed j).2) Q e s' h' ∧ Rel E nt s' h' a' w') (fun a' w' q => go a' w' q) (fun c a' w' q => q) (fun ⟨a', w', q⟩ => ⟨a', w', q⟩) q)
         · exact .inr ⟨q.1, q.2⟩
       · rename_i hc
         rw [if_neg hc]
         exact go _ _ hw
     revert key
     generalize Region.ready .any ops listed = l
     intro key
     induction l with
     | nil => trivial
     | cons i r ihl => exact ⟨key i (List.mem_cons_self ..), ihl fun j hj => key j (List.mem_cons_of_mem _ hj)⟩
 have hno : ∀ j, lset (Array.replicate ops.size false) j = false := fun j => by
   unfold lset
   simp only [Array.getD_eq_getD_getElem?]
   by_cases hj : j < ops.size <;> simp [hj]
 have := main ops.size (Array.replicate ops.size false) (by simp) (by simp) (fun i o e _ hl => by rw [hno] at hl; cases hl)
 have e : lset (Array.replicate ops.size false) = fun _ => false := funext hno
 rw [e] at this
 exact this
end
end Go.Am
namespace Go.Am
open Go.RowKit
def okS (nt : Nat) (S : List (List AV)) : Prop := nt ≤ 8 * S.length ∧ ∀ c ∈ S, c.length = 8
noncomputable def setS (S : List (List AV)) : Option Tmp → AV → List (List AV)
 | some d, x => setK S (setK (nthK [] S (d / 8)) x (d % 8)) (d / 8)
 | none, _ => S
theorem okS_set {nt : Nat} {S : List (List AV)} (h : okS nt S) (d : Option Tmp) (x : AV) (hd : dOk nt d = true) : okS nt (setS S d x) := by
 cases d with
 | none => exact h
 | some d =>
   have hd' : d < nt := by simpa [dOk] using hd
   show okS nt (setK S (setK (nthK [] S (d / 8)) x (d % 8)) (d / 8))
   rw [setK_eq, setK_eq, nthK_eq]
   refine ⟨by rw [List.length_set]; exact h.1, fun c hc => ?_⟩
   rcases List.mem_or_eq_of_mem_set hc with hc | hc
   · exact h.2 c hc
   · subst hc
     rw [List.length_set]
     have hlt : d / 8 < S.length := Nat.div_lt_of_lt_mul (Nat.lt_of_lt_of_le hd' h.1)
     rw [List.getD_eq_getElem?_getD, List.getElem?_eq_getElem hlt]
     exact h.2 _ (List.getElem_mem _)
theorem sD_setS {nt : Nat} {S : List (List AV)} {d : Option Tmp} {x : AV} (hS : okS nt S) (h : dOk nt d = true) : sD (setS S d x) = updO (sD S) d x := by
 cases d with
 | none => rfl
 | some d =>
   have hd : d < nt := by simpa [dOk] using h
   funext t
   show sD (setK S (setK (nthK [] S (d / 8)) x (d % 8)) (d / 8)) t = upd (sD S) d x t
   rw [setK_eq, setK_eq, nthK_eq, sD_def]
   have hlt : d / 8 < S.length := Nat.div_lt_of_lt_mul (Nat.lt_of_lt_of_le hd hS.1)
   have hc : (S.getD (d / 8) []).length = 8 := by
     rw [List.getD_eq_getElem?_getD, List.getElem?_eq_getElem hlt]
     exact hS.2 _ (List.getElem_mem _)
   by_cases e : t / 8 = d / 8
   · have e1 : (S.set (d / 8) ((S.getD (d / 8) []).set (d % 8) x)).getD (t / 8) [] = (S.getD (d / 8) []).set (d % 8) x := by
       rw [e, List.getD_eq_getElem?_getD, List.getElem?_set_self hlt]
       rfl
     rw [e1]
     by_cases e2 : t % 8 = d % 8
     · have : t = d := by omega
       subst this
       rw [upd_same, List.getD_eq_getElem?_getD, List.getElem?_set_self (by rw [hc]; omega)]
       rfl
     · have : t ≠ d := fun q => e2 (by rw [q])
       rw [upd_ne _ _ _ _ this, sD_def, e, List.getD_eq_getElem?_getD, List.getElem?_set_ne (Ne.symm e2), List.getD_eq_getElem?_getD (l := S.getD (d / 8) [])]
   · have : t ≠ d := fun q => e (by rw [q])
     rw [upd_ne _ _ _ _ this, sD_def, List.getD_eq_getElem?_getD (l := S.set _ _), List.getElem?_set_ne (Ne.symm e), List.getD_eq_getElem?_getD (l := S)]
noncomputable def setAt (V : List AObj) (i : Nat) (x : AObj) : List AObj := if i < V.length then setK V x i else V ++ List.replicate (i - V.length) .gone ++ [x]
theorem hD_setAt (V : List AObj) (i : Nat) (x : AObj) : hD (setAt V i x) = upd (hD V) i x := by
 funext o
 rw [hD_def]
 unfold setAt upd
 simp only [hD_def, setK_eq]
 split
 · rename_i hi
   simp only [List.getD_eq_getElem?_getD, List.getElem?_set]
   by_cases e : i = o
   · subst e; simp [hi]
   · simp [e, Ne.symm e]
 · rename_i hi
   simp only [List.getD_eq_getElem?_getD]
   by_cases h1 : o < V.length
   · have hne : ¬ o = i := by omega
     rw [if_neg hne, List.getElem?_append_left (by simp; omega), List.getElem?_append_left h1]
   · by_cases h2 : o < i
     · have hne : ¬ o = i := by omega
       rw [if_neg hne, List.getElem?_append_left (by simp; omega), List.getElem?_append_right (by omega), List.getElem?_eq_none (l := V) (by omega), List.getElem?_replicate]
       split <;> rfl
     · by_cases h3 : o = i
       · subst h3
         rw [if_pos rfl, List.getElem?_append_right (by simp; omega)]
         have : o - (V ++ List.replicate (o - V.length) AObj.gone).length = 0 := by simp; omega
         rw [this]; rfl
       · rw [if_neg h3, List.getElem?_eq_none (by simp; omega), List.getElem?_eq_none (by omega)]
noncomputable def setEs (V : List AObj) : List (Nat × AObj) → List AObj
 | [] => V
 | p :: r => setEs (setAt V p.1 p.2) r
theorem hD_setEs : ∀ (es : List (Nat × AObj)) (V : List AObj), hD (setEs V es) = appEs (hD V) es
 | [], V => rfl
 | p :: r, V => by rw [setEs, hD_setEs r, hD_setAt, appEs]
def hideL (l : List Nat) (V : List AObj) : List AObj := if l.isEmpty then V else V.zipIdx.map fun p => if p.2 ∈ l then .gone else p.1
theorem hD_hide (l : List Nat) (V : List AObj) (o : Nat) : hD (hideL l V) o = if o ∈ l then .gone else hD V o := by
 unfold hideL
 split
 · rename_i h
   have : l = [] := by simpa using h
   subst this
   simp
 · simp only [hD_def, List.getD_eq_getElem?_getD, List.getElem?_map, List.getElem?_zipIdx, Nat.zero_add]
   cases V[o]? with
   | none => simp
   | some x => simp only [Option.map_some, Option.getD_some]
structure DR where
 x : AV
 es : List (Nat × AObj)
 hid : List Nat
 vis : List Nat
instance : Inhabited DR := ⟨⟨default, [], [], []⟩⟩
def DR.keys (r : DR) : List Nat := r.es.map (·.1)
def ancL : List Oper → List (List Nat) → List (List Nat)
 | [], acc => acc
 | o :: r, acc => ancL r (acc ++ [(o.after.toList.filter fun e => Region.binds .any e).flatMap fun e => e.on :: acc.getD e.on []])
inductive Anc (ops : Array Oper) : Nat → Nat → Prop
 | one {i j : Nat} {o : Oper} {e : Edge} (ho : ops[i]? = some o) (he : e ∈ o.after.toList) (hb : Region.binds .any e = true) (hj : e.on = j) : Anc ops j i
 | trans {i j k : Nat} (a : Anc ops k j) (b : Anc ops j i) : Anc ops k i
theorem Anc.closed {ops : Array Oper} {dead L : Nat → Bool} {i : Nat} (F : Fam ops dead L i) {j k : Nat} (h : Anc ops k j) : L j = true → L k = true := by
 induction h with
 | one ho he hb hj => exact fun hl => hj ▸ F.closed _ _ _ ho hl he hb
 | trans _ _ h1 h2 => exact fun hl => h1 (h2 hl)
theorem Anc.ready {ops : Array Oper} {dead L : Nat → Bool} {i : Nat} (F : Fam ops dead L i) {k j : Nat} (h : Anc ops k j) : j = i → L k = true := by
 induction h with
 | one ho he hb hj => rintro rfl; exact hj ▸ F.ready _ _ ho he hb
 | trans a _ h1 h2 => exact fun e => a.closed F (h2 e)
theorem Anc.later {ops : Array Oper} {dead L : Nat → Bool} {i : Nat} (F : Fam ops dead L i) {j : Nat} (h : Anc ops i j) : L j = false := by
 cases hl : L j with
 | false => rfl
 | true =>
   have := h.closed F hl
   rw [F.out] at this
   cases this
theorem ancL_ok {ops : Array Oper} : ∀ (l : List Oper) (acc : List (List Nat)), (∀ i o, l[i]? = some o → ops[acc.length + i]? = some o) → (∀ i j, j ∈ acc.getD i [] → Anc ops j i) → ∀ i j, j ∈ (ancL l acc).getD i [] → Anc ops j i
 | [], acc, _, ha => ha
 | o :: r, acc, hl, ha => by
   rw [ancL]
   have ho : ops[acc.length]? = some o := by simpa using hl 0 o rfl
   refine ancL_ok r _ (fun i o' h => ?_) fun i j hj => ?_
   · have := hl (i + 1) o' (by simpa using h)
     rw [List.length_append, List.length_singleton]
     rw [show acc.length + (i + 1) = acc.length + 1 + i by omega] at this
     exact this
   · rw [List.getD_eq_getElem?_getD] at hj
     rcases Nat.lt_trichotomy i acc.length with q | q | q
     · rw [List.getElem?_append_left q] at hj
       exact ha i j (by rw [List.getD_eq_getElem?_getD]; exact hj)
     · subst q
       rw [List.getElem?_append_right (Nat.le_refl _), Nat.sub_self] at hj
       simp only [List.getElem?_cons_zero, Option.getD_some, List.mem_flatMap, List.mem_filter] at hj
       obtain ⟨e, ⟨he, hb⟩, hj⟩ := hj
       rcases List.mem_cons.1 hj with rfl | hj
       · exact .one ho he hb rfl
       · exact .trans (ha _ _ hj) (.one ho he hb rfl)
     · rw [List.getElem?_eq_none (by simp; omega)] at hj
       simp at hj
def rdTmps (ops : Array Oper) (o : Oper) : List Nat := (o.op.operands.toList.filterMap fun y => match y with | .tmp t => some t | _ => none) ++ (match o.guard with | some (j, _) => ((ops[j]?).bind (·.dst)).toList | none => [])
theorem eStep_congr {P : Program} {call : CallFn} {nt : Nat} {ops : Array Oper} {o : Oper} {s s' : Slots} {V : List AObj} (h : ∀ t ∈ rdTmps ops o, s t = s' t) : eStep P call nt ops o s V = eStep P call nt ops o s' V := by
 have h1 : opv s o.op = opv s' o.op := by
   unfold opv
   refine List.map_congr_left fun y hy => ?_
   cases y with
   | tmp t => exact h t (List.mem_append_left _ (List.mem_filterMap.2 ⟨_, hy, rfl⟩))
   | _ => rfl
 have h2 : eGuard nt ops o s = eGuard nt ops o s' := by
   unfold eGuard
   split
   · rfl
   · rename_i j want e
     split
     · rename_i t ht
       have : s t = s' t := h t (by
         unfold rdTmps
         rw [e]
         refine List.mem_append_right _ ?_
         show t ∈ ((ops[j]?).bind (·.dst)).toList
         rw [ht]
         simp)
       rw [this]
     · rfl
 unfold eStep
 rw [h1, h2]
def statOk (ops : List Oper) : Bool := upEdges ops.toArray && dstsOk ops.toArray && ops.zipIdx.all fun p => (rdTmps ops.toArray p.1).all fun t => ops.zipIdx.all fun q => q.2 == p.2 || q.1.dst != some t || decide (q.2 ∈ (ancL ops []).getD p.2 []) || decide (p.2 ∈ (ancL ops []).getD q.2 [])
noncomputable def eDrawL (P : Program) (call : CallFn) (nt : Nat) (ops : Array Oper) (an ex : List (List Nat)) : List Oper → Nat → List (List AV) → List AObj → List (Nat × List Nat) → Option (List DR × List (List AV) × List AObj)
 | [], _, S, V, _ => some ([], S, V)
 | o :: r, k, S, V, ks =>
   let hid := (ks.flatMap fun p => if p.1 ∈ an.getD k [] then [] else p.2) ++ ex.getD k []
   match eStep P call nt ops o (sD S) (hideL hid V) with
   | some (x, es) => match eDrawL P call nt ops an ex r (k + 1) (setS S o.dst x) (setEs V es) (if es.isEmpty then ks else (k, es.map (·.1)) :: ks) with
     | some (rest, S', V') => some (⟨x, es, hid, nonGone (hideL hid V)⟩ :: rest, S', V')
     | none => none
   | none => none
def disj (a b : List Nat) : Bool := a.all fun o => !decide (o ∈ b)
theorem disj_ok {a b : List Nat} (h : disj a b = true) : ∀ o ∈ a, o ∉ b := by
 unfold disj at h
 rw [List.all_eq_true] at h
 intro o ho
 simpa using h o ho
def pairOk (a b : DR) : Bool := disj a.keys b.keys && a.keys.all (fun o => decide (o ∈ b.hid)) && disj b.keys a.vis
def chkDraw (an : List (List Nat)) (rs : List DR) : Bool := rs.zipIdx.all fun p => p.1.es.isEmpty || (disj p.1.keys p.1.hid && rs.zipIdx.all fun q => p.2 == q.2 || (if p.2 < q.2 then decide (p.2 ∈ an.getD q.2 []) || pairOk p.1 q.1 else decide (q.2 ∈ an.getD p.2 []) || pairOk q.1 p.1))
noncomputable def runS (S : List (List AV)) : List (Oper × DR) → List (List AV)
 | [] => S
 | p :: q => runS (setS S p.1.dst p.2.x) q
noncomputable def runV (V : List AObj) : List DR → List AObj
 | [] => V
 | r :: q => runV (setEs V r.es) q
theorem eDrawL_spec {P : Program} {call : CallFn} {nt : Nat} {ops : Array Oper} {an ex : List (List Nat)} : ∀ {l : List Oper} {k : Nat} {S : List (List AV)} {V : List AObj} {ks : List (Nat × List Nat)} {rs : List DR} {S' : List (List AV)} {V' : List AObj}, eDrawL P call nt ops an ex l k S V ks = some (rs, S', V') →
   (rs.length = l.length ∧ S' = runS S (l.zip rs) ∧ V' = runV V rs) ∧ ∀ i o r, l[i]? = some o → rs[i]? = some r → eStep P call nt ops o (sD (runS S ((l.zip rs).take i))) (hideL r.hid (runV V (rs.take i))) = some (r.x, r.es) ∧ r.vis = nonGone (hideL r.hid (runV V (rs.take i)))
 | [], k, S, V, ks, rs, S', V', h => by
   simp only [eDrawL, Option.some.injEq, Prod.mk.injEq] at h
   obtain ⟨rfl, rfl, rfl⟩ := h
   exact ⟨⟨rfl, rfl, rfl⟩, fun i o r ho => by simp at ho⟩
 | o :: l, k, S, V, ks, rs, S', V', h => by
   simp only [eDrawL] at h
   split at h
   · rename_i x es hs
     split at h
     · rename_i rest S1 V1 hr
       simp only [Option.some.injEq, Prod.mk.injEq] at h
       obtain ⟨rfl, rfl, rfl⟩ := h
       obtain ⟨⟨h1, h3, h4⟩, h2⟩ := eDrawL_spec hr
       refine ⟨⟨by simp [h1], h3, h4⟩, fun i o' r ho hr' => ?_⟩
       cases i with
       | zero =>
         simp only [List.getElem?_cons_zero, Option.some.injEq] at ho hr'
         subst ho hr'
         exact ⟨hs, rfl⟩
       | succ i =>
         simp only [List.getElem?_cons_succ] at ho hr'
         have := h2 i o' r ho hr'
         simpa [runS, runV] using this
     · cases h
   · cases h
end Go.Am
namespace Go.Am
open Go.RowKit
def HLs (es : Nat → List (Nat × AObj)) (h0 : AH) (L : Nat → Bool) : Nat → AH
 | 0 => h0
 | k + 1 => if L k then appEs (HLs es h0 L k) (es k) else HLs es h0 L k
abbrev keysE (es : Nat → List (Nat × AObj)) (k : Nat) : List Nat := (es k).map (·.1)
theorem appEs_in {o : Nat} : ∀ {es : List (Nat × AObj)}, o ∈ es.map (·.1) → ∀ h h' : AH, appEs h es o = appEs h' es o
 | p :: r, hm, h, h' => by
   rw [appEs, appEs]
   by_cases hr : o ∈ r.map (·.1)
   · exact appEs_in hr _ _
   · simp only [List.map_cons, List.mem_cons] at hm
     have e := hm.resolve_right hr
     rw [appEs_out (h := h) hr, appEs_out (h := h') hr, e, upd_same, upd_same]
theorem appEs_comm {a b : List (Nat × AObj)} (hd : ∀ o ∈ a.map (·.1), o ∉ b.map (·.1)) (h : AH) : appEs (appEs h a) b = appEs (appEs h b) a := by
 funext o
 by_cases ha : o ∈ a.map (·.1)
 · rw [appEs_out (h := h) (hd o ha)]
   exact appEs_in ha _ _
 · rw [appEs_out (h := h) ha]
   by_cases hb : o ∈ b.map (·.1)
   · exact appEs_in hb _ _
   · rw [appEs_out (h := h) hb, appEs_out (h := h) hb, appEs_out (h := h) ha]
section
variable {es : Nat → List (Nat × AObj)} {h0 : AH} {L L' : Nat → Bool}
theorem HLs_false : ∀ k, HLs es h0 (fun _ => false) k = h0
 | 0 => rfl
 | k + 1 => by simp [HLs, HLs_false k]
theorem HLs_congr {o : Nat} : ∀ {k : Nat}, (∀ j, j < k → o ∈ keysE es j → L j = L' j) → HLs es h0 L k o = HLs es h0 L' k o
 | 0, _ => rfl
 | k + 1, hl => by
   have ih := HLs_congr (o := o) (k := k) fun j hj ho => hl j (by omega) ho
   simp only [HLs]
   by_cases ho : o ∈ keysE es k
   · rw [hl k (by omega) ho]
     split
     · exact appEs_in ho _ _
     · exact ih
   · split
     · rw [appEs_out (h := h0) ho]
       split
       · rw [appEs_out (h := h0) ho]; exact ih
       · exact ih
     · split
       · rw [appEs_out (h := h0) ho]; exact ih
       · exact ih
theorem HLs_ext {k : Nat} (hl : ∀ j, j < k → L j = L' j) : HLs es h0 L k = HLs es h0 L' k := funext fun o => HLs_congr fun j hj _ => hl j hj
theorem HLs_join {i : Nat} (hi : L i = false) : ∀ k, (∀ j, i < j → j < k → L j = true → ∀ o ∈ keysE es i, o ∉ keysE es j) → HLs es h0 (fun j => decide (j = i) || L j) k = if i < k then appEs (HLs es h0 L k) (es i) else HLs es h0 L k
 | 0, _ => by simp [HLs]
 | k + 1, hd => by
   have ih := HLs_join (k := k) hi fun j h1 h2 => hd j h1 (by omega)
   simp only [HLs]
   rcases Nat.lt_trichotomy i k with q | q | q
   · have hne : ¬ k = i := by omega
     rw [if_pos q] at ih
     rw [ih, if_pos (show i < k + 1 by omega)]
     simp only [hne, decide_false, Bool.false_or]
     cases hl : L k with
     | false => simp
     | true => simp only [if_true]; exact appEs_comm (hd k q (by omega) hl) _
   · subst q
     rw [if_neg (Nat.lt_irrefl _)] at ih
     rw [ih, if_pos (Nat.lt_succ_self _)]
     simp [hi]
   · have hne : ¬ k = i := by omega
     rw [if_neg (show ¬ i < k by omega)] at ih
     rw [ih, if_neg (show ¬ i < k + 1 by omega)]
     simp [hne]
end
theorem SL_false {ops : Array Oper} {xs s0 : Nat → AV} : ∀ k, SL ops xs s0 (fun _ => false) k = s0
 | 0 => rfl
 | k + 1 => by simp [SL, SL_false k]
theorem SL_ext {ops : Array Oper} {xs s0 : Nat → AV} {L L' : Nat → Bool} : ∀ k, (∀ j, j < k → L j = L' j) → SL ops xs s0 L k = SL ops xs s0 L' k
 | 0, _ => rfl
 | k + 1, h => by simp only [SL, h k (by omega), SL_ext k fun j hj => h j (by omega)]
theorem runS_snoc (S : List (List AV)) (q : List (Oper × DR)) (p : Oper × DR) : runS S (q ++ [p]) = setS (runS S q) p.1.dst p.2.x := by
 induction q generalizing S with
 | nil => rfl
 | cons a q ih => exact ih _
theorem okS_run {nt : Nat} (q : List (Oper × DR)) (hq : ∀ p ∈ q, dOk nt p.1.dst = true) : ∀ {S : List (List AV)}, okS nt S → okS nt (runS S q) := by
 induction q with
 | nil => exact fun h => h
 | cons a q ih => exact fun h => ih (fun p hp => hq p (by simp [hp])) (okS_set h _ _ (hq a (by simp)))
theorem runV_snoc (V : List AObj) (q : List DR) (p : DR) : runV V (q ++ [p]) = setEs (runV V q) p.es := by
 induction q generalizing V with
 | nil => rfl
 | cons a q ih => exact ih _
section
variable {P : Program} {nt : Nat} {fo : List Nat} {Q : APost}
theorem lt_succ_or (i : Nat) : (fun k => decide (k < i + 1)) = fun j => decide (j = i) || decide (j < i) := funext fun j => by
 by_cases h1 : j = i
 · subst h1; simp
 · by_cases h2 : j < i
   · have : j < i + 1 := by omega
     simp [h2, this]
   · have : ¬ j < i + 1 := by omega
     simp [h1, h2, this]
theorem awp_draw [Glb] (hf : P.follows .mixedOrders = true) {call : CallFn} (hcl : CallFnOk P call) {id : Nat} {ops : List Oper} {S : List (List AV)} {V : List AObj} {rs : List DR} {ex : List (List Nat)} (hst : statOk ops = true) (hlen : okS nt S)
   {S' : List (List AV)} {V' : List AObj} (hrun : eDrawL P call nt ops.toArray (ancL ops []) ex ops 0 S V [] = some (rs, S', V')) (hchk : chkDraw (ancL ops []) rs = true) (hq : Q .normal (sD S') (hD V')) :
   AWp P nt fo (.region id ops.toArray true) Q (sD S) (hD V) := by
 obtain ⟨⟨hrl, hS', hV'⟩, hspec⟩ := eDrawL_spec hrun
 subst hS' hV'
 unfold statOk at hst
 rw [Bool.and_eq_true, Bool.and_eq_true] at hst
 obtain ⟨⟨hup, hds⟩, hrd⟩ := hst
 have hanc : ∀ i j, j ∈ (ancL ops []).getD i [] → Anc ops.toArray j i := ancL_ok ops [] (fun i o h => by simpa using h) fun i j hj => by simp at hj
 obtain ⟨xs, hxs⟩ : ∃ xs : Nat → AV, xs = fun i => (rs.getD i default).x := ⟨_, rfl⟩
 obtain ⟨es, hes⟩ : ∃ es : Nat → List (Nat × AObj), es = fun i => (rs.getD i default).es := ⟨_, rfl⟩
 have gx : ∀ i r, rs[i]? = some r → xs i = r.x ∧ es i = r.es := fun i r h => by
   have : rs.getD i default = r := by rw [List.getD_eq_getElem?_getD, h]; rfl
   rw [hxs, hes]
   exact ⟨by simp only [this], by simp only [this]⟩
 have gr : ∀ i, i < ops.length → ∃ r, rs[i]? = some r := fun i hi => ⟨rs[i]'(by omega), List.getElem?_eq_getElem _⟩
 have hsz : ops.toArray.size = ops.length := by simp
 have dsts : ∀ i o, ops[i]? = some o → dstAt ops.toArray i = o.dst := fun i o h => by simp [dstAt, h]
 have dok : ∀ (i : Nat) (o : Oper) (r : DR), ops[i]? = some o → rs[i]? = some r → dOk nt o.dst = true := fun i o r ho hr => by
   have := (hspec i o r ho hr).1
   unfold eStep at this
   exact (ite_some this).1
 have hdz : ∀ i, ∀ p ∈ (ops.zip rs).take i, dOk nt p.1.dst = true := fun i p hp => by
   obtain ⟨k, hk⟩ := List.getElem?_of_mem (List.mem_of_mem_take hp)
   rw [List.getElem?_zip_eq_some] at hk
   exact dok k _ _ hk.1 hk.2
 have txS : ∀ i, i ≤ ops.length → sD (runS S ((ops.zip rs).take i)) = SL ops.toArray xs (sD S) (fun k => decide (k < i)) ops.length := by
   intro i
   induction i with
   | zero => intro _; simp [runS, SL_false]
   | succ i ih =>
     intro hi
     have ho : ops[i]? = some ops[i] := List.getElem?_eq_getElem (by omega)
     obtain ⟨r, hr⟩ := gr i (by omega)
     have hz : (ops.zip rs)[i]? = some (ops[i], r) := by
       rw [List.getElem?_zip_eq_some]; exact ⟨ho, hr⟩
     rw [List.take_add_one, hz, Option.toList_some, runS_snoc, sD_setS (okS_run _ (hdz i) hlen) (dok i _ r ho hr), ih (by omega), lt_succ_or, SL_join ops.length (fun j h1 h2 t h5 h6 => absurd (dstsOk_spec hds h5 h6) (by omega)) (by simp), if_pos (by omega), dsts i _ ho, (gx i r hr).1]
 have txH : ∀ i, i ≤ ops.length → hD (runV V (rs.take i)) = HLs es (hD V) (fun k => decide (k < i)) ops.length := by
   intro i
   induction i with
   | zero => intro _; simp [runV, HLs_false]
   | succ i ih =>
     intro hi
     obtain ⟨r, hr⟩ := gr i (by omega)
     rw [List.take_add_one, hr, Option.toList_some, runV_snoc, hD_setEs, ih (by omega), lt_succ_or, HLs_join (by simp) ops.length (fun j h1 h2 h3 => by simp at h3; omega), if_pos (by omega), (gx i r hr).2]
 have kk : ∀ i r, rs[i]? = some r → keysE es i = r.keys := fun i r h => by
   show (es i).map (·.1) = r.es.map (·.1)
   rw [(gx i r h).2]
 have hmem : ∀ i r, rs[i]? = some r → (r, i) ∈ rs.zipIdx := fun i r h => by rw [List.mem_zipIdx_iff_getElem?]; exact h
 have hck : ∀ i r, rs[i]? = some r → r.keys ≠ [] → disj r.keys r.hid = true ∧ ∀ j q, rs[j]? = some q → j ≠ i → (if i < j then i ∈ (ancL ops []).getD j [] ∨ pairOk r q = true else j ∈ (ancL ops []).getD i [] ∨ pairOk q r = true) := by
   intro i r hr hne
   unfold chkDraw at hchk
   rw [List.all_eq_true] at hchk
   have h1 := hchk _ (hmem i r hr)
   have hee : r.es.isEmpty = false := by
     cases he : r.es with
     | nil => exact absurd (by simp [DR.keys, he]) hne
     | cons _ _ => rfl
   simp only [hee, Bool.false_or, Bool.and_eq_true, List.all_eq_true] at h1
   refine ⟨h1.1, fun j q hj hji => ?_⟩
   have h2 := h1.2 _ (hmem j q hj)
   have hb : (i == j) = false := by simpa using Ne.symm hji
   simp only [hb, Bool.false_or] at h2
   split
   · rename_i hlt
     rw [if_pos hlt] at h2
     simpa using h2
   · rename_i hlt
     rw [if_neg hlt] at h2
     simpa using h2
 have sep : ∀ i r L, rs[i]? = some r → i < ops.length → Fam ops.toArray (fun _ => false) L i → ∀ o, (o ∈ r.keys ∨ (o ∈ r.vis ∧ o ∉ r.hid)) → ∀ j, j < ops.length → o ∈ keysE es j → L j = decide (j < i) := by
   intro i r L hr hi F o ho j hj hoj
   obtain ⟨q, hq'⟩ := gr j hj
   rw [kk j q hq'] at hoj
   have hne : q.keys ≠ [] := fun e => by rw [e] at hoj; cases hoj
   by_cases hji : j = i
   · subst hji
     rw [F.out]; simp
   have h2 := (hck j q hq' hne).2 i r hr (fun e => hji e.symm)
   rcases Nat.lt_or_ge j i with hlt | hge
   · rw [if_pos hlt] at h2
     rcases h2 with h2 | h2
     · rw [(hanc i j h2).ready F rfl]; simp [hlt]
     · exfalso
       unfold pairOk at h2
       rw [Bool.and_eq_true, Bool.and_eq_true] at h2
       rcases ho with ho | ho
       · exact disj_ok h2.1.1 o hoj ho
       · have := List.all_eq_true.1 h2.1.2 o hoj
         exact ho.2 (by simpa using this)
   · rw [if_neg (by omega)] at h2
     rcases h2 with h2 | h2
     · rw [(hanc j i h2).later F]; simp; omega
     · exfalso
       unfold pairOk at h2
       rw [Bool.and_eq_true, Bool.and_eq_true] at h2
       rcases ho with ho | ho
       · exact disj_ok h2.1.1 o ho hoj
       · exact disj_ok h2.2 o hoj ho.1
 refine awp_any hf ?_
 have hst' := aany_st (P := P) (nt := nt) (fo := fo) (Q := Q) (ops := ops.toArray) hup (fun L => (SL ops.toArray xs (sD S) L ops.length, HLs es (hD V) L ops.length)) (fun L L' hl => by
     rw [hsz] at hl
     rw [SL_ext _ hl, HLs_ext hl]) (fun i o ho L F => ?_) ?_
 · simp only [SL_false, HLs_false] at hst'
   simpa using hst'
 · have ho' : ops[i]? = some o := by simpa using ho
   have hi : i < ops.length := (List.getElem?_eq_some_iff.1 ho').1
   obtain ⟨r, hr⟩ := gr i hi
   obtain ⟨h1, h2⟩ := hspec i o r ho' hr
   have hx := (gx i r hr).1
   have he := (gx i r hr).2
   have hside : ∀ t ∈ rdTmps ops.toArray o, sD (runS S ((ops.zip rs).take i)) t = SL ops.toArray xs (sD S) L ops.length t := by
     intro t ht
     rw [txS i (by omega)]
     rw [List.all_eq_true] at hrd
     have h3 := hrd (o, i) (by rw [List.mem_zipIdx_iff_getElem?]; exact ho')
     rw [List.all_eq_true] at h3
     have h4 := h3 t ht
     rw [List.all_eq_true] at h4
     by_cases hex : ∃ j, dstAt ops.toArray j = some t
     · obtain ⟨j, hj⟩ := hex
       have hjl : j < ops.length := by
         unfold dstAt at hj
         rcases Nat.lt_or_ge j ops.length with q | q
         · exact q
         · rw [Array.getElem?_eq_none (by simpa using q)] at hj; cases hj
       have hoj : ops[j]? = some ops[j] := List.getElem?_eq_getElem hjl
       have h5 := h4 (ops[j], j) (by rw [List.mem_zipIdx_iff_getElem?]; exact hoj)
       rw [dsts j _ hoj] at hj
       have hlj : L j = decide (j < i) := by
         simp only [hj, bne_self_eq_false, Bool.or_false, Bool.or_eq_true, beq_iff_eq, decide_eq_true_eq] at h5
         rcases h5 with (h5 | h5) | h5
         · subst h5; rw [F.out]; simp
         · have a := hanc i j h5
           have hlt : j < i := by
             by_cases hq1 : j < i
             · exact hq1
             · exfalso
               have up : ∀ {k m : Nat}, Anc ops.toArray k m → k < m := fun {k m} a => by
                 induction a with
                 | one g1 g2 g3 g4 =>
                   subst g4
                   unfold upEdges at hup
                   rw [List.all_eq_true] at hup
                   have u1 := hup (_, _) (by rw [List.mem_zipIdx_iff_getElem?]; simpa using g1)
                   rw [List.all_eq_true] at u1
                   have u2 := u1 _ g2
                   rw [g3] at u2
                   simpa using u2
                 | trans _ _ x y => omega
               exact hq1 (up a)
           rw [a.ready F rfl]; simp [hlt]
         · have a := hanc j i h5
           have up : ∀ {k m : Nat}, Anc ops.toArray k m → k < m := fun {k m} a => by
             induction a with
             | one g1 g2 g3 g4 =>
               subst g4
               unfold upEdges at hup
               rw [List.all_eq_true] at hup
               have u1 := hup (_, _) (by rw [List.mem_zipIdx_iff_getElem?]; simpa using g1)
               rw [List.all_eq_true] at u1
               have u2 := u1 _ g2
               rw [g3] at u2
               simpa using u2
             | trans _ _ x y => omega
           have := up a
           rw [a.later F]; simp; omega
       have hj' : dstAt ops.toArray j = some t := by rw [dsts j _ hoj]; exact hj
       have g1 := SL_get (xs := xs) (s0 := sD S) (L := L) hds hj' ops.length
       have g2 := SL_get (xs := xs) (s0 := sD S) (L := fun k => decide (k < i)) hds hj' ops.length
       rw [g1, g2, hlj]
     · have hno : ((List.range ops.toArray.size).all fun j => dstAt ops.toArray j != some t) = true := by
         rw [List.all_eq_true]
         intro j _
         simpa using fun e => hex ⟨j, e⟩
       rw [SL_no hno _ (by simp), SL_no hno _ (by simp)]
   rw [eStep_congr hside] at h1
   have hnot : ∀ k ∈ r.keys, k ∉ r.hid := fun k hk => disj_ok (hck i r hr fun e => by rw [e] at hk; cases hk).1 k hk
   have hhv : ∀ k, hD (hideL r.hid (runV V (rs.take i))) k = if k ∈ r.hid then .gone else HLs es (hD V) (fun k => decide (k < i)) ops.length k := fun k => by
     rw [hD_hide, txH i (by omega)]
   have hext : Ext (hD (hideL r.hid (runV V (rs.take i)))) (HLs es (hD V) L ops.length) := by
     intro k hk
     have hvis : k ∈ r.vis := by rw [h2]; exact nonGone_iff.2 hk
     rw [hhv] at hk ⊢
     by_cases hh : k ∈ r.hid
     · rw [if_pos hh] at hk; exact absurd rfl hk
     · rw [if_neg hh]
       exact HLs_congr fun j hj hkj => sep i r L hr hi F k (.inr ⟨hvis, hh⟩) j hj hkj
   have hnew : ∀ p ∈ r.es, hD (hideL r.hid (runV V (rs.take i))) p.1 = .gone → HLs es (hD V) L ops.length p.1 = .gone := by
     intro p hp hg
     have hk : p.1 ∈ r.keys := List.mem_map.2 ⟨p, hp, rfl⟩
     rw [hhv, if_neg (hnot _ hk)] at hg
     rw [← hg]
     exact HLs_congr fun j hj hkj => sep i r L hr hi F p.1 (.inl hk) j hj hkj
   refine eStep_ok hcl hext hnew h1 [] _ (awpl_end ?_)
   have hlater : ∀ j, i < j → j < ops.length → L j = true → ∀ o ∈ keysE es i, o ∉ keysE es j := by
     intro j hij hj hl o ho1 ho2
     rw [kk i r hr] at ho1
     have := sep i r L hr hi F o (.inl ho1) j hj ho2
     rw [hl] at this
     simp at this
     omega
   show _ = _ ∧ _ = _
   rw [SL_join ops.length (fun j h1 h2 t h5 h6 => absurd (dstsOk_spec hds h5 h6) (by omega)) F.out, if_pos hi, HLs_join F.out ops.length hlater, if_pos hi, hx, he, dsts i o ho']
   exact ⟨rfl, rfl⟩
 · have e1 := txS ops.length (Nat.le_refl _)
   have e2 := txH ops.length (Nat.le_refl _)
   have z1 : (ops.zip rs).take ops.length = ops.zip rs := List.take_of_length_le (by rw [List.length_zip]; omega)
   have z2 : rs.take ops.length = rs := List.take_of_length_le (by omega)
   rw [z1] at e1
   rw [z2] at e2
   rw [e1, e2] at hq
   have f1 : SL ops.toArray xs (sD S) (fun _ => true) ops.length = SL ops.toArray xs (sD S) (fun k => decide (k < ops.length)) ops.length := SL_ext _ fun j hj => by simp [hj]
   have f2 : HLs es (hD V) (fun _ => true) ops.length = HLs es (hD V) (fun k => decide (k < ops.length)) ops.length := HLs_ext fun j hj => by simp [hj]
   simp only [f1, f2]
   exact hq
end
end Go.Am
namespace Go.Am
open Go.RowKit
structure ESt where
 s : List (List AV)
 v : List AObj
 d : List Nat
noncomputable def frzAt (o : Nat) (st : ESt) : ESt := match hD st.v o with
 | .row _ sz n f => ⟨st.s.map (List.map (AV.frz o sz n f)), st.v.zipIdx.map fun p => if p.2 = o then .gone else p.1.frz o sz n f, List.range st.v.length ++ st.d⟩
 | _ => st
noncomputable def frzAll : List Nat → ESt → ESt
 | [], st => st
 | o :: r, st => frzAll r (frzAt o st)
noncomputable def trRefs (S : List (List AV)) (tr : List (Nat × List Nat)) : Operand → List Nat
 | .tmp t => match tr.find? (fun p => p.1 == t) with
   | some p => p.2
   | none => (sD S t).refsw
 | _ => []
def isRow : AObj → Bool
 | .row _ _ _ _ => true
 | _ => false
noncomputable def needF (S : List (List AV)) (V : List AObj) (k : Nat) : List Oper → List (Nat × List Nat) → List Nat
 | [], _ => []
 | o :: r, tr =>
   let rf : Operand → List Nat := trRefs S tr
   let put (l : List Nat) : List (Nat × List Nat) := match o.dst with
     | some d => (d, l) :: tr
     | none => tr
   let rows (l : List Nat) : List Nat := l.filter fun o => decide (k ≤ o) && isRow (hD V o)
   match o.op with
   | .move y | .assign y | .nilCheck y | .fieldAddr _ y _ | .extract y _ => needF S V k r (put (rf y))
   | .build _ ps => needF S V k r (put (ps.toList.flatMap fun p => rf p.2))
   | .load _ y => needF S V k r (put ((rf y).flatMap fun o => objRefs (hD V o)))
   | .lookup _ y _ _ => needF S V k r (put ((rf y).flatMap fun o => objRefs (hD V o)))
   | .indexAddr _ y _ | .slice _ y _ _ _ => needF S V k r (put (rf y))
   | .buildSlice _ _ ps => rows (ps.toList.flatMap fun p => rf p.2) ++ needF S V k r (put [])
   | .store _ a v => (if (rf a).any fun o => isRow (hD V o) then rows (rf v) else []) ++ needF S V k r tr
   | .call ⟨.builtin .append, args, _⟩ => needF S V k r (put (match args.toList with | y :: _ => rf y | [] => []))
   | _ => needF S V k r (put [])
noncomputable def eSeqL (P : Program) (call : CallFn) (nt : Nat) (ops : Array Oper) : List Oper → ESt → Option ESt
 | [], st => some st
 | o :: r, st => match eStep P call nt ops o (sD st.s) st.v with
   | some (x, es) => eSeqL P call nt ops r ⟨setS st.s o.dst x, setEs st.v es, es.map (·.1) ++ st.d⟩
   | none => none
def exOf (an : List (List Nat)) (rs : List DR) : List (List Nat) := rs.zipIdx.map fun q => rs.zipIdx.flatMap fun p => if decide (q.2 < p.2) && !decide (q.2 ∈ an.getD p.2 []) then p.1.keys else []
noncomputable def eDrawn (P : Program) (call : CallFn) (nt : Nat) (ops : List Oper) (an ex : List (List Nat)) (st : ESt) : Option (List DR × List (List AV) × List AObj) := match eDrawL P call nt ops.toArray an ex ops 0 st.s st.v [] with
 | some r => if chkDraw an r.1 then some r else none
 | none => none
noncomputable def eDraw2 (P : Program) (call : CallFn) (nt : Nat) (ops : List Oper) (st : ESt) : Option (List DR × List (List AV) × List AObj) := match eDrawL P call nt ops.toArray (ancL ops []) [] ops 0 st.s st.v [] with
 | some r => if chkDraw (ancL ops []) r.1 then some r else eDrawn P call nt ops (ancL ops []) (exOf (ancL ops []) r.1) st
 | none => none
def hasB (ops : List Oper) : Bool := ops.any fun o => match o.op with
 | .buildSlice _ n _ => decide (0 < n)
 | .store _ _ _ => true
 | _ => false
noncomputable def eRegion (P : Program) (call : CallFn) (nt k : Nat) (ops : Array Oper) (draw : Bool) (st0 : ESt) : Option ESt :=
 let st := if hasB ops.toList then frzAll (needF st0.s st0.v k ops.toList []) st0 else st0
 if draw then if statOk ops.toList then match eDraw2 P call nt ops.toList st with
     | some (rs, S, V) => some ⟨S, V, rs.flatMap DR.keys ++ st.d⟩
     | none => none
   else none
 else eSeqL P call nt ops ops.toList st
noncomputable def eCodeF (P : Program) (call : CallFn) (nt k : Nat) (rec : Code → ESt → Option (Exit × ESt)) (c : Code) (st : ESt) : Option (Exit × ESt) := match c with
 | .skip => some (.normal, st)
 | .region _ ops draw => (eRegion P call nt k ops draw st).map fun st => (.normal, st)
 | .seq a b => match rec a st with
   | some (.normal, st') => rec b st'
   | r => r
 | .cond c x y => match (ev (sD st.s) c).bool? with
   | some b => rec (bif b then x else y) st
   | none => none
 | .block id c => match rec c st with
   | some (.exit j, st') => if j = id then some (.normal, st') else some (.exit j, st')
   | r => r
 | .loop c => match rec c st with
   | some (.normal, st') => rec (.loop c) st'
   | r => r
 | .exit id => some (.exit id, st)
 | .ret => some (.ret, st)
 | _ => none
noncomputable def eCode (P : Program) (call : CallFn) (nt k : Nat) : Nat → Code → ESt → Option (Exit × ESt)
 | 0 => fun _ _ => none
 | n + 1 => eCodeF P call nt k (eCode P call nt k n)
section
variable {P : Program} {nt k : Nat} {fo : List Nat} {Q : APost}
structure Inv (nt : Nat) (h0 : AH) (st : ESt) : Prop where
 len : okS nt st.s
 frame : ∀ o, o ∉ st.d → hD st.v o = h0 o
theorem sD_map {S : List (List AV)} {f : AV → AV} (hf : f (.c .any) = .c .any) : sD (S.map (List.map f)) = fun t => f (sD S t) := by
 funext t
 simp only [sD_def, List.getD_eq_getElem?_getD, List.getElem?_map]
 cases S[t / 8]? with
 | none => simp [hf]
 | some c =>
   simp only [Option.map_some, Option.getD_some, List.getElem?_map]
   cases c[t % 8]? with
   | none => exact hf.symm
   | some x => rfl
theorem okS_map {S : List (List AV)} {f : AV → AV} (h : okS nt S) : okS nt (S.map (List.map f)) := by
 refine ⟨by rw [List.length_map]; exact h.1, fun c hc => ?_⟩
 obtain ⟨c0, h0, rfl⟩ := List.mem_map.1 hc
 rw [List.length_map]
 exact h.2 c0 h0
theorem frzAt_ok [Glb] {o : Nat} {st : ESt} {h0 : AH} (hk : ∀ o ∈ fo, o < k) (ho : k ≤ o) (hi : Inv nt h0 st) : Inv nt h0 (frzAt o st) ∧ Weak fo (sD st.s) (hD st.v) (sD (frzAt o st).s) (hD (frzAt o st).v) := by
 unfold frzAt
 split
 · rename_i ty sz n f hr
   have e2 : hD (st.v.zipIdx.map fun p => if p.2 = o then .gone else p.1.frz o sz n f) = frzH o sz n f (hD st.v) := by
     funext q
     simp only [hD_def, frzH, List.getD_eq_getElem?_getD, List.getElem?_map, List.getElem?_zipIdx, Nat.zero_add]
     cases st.v[q]? with
     | none => simp [AObj.frz]
     | some x => simp only [Option.map_some, Option.getD_some]
   refine ⟨⟨okS_map hi.len, fun q hq => ?_⟩, ?_⟩
   · simp only [List.mem_append, List.mem_range, not_or] at hq
     have hg : hD st.v q = .gone := by simp [hD_def, List.getD_eq_getElem?_getD, List.getElem?_eq_none (Nat.le_of_not_lt hq.1)]
     have := hi.frame q hq.2
     rw [← this]
     show hD (st.v.zipIdx.map fun p => if p.2 = o then .gone else p.1.frz o sz n f) q = _
     rw [e2]
     simp only [frzH, hg, AObj.frz]
     split <;> rfl
   · have e1 : sD (st.s.map (List.map (AV.frz o sz n f))) = frzS o sz n f (sD st.s) := sD_map rfl
     show Weak fo _ _ (sD (st.s.map (List.map (AV.frz o sz n f)))) (hD (st.v.zipIdx.map fun p => if p.2 = o then .gone else p.1.frz o sz n f))
     rw [e1, e2]
     exact weak_freeze o (fun hm => by have := hk o hm; omega) ty sz n f hr
 · exact ⟨hi, Weak.refl _ _⟩
theorem frzAll_ok [Glb] {h0 : AH} (hk : ∀ o ∈ fo, o < k) : ∀ (l : List Nat) (st : ESt), (∀ o ∈ l, k ≤ o) → Inv nt h0 st → Inv nt h0 (frzAll l st) ∧ Weak fo (sD st.s) (hD st.v) (sD (frzAll l st).s) (hD (frzAll l st).v)
 | [], st, _, hi => ⟨hi, Weak.refl _ _⟩
 | o :: r, st, hl, hi => by
   obtain ⟨h1, h2⟩ := frzAt_ok (fo := fo) (o := o) hk (hl o (by simp)) hi
   obtain ⟨h3, h4⟩ := frzAll_ok hk r (frzAt o st) (fun o ho => hl o (by simp [ho])) h1
   exact ⟨h3, h2.trans h4⟩
theorem needF_ge {S : List (List AV)} {V : List AObj} : ∀ (l : List Oper) (tr : List (Nat × List Nat)), ∀ o ∈ needF S V k l tr, k ≤ o
 | [], tr, o, ho => by simp [needF] at ho
 | a :: r, tr, o, ho => by
   have rows : ∀ (l : List Nat), o ∈ (l.filter fun o => decide (k ≤ o) && isRow (hD V o)) → k ≤ o := fun l h => by
     rw [List.mem_filter, Bool.and_eq_true, decide_eq_true_eq] at h
     exact h.2.1
   unfold needF at ho
   simp only at ho
   split at ho
   all_goals first
     | exact needF_ge r _ o ho
     | (rcases List.mem_append.1 ho with h | h
        · first
          | exact rows _ h
          | (split at h
             · exact rows _ h
             · cases h)
        · exact needF_ge r _ o h)
theorem frame_es {h0 : AH} {st : ESt} {es : List (Nat × AObj)} (hf : ∀ o, o ∉ st.d → hD st.v o = h0 o) : ∀ o, o ∉ es.map (·.1) ++ st.d → hD (setEs st.v es) o = h0 o := by
 intro o ho
 simp only [List.mem_append, not_or] at ho
 rw [hD_setEs, appEs_out (h := h0) ho.1]
 exact hf o ho.2
theorem eSeqL_ok [Glb] {call : CallFn} (hcl : CallFnOk P call) {ops : Array Oper} {h0 : AH} : ∀ (l : List Oper) (st st' : ESt), eSeqL P call nt ops l st = some st' → Inv nt h0 st → Inv nt h0 st' ∧ (Q .normal (sD st'.s) (hD st'.v) → AWpL P nt fo ops l Q (sD st.s) (hD st.v))
 | [], st, st', h, hi => by
   simp only [eSeqL, Option.some.injEq] at h
   subst h
   exact ⟨hi, awpl_end⟩
 | o :: r, st, st', h, hi => by
   simp only [eSeqL] at h
   split at h
   · rename_i x es hs
     have hdk : dOk nt o.dst = true := by
       unfold eStep at hs
       exact (ite_some hs).1
     obtain ⟨h1, h2⟩ := eSeqL_ok hcl r _ st' h ⟨okS_set hi.len _ _ hdk, frame_es hi.frame⟩
     refine ⟨h1, fun hq => ?_⟩
     have := h2 hq
     rw [sD_setS hi.len hdk, hD_setEs] at this
     exact eStep_ok hcl (Ext.refl _) (fun p _ hg => hg) hs r Q this
   · cases h
theorem runV_frame {h0 : AH} : ∀ (rs : List DR) (V : List AObj) (d : List Nat), (∀ o, o ∉ d → hD V o = h0 o) → ∀ o, o ∉ rs.flatMap DR.keys ++ d → hD (runV V rs) o = h0 o
 | [], V, d, h, o, ho => h o (by simpa using ho)
 | r :: rs, V, d, h, o, ho => by
   rw [runV]
   refine runV_frame rs (setEs V r.es) (r.keys ++ d) (fun q hq => ?_) o ?_
   · simp only [List.mem_append, not_or] at hq
     rw [hD_setEs, appEs_out (h := h0) hq.1]
     exact h q hq.2
   · simp only [List.flatMap_cons, List.mem_append, not_or] at ho ⊢
     exact ⟨ho.1.2, ho.1.1, ho.2⟩
theorem eDraw2_ok {call : CallFn} {ops : List Oper} {st : ESt} {rs : List DR × List (List AV) × List AObj} (h : eDraw2 P call nt ops st = some rs) : ∃ ex, eDrawL P call nt ops.toArray (ancL ops []) ex ops 0 st.s st.v [] = some rs ∧ chkDraw (ancL ops []) rs.1 = true := by
 unfold eDraw2 at h
 split at h
 · rename_i rs' h1
   split at h
   · rename_i hc
     simp only [Option.some.injEq] at h
     subst h
     exact ⟨_, h1, hc⟩
   · unfold eDrawn at h
     split at h
     · rename_i rs'' h2
       obtain ⟨hc, h⟩ := ite_some h
       simp only [Option.some.injEq] at h
       subst h
       exact ⟨_, h2, hc⟩
     · cases h
 · cases h
theorem drawn_dok {call : CallFn} {ops : List Oper} {an ex : List (List Nat)} {S : List (List AV)} {V : List AObj} {rs : List DR} {S' : List (List AV)} {V' : List AObj} (h : eDrawL P call nt ops.toArray an ex ops 0 S V [] = some (rs, S', V')) : ∀ p ∈ ops.zip rs, dOk nt p.1.dst = true := by
 intro p hp
 obtain ⟨k, hk⟩ := List.getElem?_of_mem hp
 rw [List.getElem?_zip_eq_some] at hk
 have := ((eDrawL_spec h).2 k _ _ hk.1 hk.2).1
 unfold eStep at this
 exact (ite_some this).1
theorem eRegion_ok [Glb] (hf : P.follows .mixedOrders = true) {call : CallFn} (hcl : CallFnOk P call) (hk : ∀ o ∈ fo, o < k) {id : Nat} {ops : Array Oper} {draw : Bool} {h0 : AH} {st st' : ESt} (h : eRegion P call nt k ops draw st = some st') (hi : Inv nt h0 st) :
   Inv nt h0 st' ∧ (Q .normal (sD st'.s) (hD st'.v) → AWp P nt fo (.region id ops draw) Q (sD st.s) (hD st.v)) := by
 unfold eRegion at h
 simp only at h
 have hfr : Inv nt h0 (if hasB ops.toList then frzAll (needF st.s st.v k ops.toList []) st else st) ∧ Weak fo (sD st.s) (hD st.v) (sD (if hasB ops.toList then frzAll (needF st.s st.v k ops.toList []) st else st).s) (hD (if hasB ops.toList then frzAll (needF st.s st.v k ops.toList []) st else st).v) := by
   split
   · exact frzAll_ok (nt := nt) (fo := fo) (h0 := h0) hk _ st (needF_ge ops.toList []) hi
   · exact ⟨hi, Weak.refl _ _⟩
 obtain ⟨hi1, hw⟩ := hfr
 generalize (if hasB ops.toList then frzAll (needF st.s st.v k ops.toList []) st else st) = st1 at h hi1 hw
 split at h
 · rename_i hd
   subst hd
   obtain ⟨hs, h⟩ := ite_some h
   split at h
   · rename_i rs S' V' hr
     simp only [Option.some.injEq] at h
     subst h
     obtain ⟨ex, h1, h2⟩ := eDraw2_ok hr
     obtain ⟨⟨_, hS', hV'⟩, _⟩ := eDrawL_spec h1
     refine ⟨⟨by rw [hS']; exact okS_run _ (drawn_dok h1) hi1.len, by rw [hV']; exact runV_frame _ _ _ hi1.frame⟩, fun hq => AWp.weak hw ?_⟩
     have := awp_draw (fo := fo) (Q := Q) hf hcl (id := id) hs hi1.len h1 h2 hq
     simpa using this
   · cases h
 · rename_i hd
   have hd' : draw = false := by simpa using hd
   subst hd'
   obtain ⟨h1, h2⟩ := eSeqL_ok (fo := fo) (Q := Q) hcl ops.toList st1 st' h hi1
   refine ⟨h1, fun hq => AWp.weak hw ?_⟩
   have := awp_regL (id := id) (ops := ops.toList) (by simpa using h2 hq)
   simpa using this
def ARounds [Glb] (P : Program) (nt : Nat) (fo : List Nat) (c : Code) (Q : APost) : Nat → Slots → AH → Prop
 | 0, _, _ => False
 | n + 1, s, h => AWp P nt fo c (thenQ (ARounds P nt fo c Q n) Q) s h
theorem awp_rounds [Glb] {c : Code} {n : Nat} {s : Slots} {h : AH} (hr : ARounds P nt fo c Q n s h) : AWp P nt fo (.loop c) Q s h := by
 intro E a w I R
 refine wp_loop_rounds n ?_
 induction n generalizing s h a w with
 | zero => exact hr.elim
 | succ n ih =>
   rw [rounds_succ]
   refine wp_mono (hr E a w I R) fun e a' w' ⟨s', h', q, R'⟩ => ?_
   cases e with
   | normal => exact ih q a' w' R'
   | _ => exact ⟨s', h', q, R'⟩
theorem eCode_ok [Glb] (hf : P.follows .mixedOrders = true) {call : CallFn} (hcl : CallFnOk P call) (hk : ∀ o ∈ fo, o < k) {h0 : AH} : ∀ (n : Nat) (c : Code) (st : ESt) (e : Exit) (st' : ESt), eCode P call nt k n c st = some (e, st') → Inv nt h0 st →
   Inv nt h0 st' ∧ (∀ Q : APost, Q e (sD st'.s) (hD st'.v) → AWp P nt fo c Q (sD st.s) (hD st.v)) ∧ ∀ c', c = .loop c' → ∀ Q : APost, Q e (sD st'.s) (hD st'.v) → ∃ m, ARounds P nt fo c' Q m (sD st.s) (hD st.v)
 | 0, c, st, e, st', h, _ => by simp [eCode] at h
 | n + 1, c, st, e, st', h, hi => by
   rw [eCode] at h
   have IH := eCode_ok hf hcl hk (h0 := h0) n
   cases c with
   | skip =>
     simp only [eCodeF, Option.some.injEq, Prod.mk.injEq] at h
     obtain ⟨rfl, rfl⟩ := h
     exact ⟨hi, fun Q hq => awp_skip hq, fun c' e => by cases e⟩
   | region id ops draw =>
     simp only [eCodeF] at h
     obtain ⟨st1, h1, h2⟩ := map_some h
     simp only [Prod.mk.injEq] at h2
     obtain ⟨rfl, rfl⟩ := h2
     exact ⟨(eRegion_ok (Q := fun _ _ _ => True) (fo := fo) (id := id) hf hcl hk h1 hi).1, fun Q hq => (eRegion_ok hf hcl hk h1 hi).2 hq, fun c' e => by cases e⟩
   | seq a b =>
     simp only [eCodeF] at h
     refine (fun q => ⟨q.1, q.2, fun c' e => by cases e⟩) (show Inv nt h0 st' ∧ (∀ Q : APost, Q e (sD st'.s) (hD st'.v) → AWp P nt fo (.seq a b) Q (sD st.s) (hD st.v)) from ?_)
     split at h
     · rename_i st1 h1
       obtain ⟨i1, w1, _⟩ := IH a st .normal st1 h1 hi
       obtain ⟨i2, w2, _⟩ := IH b st1 e st' h i1
       exact ⟨i2, fun Q hq => awp_seq (w1 _ (w2 Q hq))⟩
     · rename_i hne
       obtain ⟨i1, w1, _⟩ := IH a st e st' h hi
       refine ⟨i1, fun Q hq => awp_seq (w1 _ ?_)⟩
       cases e with
       | normal => exact absurd h (hne st')
       | _ => exact hq
   | cond c x y =>
     simp only [eCodeF] at h
     refine (fun q => ⟨q.1, q.2, fun c' e => by cases e⟩) (show Inv nt h0 st' ∧ (∀ Q : APost, Q e (sD st'.s) (hD st'.v) → AWp P nt fo (.cond c x y) Q (sD st.s) (hD st.v)) from ?_)
     split at h
     · rename_i b hb
       obtain ⟨i1, w1, _⟩ := IH _ st e st' h hi
       exact ⟨i1, fun Q hq => awp_cond (AV.bool_ok hb) (fun e => by subst e; exact w1 Q hq) fun e => by subst e; exact w1 Q hq⟩
     · cases h
   | block id c =>
     simp only [eCodeF] at h
     refine (fun q => ⟨q.1, q.2, fun c' e => by cases e⟩) (show Inv nt h0 st' ∧ (∀ Q : APost, Q e (sD st'.s) (hD st'.v) → AWp P nt fo (.block id c) Q (sD st.s) (hD st.v)) from ?_)
     split at h
     · rename_i j st1 h1
       obtain ⟨i1, w1, _⟩ := IH c st (.exit j) st1 h1 hi
       split at h
       · rename_i hj
         simp only [Option.some.injEq, Prod.mk.injEq] at h
         obtain ⟨rfl, rfl⟩ := h
         exact ⟨i1, fun Q hq => awp_block (w1 _ (by simp only [blockQ, hj, if_true]; exact hq))⟩
       · rename_i hj
         simp only [Option.some.injEq, Prod.mk.injEq] at h
         obtain ⟨rfl, rfl⟩ := h
         exact ⟨i1, fun Q hq => awp_block (w1 _ (by simp only [blockQ, hj, if_false]; exact hq))⟩
     · rename_i hne
       obtain ⟨i1, w1, _⟩ := IH c st e st' h hi
       refine ⟨i1, fun Q hq => awp_block (w1 _ ?_)⟩
       cases e with
       | exit j => exact absurd h (hne j st')
       | _ => exact hq
   | loop c =>
     simp only [eCodeF] at h
     refine (fun q => ⟨q.1, fun Q hq => (q.2 Q hq).elim fun m hm => awp_rounds hm, fun c' e => by cases e; exact q.2⟩) (show Inv nt h0 st' ∧ (∀ Q : APost, Q e (sD st'.s) (hD st'.v) → ∃ m, ARounds P nt fo c Q m (sD st.s) (hD st.v)) from ?_)
     split at h
     · rename_i st1 h1
       obtain ⟨i1, w1, _⟩ := IH c st .normal st1 h1 hi
       obtain ⟨i2, _, w2⟩ := IH (.loop c) st1 e st' h i1
       refine ⟨i2, fun Q hq => ?_⟩
       obtain ⟨m, hm⟩ := w2 c rfl Q hq
       exact ⟨m + 1, w1 _ hm⟩
     · rename_i hne
       obtain ⟨i1, w1, _⟩ := IH c st e st' h hi
       refine ⟨i1, fun Q hq => ⟨1, w1 _ ?_⟩⟩
       cases e with
       | normal => exact absurd h (hne st')
       | _ => exact hq
   | exit id =>
     simp only [eCodeF, Option.some.injEq, Prod.mk.injEq] at h
     obtain ⟨rfl, rfl⟩ := h
     exact ⟨hi, fun Q hq => awp_exit hq, fun c' e => by cases e⟩
   | ret =>
     simp only [eCodeF, Option.some.injEq, Prod.mk.injEq] at h
     obtain ⟨rfl, rfl⟩ := h
     exact ⟨hi, fun Q hq => awp_ret hq, fun c' e => by cases e⟩
   | _ => simp [eCodeF] at h
end
end Go.Am
namespace Go.Am
open Go.RowKit
def mkS : Nat → List AV → List (List AV)
 | 0, _ => []
 | n + 1, l => (l.take 8 ++ List.replicate (8 - (l.take 8).length) (.c .any)) :: mkS n (l.drop 8)
theorem mkS_len : ∀ (n : Nat) (l : List AV), (mkS n l).length = n ∧ ∀ c ∈ mkS n l, c.length = 8
 | 0, _ => ⟨rfl, fun c hc => by cases hc⟩
 | n + 1, l => by
   obtain ⟨h1, h2⟩ := mkS_len n (l.drop 8)
   refine ⟨by simp [mkS, h1], fun c hc => ?_⟩
   rcases List.mem_cons.1 hc with rfl | hc
   · simp; omega
   · exact h2 c hc
theorem mkS_get : ∀ (n : Nat) (l : List AV) (t : Nat), l.length ≤ 8 * n → ((mkS n l).getD (t / 8) []).getD (t % 8) (.c .any) = l.getD t (.c .any)
 | 0, l, t, h => by
   have : l = [] := List.eq_nil_of_length_eq_zero (by omega)
   subst this
   simp [mkS]
 | n + 1, l, t, h => by
   by_cases ht : t < 8
   · have e1 : t / 8 = 0 := by omega
     have e2 : t % 8 = t := by omega
     rw [e1, e2]
     show (l.take 8 ++ List.replicate (8 - (l.take 8).length) (AV.c .any)).getD t (AV.c .any) = _
     rw [List.getD_eq_getElem?_getD, List.getD_eq_getElem?_getD]
     by_cases hl : t < l.length
     · rw [List.getElem?_append_left (by simp; omega), List.getElem?_take, if_pos ht]
     · rw [List.getElem?_append_right (by simp; omega), List.getElem?_eq_none (l := l) (by omega), List.getElem?_replicate]
       split <;> rfl
   · have e1 : t / 8 = (t - 8) / 8 + 1 := by omega
     have e2 : t % 8 = (t - 8) % 8 := by omega
     rw [e1, e2]
     show ((mkS n (l.drop 8)).getD ((t - 8) / 8) []).getD _ _ = _
     rw [mkS_get n (l.drop 8) (t - 8) (by rw [List.length_drop]; omega), List.getD_eq_getElem?_getD, List.getD_eq_getElem?_getD, List.getElem?_drop]
     congr 2
     omega
noncomputable def eRes (P : Program) (s : Slots) (h : AH) : List ResultVar → Option (List AV)
 | [] => some []
 | .tmp t :: r => match (s t).val, eRes P s h r with
   | some x, some xs => some (x :: xs)
   | _, _ => none
 | .cell t ty :: r => match eload P h ty (s t), eRes P s h r with
   | some x, some xs => some (x :: xs)
   | _, _ => none
theorem eRes_ok [Glb] {P : Program} {s : Slots} {h : AH} : ∀ {l : List ResultVar} {xs : List AV}, eRes P s h l = some xs → retAll P s h l xs
 | [], xs, e => by
   simp only [eRes, Option.some.injEq] at e
   subst e
   trivial
 | .tmp t :: r, xs, e => by
   simp only [eRes] at e
   split at e
   · rename_i x ys h1 h2
     simp only [Option.some.injEq] at e
     subst e
     obtain ⟨w1, e1⟩ := AV.val_ok h1
     exact ⟨⟨w1, e1.symm⟩, eRes_ok h2⟩
   · cases e
 | .cell t ty :: r, xs, e => by
   simp only [eRes] at e
   split at e
   · rename_i x ys h1 h2
     simp only [Option.some.injEq] at e
     subst e
     exact ⟨eload_ok (y := .tmp t) h1, eRes_ok h2⟩
   · cases e
def maxL : List Nat → Nat
 | [] => 0
 | a :: r => max (a + 1) (maxL r)
theorem maxL_lt : ∀ (l : List Nat), ∀ o ∈ l, o < maxL l
 | a :: r, o, h => by
   rw [maxL]
   rcases List.mem_cons.1 h with rfl | h
   · omega
   · have := maxL_lt r o h; omega
noncomputable def keepV (fo : List Nat) (V : List AObj) (m : Nat) : List AObj := (List.range m).map fun o => if o ∈ fo then hD V o else .gone
theorem keepV_eq {fo : List Nat} {V : List AObj} {m : Nat} (h : ∀ o ∈ fo, o < m) : hD (keepV fo V m) = keepH fo (hD V) := by
 funext o
 rw [hD_def]
 simp only [keepV, keepH, List.getD_eq_getElem?_getD, List.getElem?_map]
 by_cases ho : o ∈ fo
 · rw [List.getElem?_range (h o ho)]; simp [ho]
 · rw [if_neg ho]
   by_cases hm : o < m
   · rw [List.getElem?_range hm]; simp [ho]
   · rw [List.getElem?_eq_none (by simp; omega)]; rfl
noncomputable def eFin (fo : List Nat) (k : Nat) (st : ESt) (y : AV) : Option (AV × List AObj × List Nat) :=
 if (fo.all fun o => boxIn fo (hD st.v o)) then some (y, keepV fo st.v (max k (maxL fo)), st.d.filter fun o => decide (o ∈ fo)) else none
noncomputable def leadsBox (V : List AObj) (x : AV) : Bool := x.refsw.any fun o => !isRow (hD V o)
noncomputable def eRetT (P : Program) (fn : Func) (fo : List Nat) (k : Nat) (st : ESt) : Option (AV × List AObj × List Nat) := match eRes P (sD st.s) (hD st.v) fn.results.toList with
 | some xs => if xs.all fun x => x.refsw.all fun o => !decide (o ∈ fo) then eFin fo k st (.c (tupled (xs.map fun x => x.view (hD st.v)))) else none
 | none => none
noncomputable def eRet (P : Program) (fn : Func) (k : Nat) (fo : List Nat) (st : ESt) : Option (AV × List AObj × List Nat) := match eRes P (sD st.s) (hD st.v) fn.results.toList with
 | some [x] => if x.refsw.all fun o => decide (o ∈ fo) then eFin fo k st x
   else if leadsBox st.v x then eRetT P fn fo k (frzAll ((List.range st.v.length).filter fun o => decide (k ≤ o) && !decide (o ∈ fo)) st) else eRetT P fn fo k st
 | some xs => if xs.any (leadsBox st.v) then eRetT P fn fo k (frzAll ((List.range st.v.length).filter fun o => decide (k ≤ o) && !decide (o ∈ fo)) st) else eRetT P fn fo k st
 | none => none
noncomputable def resRefs (P : Program) (fn : Func) (st : ESt) : List Nat := match eRes P (sD st.s) (hD st.v) fn.results.toList with
 | some [x] => x.refsw
 | _ => []
noncomputable def eFrame (P : Program) (kp : FuncId → Bool) (fuel : Nat) (call : CallFn) (f : FuncId) (xs : List AV) (V : List AObj) : Option (AV × List AObj × List Nat) := match P.funcs[f]? with
 | some fn => match fn.body with
   | some c => if (fn.name == "runtime.NumGoroutine") = false ∧ xs.length ≤ fn.ntmps then
       match eCode P call fn.ntmps V.length fuel c ⟨mkS (fn.ntmps / 8 + 1) xs, V, []⟩ with
       | some (.ret, st) => eRet P fn V.length (closR st.v 10 (nonGone V ++ (if kp f then resRefs P fn st else []))) st
       | some (.normal, st) => eRet P fn V.length (closR st.v 10 (nonGone V ++ (if kp f then resRefs P fn st else []))) st
       | _ => none
     else none
   | none => none
 | none => none
noncomputable def eCall (P : Program) (kp : FuncId → Bool) (K : CallFn) (fuel : Nat) : Nat → CallFn
 | 0 => fun _ _ _ => none
 | n + 1 => fun f xs V => match K f xs V with
   | some r => some r
   | none => eFrame P kp fuel (eCall P kp K fuel n) f xs V
section
variable {P : Program}
theorem AWp.post [Glb] {nt : Nat} {fo : List Nat} {c : Code} {Q Q' : APost} {s : Slots} {h : AH} (hc : AWp P nt fo c Q s h) (hq : ∀ e s h, Q e s h → ∃ s' h', Weak fo s h s' h' ∧ Q' e s' h') : AWp P nt fo c Q' s h := fun E a w I R =>
 wp_mono (hc E a w I R) fun e a' w' ⟨s', h', q, R'⟩ => by
   obtain ⟨s2, h2, hw, q2⟩ := hq _ _ _ q
   exact ⟨s2, h2, q2, hw E nt a' w' I R'⟩
theorem eRet_ok [Glb] {fn : Func} {V0 : List AObj} {fo : List Nat} (hfo : ∀ o ∈ nonGone V0, o ∈ fo) {nt : Nat} {st : ESt} {y : AV} {V' : List AObj} {D' : List Nat} (hi : Inv nt (hD V0) st) (h : eRet P fn V0.length fo st = some (y, V', D')) :
   (∃ st1 : ESt, Weak (nonGone V0) (sD st.s) (hD st.v) (sD st1.s) (hD st1.v) ∧ FRetQ P fn fo (fun out h1 => out = .ret y ∧ h1 = hD V') .ret (sD st1.s) (hD st1.v)) ∧ ∀ o, o ∉ D' → hD V' o = hD V0 o := by
 have hlt : ∀ o ∈ nonGone V0, o < V0.length := fun o ho => hD_lt (nonGone_iff.1 ho)
 have fin : ∀ (st1 : ESt) (z : AV), Inv nt (hD V0) st1 → eFin fo V0.length st1 z = some (y, V', D') → z = y ∧ (fo.all fun o => boxIn fo (hD st1.v o)) = true ∧ keepH fo (hD st1.v) = hD V' ∧ ∀ o, o ∉ D' → hD V' o = hD V0 o := by
   intro st1 z hi1 he
   unfold eFin at he
   obtain ⟨hb, he⟩ := ite_some he
   simp only [Option.some.injEq, Prod.mk.injEq] at he
   obtain ⟨rfl, rfl, rfl⟩ := he
   have hk : hD (keepV fo st1.v (max V0.length (maxL fo))) = keepH fo (hD st1.v) := keepV_eq fun o ho => by have := maxL_lt fo o ho; omega
   refine ⟨rfl, hb, hk.symm, fun o ho => ?_⟩
   rw [hk]
   unfold keepH
   split
   · rename_i hm
     exact hi1.frame o fun hd => ho (List.mem_filter.2 ⟨hd, by simpa using hm⟩)
   · rename_i hm
     by_cases hg : hD V0 o = .gone
     · exact hg.symm
     · exact absurd (hfo o (nonGone_iff.2 hg)) hm
 have tup : ∀ st1 : ESt, Inv nt (hD V0) st1 → eRetT P fn fo V0.length st1 = some (y, V', D') → FRetQ P fn fo (fun out h1 => out = .ret y ∧ h1 = hD V') .ret (sD st1.s) (hD st1.v) ∧ ∀ o, o ∉ D' → hD V' o = hD V0 o := by
   intro st1 hi1 he
   unfold eRetT at he
   split at he
   · rename_i xs hx
     obtain ⟨hn, he⟩ := ite_some he
     obtain ⟨rfl, hb, hk, hfr⟩ := fin st1 _ hi1 he
     refine ⟨⟨hb, xs, eRes_ok hx, .inl ⟨_, fun x hx o ho => ?_, CV.Sub.refl _, rfl, hk⟩⟩, hfr⟩
     rw [List.all_eq_true] at hn
     have h1 := hn x hx
     rw [List.all_eq_true] at h1
     simpa using h1 o ho
   · cases he
 have frz := fun (st1 : ESt) (hi1 : Inv nt (hD V0) st1) => frzAll_ok (nt := nt) (fo := nonGone V0) (k := V0.length) (h0 := hD V0) hlt ((List.range st1.v.length).filter fun o => decide (V0.length ≤ o) && !decide (o ∈ fo)) st1 (fun o ho => by
   rw [List.mem_filter, Bool.and_eq_true, decide_eq_true_eq] at ho
   exact ho.2.1) hi1
 have two : (∃ b : Bool, (if b then eRetT P fn fo V0.length (frzAll ((List.range st.v.length).filter fun o => decide (V0.length ≤ o) && !decide (o ∈ fo)) st) else eRetT P fn fo V0.length st) = some (y, V', D')) →
     (∃ st1 : ESt, Weak (nonGone V0) (sD st.s) (hD st.v) (sD st1.s) (hD st1.v) ∧ FRetQ P fn fo (fun out h1 => out = .ret y ∧ h1 = hD V') .ret (sD st1.s) (hD st1.v)) ∧ ∀ o, o ∉ D' → hD V' o = hD V0 o := by
   rintro ⟨b, hb⟩
   cases b with
   | true =>
     obtain ⟨i1, w1⟩ := frz st hi
     obtain ⟨q1, q2⟩ := tup _ i1 hb
     exact ⟨⟨_, w1, q1⟩, q2⟩
   | false =>
     obtain ⟨q1, q2⟩ := tup _ hi hb
     exact ⟨⟨st, Weak.refl _ _, q1⟩, q2⟩
 unfold eRet at h
 split at h
 · rename_i x hx
   split at h
   · rename_i hin
     obtain ⟨rfl, hb, hk, hfr⟩ := fin st _ hi h
     refine ⟨⟨st, Weak.refl _ _, hb, [x], eRes_ok hx, .inr ⟨x, rfl, fun o ho => ?_, rfl, hk⟩⟩, hfr⟩
     rw [List.all_eq_true] at hin
     simpa using hin o ho
   · exact two ⟨_, h⟩
 · exact two ⟨_, h⟩
 · cases h
theorem eFrame_ok [Glb] (hf : P.follows .mixedOrders = true) {kp : FuncId → Bool} {fuel : Nat} {call : CallFn} (hcl : CallFnOk P call) {f : FuncId} {xs : List AV} {V : List AObj} {y : AV} {V' : List AObj} {D' : List Nat} (h : eFrame P kp fuel call f xs V = some (y, V', D')) : CallOk P f xs V y V' D' := by
 unfold eFrame at h
 split at h
 · rename_i fn hfn
   split at h
   · rename_i c hc
     obtain ⟨⟨hn, hl⟩, h⟩ := ite_some h
     have hlt : ∀ o ∈ nonGone V, o < V.length := fun o ho => hD_lt (nonGone_iff.1 ho)
     have hi : Inv fn.ntmps (hD V) ⟨mkS (fn.ntmps / 8 + 1) xs, V, []⟩ := ⟨⟨by rw [(mkS_len _ _).1]; omega, (mkS_len _ _).2⟩, fun o _ => rfl⟩
     have hent : sD (mkS (fn.ntmps / 8 + 1) xs) = entryA xs := by
       funext t
       rw [sD_def, mkS_get _ _ _ (by omega)]
       rfl
     have fin : ∀ (e : Exit) (st : ESt), (e = .ret ∨ e = .normal) → eCode P call fn.ntmps V.length fuel c ⟨mkS (fn.ntmps / 8 + 1) xs, V, []⟩ = some (e, st) → eRet P fn V.length (closR st.v 10 (nonGone V ++ (if kp f then resRefs P fn st else []))) st = some (y, V', D') → CallOk P f xs V y V' D' := by
       intro e st he hcode hret
       obtain ⟨i1, w1, _⟩ := eCode_ok (fo := nonGone V) hf hcl hlt fuel c _ e st hcode hi
       have hsub : ∀ o ∈ nonGone V, o ∈ closR st.v 10 (nonGone V ++ (if kp f then resRefs P fn st else [])) := fun o ho => closR_sub 10 _ o (List.mem_append_left _ ho)
       obtain ⟨⟨st1, hw, hq⟩, hfr⟩ := eRet_ok (P := P) (fn := fn) hsub i1 hret
       refine ⟨afun_of0 (fo := closR st.v 10 (nonGone V ++ (if kp f then resRefs P fn st else []))) hfn hc hn hl (fun o ho => nonGone_iff.2 ho) (fun o ho => hsub o (nonGone_iff.2 ho)) ?_, hfr⟩
       rw [← hent]
       refine AWp.post (w1 (fun e' s' h' => e' = e ∧ s' = sD st.s ∧ h' = hD st.v) ⟨rfl, rfl, rfl⟩) fun e' s' h' q => ?_
       obtain ⟨rfl, rfl, rfl⟩ := q
       refine ⟨_, _, hw, ?_⟩
       rcases he with rfl | rfl
       · exact hq
       · exact hq
     split at h
     · rename_i st hcode
       exact fin _ st (.inl rfl) hcode h
     · rename_i st hcode
       exact fin _ st (.inr rfl) hcode h
     · cases h
   · cases h
 · cases h
theorem eCall_ok [Glb] (hf : P.follows .mixedOrders = true) {kp : FuncId → Bool} {K : CallFn} (hK : CallFnOk P K) {fuel : Nat} : ∀ n, CallFnOk P (eCall P kp K fuel n)
 | 0 => fun f xs V y V' D' h => by simp [eCall] at h
 | n + 1 => fun f xs V y V' D' h => by
   simp only [eCall] at h
   split at h
   · rename_i r hr
     simp only [Option.some.injEq] at h
     subst h
     exact hK f xs V _ _ _ hr
   · exact eFrame_ok hf (eCall_ok hf hK n) h
theorem apure_of_afun [Glb] {f : FuncId} {cs : List CV} {r : CV} {h1 : AH} (hf : AFun P f (cs.map AV.c) (fun _ => .gone) fun out h' => out = .ret (.c r) ∧ h' = h1) (hg : ∀ o, h1 o = .gone) : APure P f cs r := by
 refine ⟨hf.1, fun Z w vs hz hgl hlen hx => ?_⟩
 have h0 : HeapOk w Z (fun _ => .gone) (fun _ => none) := ⟨fun o b K e => (by cases e), fun o o' b K K' e => (by cases e), fun o => rfl⟩
 refine (hf.2 Z w (fun _ => none) vs hz hgl h0 (by simpa using hlen) (fun i hi => ?_)).mono fun e w' ⟨out, h', gs', ⟨e1, e2⟩, hout, hok, hb, hr, hn⟩ => ?_
 · have hi' : i < cs.length := by simpa using hi
   have e : (cs.map AV.c).getD i default = .c (cs.getD i .any) := by rw [getD_lt hi, List.getElem_map, getD_lt hi']
   rw [e]
   exact .c _ _ ((hx i hi').less fun b hb => by
     rcases hb with hb | ⟨o, K, hb⟩
     · exact hb
     · cases hb)
 · subst e1 e2
   have hgs : ∀ o, gs' o = none := fun o => by
     have := hok.objs o
     rw [hg o] at this
     exact this
   cases e with
   | returned v =>
     refine ⟨v, rfl, ?_, hb.toD fun b hd => (by obtain ⟨o, K, e⟩ := hd; cases e)⟩
     have h2 : RA w' (Zf Z gs') h' gs' v (.c r) := hout
     exact h2.c_inv.less fun b hb' => .inl hb'
   | panicked c => exact hout.elim
   | outgrown => exact hout.elim
end
end Go.Am
namespace Go.Am
open Go.RowKit
noncomputable def eqV : Value → Value → Bool
 | .int k a, .int k' b => decide (k = k') && decide (a = b)
 | .string a, .string b => eqB a.data.toList b.data.toList
 | .bool a, .bool b => a == b
 | .slice none 0 0, .slice none 0 0 => true
 | .pointer none, .pointer none => true
 | .nilIface, .nilIface => true
 | _, _ => false
theorem eqV_ok {a b : Value} (h : eqV a b = true) : a = b := by
 unfold eqV at h
 split at h
 · simp only [Bool.and_eq_true, decide_eq_true_eq] at h
   rw [h.1, h.2]
 · rw [eqB_eq, beq_iff_eq] at h
   congr 1
   apply ByteArray.ext
   exact Array.ext' h
 · rw [beq_iff_eq] at h
   rw [h]
 · rfl
 · rfl
 · rfl
 · cases h
def eqL (e : CV → CV → Bool) : List CV → List CV → Bool
 | [], [] => true
 | x :: xs, y :: ys => e x y && eqL e xs ys
 | _, _ => false
noncomputable def eqC : Nat → CV → CV → Bool
 | 0, _, _ => false
 | _ + 1, _, .any => true
 | _ + 1, .raw a, .raw b => eqV a b
 | n + 1, .agg xs, .agg ys => eqL (eqC n) xs ys
 | n + 1, .tup xs, .tup ys => eqL (eqC n) xs ys
 | n + 1, .im sz k f, .im sz' k' g => decide (k = k') && (decide (k = 0) || (decide (sz = sz') && (List.range k).all fun i => eqL (eqC n) (f i) (g i)))
 | _ + 1, .emp, .im _ k _ => decide (k = 0)
 | _ + 1, .emp, .emp => true
 | n + 1, .ptr xs, .ptr ys => eqL (eqC n) xs ys
 | _ + 1, _, _ => false
theorem eqL_ok {e : CV → CV → Bool} (he : ∀ x y, e x y = true → CV.Sub x y) : ∀ {xs ys : List CV}, eqL e xs ys = true → xs.length = ys.length ∧ ∀ i, i < xs.length → CV.Sub (xs.getD i .any) (ys.getD i .any)
 | [], [], _ => ⟨rfl, fun i hi => absurd hi (Nat.not_lt_zero _)⟩
 | x :: xs, y :: ys, h => by
   simp only [eqL, Bool.and_eq_true] at h
   obtain ⟨h1, h2⟩ := eqL_ok he h.2
   refine ⟨by simp [h1], fun i hi => ?_⟩
   cases i with
   | zero => exact he _ _ h.1
   | succ i => exact h2 i (by simpa using hi)
 | [], _ :: _, h => by simp [eqL] at h
 | _ :: _, [], h => by simp [eqL] at h
theorem eqC_ok : ∀ (n : Nat) (x y : CV), eqC n x y = true → CV.Sub x y
 | 0, x, y, h => by simp [eqC] at h
 | n + 1, x, y, h => by
   have ih := eqC_ok n
   unfold eqC at h
   split at h
   · cases h
   · exact CV.Sub.any _
   · exact CV.Sub.of_eq (by rw [eqV_ok h])
   · rename_i m xs ys hm
     injection hm with hm
     subst hm
     obtain ⟨h1, h2⟩ := eqL_ok ih h
     exact CV.Sub.agg h1 h2
   · rename_i m xs ys hm
     injection hm with hm
     subst hm
     obtain ⟨h1, h2⟩ := eqL_ok ih h
     exact CV.Sub.tup h1 h2
   · rename_i m sz k f sz' k' g hm
     injection hm with hm
     subst hm
     simp only [Bool.and_eq_true, Bool.or_eq_true, decide_eq_true_eq, List.all_eq_true, List.mem_range] at h
     obtain ⟨rfl, h⟩ := h
     rcases h with h | h
     · exact CV.Sub.im0 h h
     · obtain ⟨rfl, h⟩ := h
       intro w Z v r
       cases r with
       | nul => exact .nul _ _ _ _
       | im a _ c _ _ gg hb hlt hnc hc ho hf hh =>
         refine .im a k c sz g gg hb hlt hnc hc ho (fun i hi => ?_) (fun i j hi hj => ?_)
         · rw [← (eqL_ok ih (h i hi)).1]; exact hf i hi
         · exact (eqL_ok ih (h i hi)).2 j (by rw [hf i hi]; exact hj) _ _ _ (hh i j hi hj)
   · rw [decide_eq_true_eq] at h
     exact CV.Sub.emp h
   · exact CV.Sub.refl _
   · rename_i m xs ys hm
     injection hm with hm
     subst hm
     obtain ⟨h1, h2⟩ := eqL_ok ih h
     intro w Z v r
     cases r with
     | ptr a _ g hb hlt hc ho hh => exact .ptr a ys g hb hlt (fun j hj => hc j (by omega)) (fun j hj => ho j (by omega)) fun j hj => h2 j (by omega) _ _ _ (hh j (by omega))
   · cases h
noncomputable def asC : AV → CV → Bool
 | .c x, y => eqC 12 x y
 | .emp, .im _ k _ => decide (k = 0)
 | .emp, .emp => true
 | .agg xs, y => match closedL xs with
   | some l => eqC 12 (.agg l) y
   | none => false
 | _, _ => false
noncomputable def asCL : List AV → List CV → Bool
 | [], [] => true
 | x :: xs, y :: ys => asC x y && asCL xs ys
 | _, _ => false
theorem closedL_ra {w : World} {Z : Nat → Prop} {h : AH} {gs : Gs} : ∀ {xs : List AV} {l : List CV}, closedL xs = some l → xs.length = l.length ∧ ∀ i, i < xs.length → ∀ v, RA w Z h gs v (xs.getD i default) → RC w Z v (l.getD i .any)
 | [], l, e => by
   simp only [closedL, Option.some.injEq] at e
   subst e
   exact ⟨rfl, fun i hi => absurd hi (Nat.not_lt_zero _)⟩
 | x :: xs, l, e => by
   simp only [closedL] at e
   split at e
   · rename_i y ys h1 h2
     simp only [Option.some.injEq] at e
     subst e
     obtain ⟨q1, q2⟩ := closedL_ra (w := w) (Z := Z) (h := h) (gs := gs) h2
     refine ⟨by simp [q1], fun i hi v hv => ?_⟩
     cases i with
     | zero => exact hv.closed1_of h1
     | succ i => exact q2 i (by simpa using hi) v hv
   · cases e
theorem asC_ok {x : AV} {y : CV} (h : asC x y = true) {w : World} {Z : Nat → Prop} {hh : AH} {gs : Gs} {v : Value} (hv : RA w Z hh gs v x) : RC w Z v y := by
 unfold asC at h
 split at h
 · exact eqC_ok _ _ _ h _ _ _ hv.c_inv
 · rw [decide_eq_true_eq] at h
   subst h
   cases hv with
   | emp A => exact .nul _ _ _ _
 · cases hv with
   | emp A => exact .emp _
 · split at h
   · rename_i l hl
     cases hv with
     | agg cs _ hlen ho hhh =>
       obtain ⟨q1, q2⟩ := closedL_ra (w := w) (Z := Z) (h := hh) (gs := gs) hl
       exact eqC_ok _ _ _ h _ _ _ (.agg cs l (hlen.trans q1) (fun i hi => ho i (by omega)) fun i hi => q2 i (by omega) _ (hhh i (by omega)))
   · cases h
 · cases h
theorem asCL_ok : ∀ {xs : List AV} {ys : List CV}, asCL xs ys = true → xs.length = ys.length ∧ ∀ i, i < xs.length → asC (xs.getD i default) (ys.getD i .any) = true
 | [], [], _ => ⟨rfl, fun i hi => absurd hi (Nat.not_lt_zero _)⟩
 | x :: xs, y :: ys, h => by
   simp only [asCL, Bool.and_eq_true] at h
   obtain ⟨h1, h2⟩ := asCL_ok h.2
   refine ⟨by simp [h1], fun i hi => ?_⟩
   cases i with
   | zero => exact h.1
   | succ i => exact h2 i (by simpa using hi)
 | [], _ :: _, h => by simp [asCL] at h
 | _ :: _, [], h => by simp [asCL] at h
theorem callOk_of_pure [Glb] {P : Program} {f : FuncId} {xs : List AV} {cs : List CV} {r : CV} (hp : APure P f cs r) (h : asCL xs cs = true) : CallOk P f xs [] (.c r) [] [] := by
 obtain ⟨h1, h2⟩ := asCL_ok h
 have hg : hD [] = fun _ => AObj.gone := rfl
 refine ⟨?_, fun o _ => rfl⟩
 rw [hg]
 have ha := AFun.of_pure hp
 refine ⟨ha.1, fun Z w gs vs q1 q2 q3 q4 q5 => ha.2 Z w gs vs q1 q2 q3 (by rw [q4, h1, List.length_map]) fun i hi => ?_⟩
 rw [List.length_map] at hi
 have e : (cs.map AV.c).getD i default = .c (cs.getD i .any) := by rw [getD_lt (by simpa using hi), List.getElem_map, getD_lt hi]
 rw [e]
 exact .c _ _ (asC_ok (h2 i (by omega)) (q5 i (by omega)))
structure PC where
 f : FuncId
 cs : List CV
 r : CV
noncomputable def kOf : List PC → CallFn
 | [], _, _, _ => none
 | p :: l, f, xs, V => if p.f = f ∧ V.isEmpty = true ∧ asCL xs p.cs = true then some (.c p.r, [], []) else kOf l f xs V
theorem kOf_ok [Glb] {P : Program} : ∀ {l : List PC}, (∀ p ∈ l, APure P p.f p.cs p.r) → CallFnOk P (kOf l)
 | [], _, f, xs, V, y, V', D', h => by simp [kOf] at h
 | p :: l, hl, f, xs, V, y, V', D', h => by
   simp only [kOf] at h
   split at h
   · rename_i hc
     obtain ⟨rfl, hv, ha⟩ := hc
     have : V = [] := by simpa using hv
     subst this
     simp only [Option.some.injEq, Prod.mk.injEq] at h
     obtain ⟨rfl, rfl, rfl⟩ := h
     exact callOk_of_pure (hl p (by simp)) ha
   · exact kOf_ok (fun p hp => hl p (by simp [hp])) f xs V y V' D' h
noncomputable def kOr (K K' : CallFn) : CallFn := fun f xs V => match K f xs V with
 | some r => some r
 | none => K' f xs V
theorem kOr_ok [Glb] {P : Program} {K K' : CallFn} (h : CallFnOk P K) (h' : CallFnOk P K') : CallFnOk P (kOr K K') := fun f xs V y V' D' e => by
 unfold kOr at e
 split at e
 · rename_i r hr
   simp only [Option.some.injEq] at e
   subst e
   exact h f xs V _ _ _ hr
 · exact h' f xs V _ _ _ e
noncomputable def chkCall (P : Program) (kp : FuncId → Bool) (K : CallFn) (f : FuncId) (cs : List CV) (r : CV) : Bool := match eCall P kp K 1000000 24 f (cs.map AV.c) [] with
 | some (y, V', _) => asC y r && V'.all AObj.isGone
 | none => false
theorem pure_of_chk [Glb] {P : Program} (hf : P.follows .mixedOrders = true) {kp : FuncId → Bool} {K : CallFn} (hK : CallFnOk P K) {f : FuncId} {cs : List CV} {r : CV} (h : chkCall P kp K f cs r = true) : APure P f cs r := by
 unfold chkCall at h
 split at h
 · rename_i y V' D' he
   rw [Bool.and_eq_true] at h
   have hok := eCall_ok hf hK 24 _ _ _ _ _ _ he
   have hg : ∀ o, hD V' o = .gone := fun o => by
     by_cases hlt : o < V'.length
     · have := h.2
       rw [List.all_eq_true] at this
       have h3 := this V'[o] (List.getElem_mem _)
       rw [hD_def, getD_lt hlt]
       exact isGone_iff.1 h3
     · rw [hD_def, List.getD_eq_getElem?_getD, List.getElem?_eq_none (by omega)]; rfl
   refine apure_of_afun (h1 := hD V') ?_ hg
   have h0 : hD [] = fun _ => AObj.gone := rfl
   have hfn := hok.fn
   rw [h0] at hfn
   refine ⟨hfn.1, fun Z w gs vs q1 q2 q3 q4 q5 => (hfn.2 Z w gs vs q1 q2 q3 q4 q5).mono ?_⟩
   rintro e w' ⟨out, h', gs', ⟨rfl, rfl⟩, hout, hrest⟩
   refine ⟨.ret (.c r), _, gs', ⟨rfl, rfl⟩, ?_, hrest⟩
   cases e with
   | returned v => exact .c _ _ (asC_ok h.1 hout)
   | panicked c => exact hout.elim
   | outgrown => exact hout.elim
 · cases h
end Go.Am
namespace Go.Am
open Go.RowKit
noncomputable def flatS : Code → List Code
 | .seq a b => a :: flatS b
 | c => [c]
noncomputable def eList (P : Program) (call : CallFn) (nt k fuel : Nat) : List Code → ESt → Option (Exit × ESt)
 | [], st => some (.normal, st)
 | c :: r, st => match eCode P call nt k fuel c st with
   | some (.normal, st') => eList P call nt k fuel r st'
   | o => o
def RunsL [Glb] (P : Program) (nt : Nat) (V0 : List AObj) (l : List Code) (st : ESt) (e : Exit) (st' : ESt) : Prop :=
 Inv nt (hD V0) st → Inv nt (hD V0) st' ∧ ∀ c, flatS c = l → ∀ Q : APost, Q e (sD st'.s) (hD st'.v) → AWp P nt (nonGone V0) c Q (sD st.s) (hD st.v)
theorem flatS_cons {c a : Code} {r : List Code} (h : flatS c = a :: r) : (r = [] ∧ c = a) ∨ ∃ b, c = .seq a b ∧ flatS b = r := by
 cases c with
 | seq x y =>
   rw [flatS, List.cons.injEq] at h
   exact .inr ⟨y, by rw [h.1], h.2⟩
 | _ =>
   simp only [flatS, List.cons.injEq] at h
   exact .inl ⟨h.2.symm, h.1⟩
theorem flatS_ne (c : Code) : flatS c ≠ [] := by cases c <;> simp [flatS]
theorem eList_app [Glb] {P : Program} (hf : P.follows .mixedOrders = true) {call : CallFn} (hcl : CallFnOk P call) {nt fuel : Nat} {V0 : List AObj} : ∀ {l : List Code} {r : List Code} {st st1 st' : ESt} {e : Exit}, eList P call nt V0.length fuel l st = some (.normal, st1) → RunsL P nt V0 r st1 e st' → r ≠ [] → RunsL P nt V0 (l ++ r) st e st'
 | [], r, st, st1, st', e, h, hr, _ => by
   simp only [eList, Option.some.injEq, Prod.mk.injEq, true_and] at h
   subst h
   exact hr
 | c :: l, r, st, st1, st', e, h, hr, hne => by
   simp only [eList] at h
   split at h
   · rename_i st2 h2
     have ih := eList_app hf hcl h hr hne
     intro hi
     have hlt : ∀ o ∈ nonGone V0, o < V0.length := fun o ho => hD_lt (nonGone_iff.1 ho)
     obtain ⟨i2, w2, _⟩ := eCode_ok (fo := nonGone V0) hf hcl hlt fuel c _ _ _ h2 hi
     obtain ⟨i3, w3⟩ := ih i2
     refine ⟨i3, fun c' hc' Q hq => ?_⟩
     rcases flatS_cons hc' with ⟨h0, _⟩ | ⟨b, rfl, hb⟩
     · exact absurd (List.append_eq_nil_iff.1 h0).2 hne
     · exact awp_seq (w2 _ (w3 b hb Q hq))
   · rename_i o hno
     exact absurd h (hno st1)
theorem eList_end [Glb] {P : Program} (hf : P.follows .mixedOrders = true) {call : CallFn} (hcl : CallFnOk P call) {nt fuel : Nat} {V0 : List AObj} : ∀ {l : List Code} {st st' : ESt} {e : Exit}, l ≠ [] → eList P call nt V0.length fuel l st = some (e, st') → RunsL P nt V0 l st e st'
 | [], st, st', e, hn, _ => absurd rfl hn
 | c :: l, st, st', e, _, h => by
   simp only [eList] at h
   intro hi
   have hlt : ∀ o ∈ nonGone V0, o < V0.length := fun o ho => hD_lt (nonGone_iff.1 ho)
   split at h
   · rename_i st2 h2
     obtain ⟨i2, w2, _⟩ := eCode_ok (fo := nonGone V0) hf hcl hlt fuel c _ _ _ h2 hi
     cases l with
     | nil =>
       simp only [eList, Option.some.injEq, Prod.mk.injEq] at h
       obtain ⟨rfl, rfl⟩ := h
       refine ⟨i2, fun c' hc' Q hq => ?_⟩
       rcases flatS_cons hc' with ⟨_, rfl⟩ | ⟨b, _, hb⟩
       · exact w2 Q hq
       · exact absurd hb (flatS_ne b)
     | cons a l =>
       obtain ⟨i3, w3⟩ := eList_end hf hcl (by simp) h i2
       refine ⟨i3, fun c' hc' Q hq => ?_⟩
       rcases flatS_cons hc' with ⟨h0, _⟩ | ⟨b, rfl, hb⟩
       · cases h0
       · exact awp_seq (w2 _ (w3 b hb Q hq))
   · rename_i hno
     obtain ⟨i2, w2, _⟩ := eCode_ok (fo := nonGone V0) hf hcl hlt fuel c _ _ _ h hi
     refine ⟨i2, fun c' hc' Q hq => ?_⟩
     rcases flatS_cons hc' with ⟨_, rfl⟩ | ⟨b, rfl, hb⟩
     · exact w2 Q hq
     · refine awp_seq (w2 _ ?_)
       cases e with
       | normal => exact absurd h (hno st')
       | _ => exact hq
theorem callOk_of_runs [Glb] {P : Program} {kp : FuncId → Bool} {f : FuncId} {fn : Func} {c : Code} {xs : List AV} {V : List AObj} {y : AV} {V' : List AObj} {D' : List Nat} (hfn : P.funcs[f]? = some fn) (hc : fn.body = some c) (hn : (fn.name == "runtime.NumGoroutine") = false) (hl : xs.length ≤ fn.ntmps) {e : Exit} {st : ESt} (he : e = .ret ∨ e = .normal) (hr : RunsL P fn.ntmps V (flatS c) ⟨mkS (fn.ntmps / 8 + 1) xs, V, []⟩ e st) (hret : eRet P fn V.length (closR st.v 10 (nonGone V ++ (if kp f then resRefs P fn st else []))) st = some (y, V', D')) : CallOk P f xs V y V' D' := by
 have hi : Inv fn.ntmps (hD V) ⟨mkS (fn.ntmps / 8 + 1) xs, V, []⟩ := ⟨⟨by rw [(mkS_len _ _).1]; omega, (mkS_len _ _).2⟩, fun o _ => rfl⟩
 have hent : sD (mkS (fn.ntmps / 8 + 1) xs) = entryA xs := by
   funext t
   rw [sD_def, mkS_get _ _ _ (by omega)]
   rfl
 obtain ⟨i1, w1⟩ := hr hi
 have hsub : ∀ o ∈ nonGone V, o ∈ closR st.v 10 (nonGone V ++ (if kp f then resRefs P fn st else [])) := fun o ho => closR_sub 10 _ o (List.mem_append_left _ ho)
 obtain ⟨⟨st1, hw, hq⟩, hfr⟩ := eRet_ok (P := P) (fn := fn) hsub i1 hret
 refine ⟨afun_of0 (fo := closR st.v 10 (nonGone V ++ (if kp f then resRefs P fn st else []))) hfn hc hn hl (fun o ho => nonGone_iff.2 ho) (fun o ho => hsub o (nonGone_iff.2 ho)) ?_, hfr⟩
 rw [← hent]
 refine AWp.post (w1 c rfl (fun e' s' h' => e' = e ∧ s' = sD st.s ∧ h' = hD st.v) ⟨rfl, rfl, rfl⟩) fun e' s' h' q => ?_
 obtain ⟨rfl, rfl, rfl⟩ := q
 refine ⟨_, _, hw, ?_⟩
 rcases he with rfl | rfl
 · exact hq
 · exact hq
theorem pure_of_callOk [Glb] {P : Program} {f : FuncId} {cs : List CV} {r : CV} {y : AV} {V' : List AObj} {D' : List Nat} (hok : CallOk P f (cs.map AV.c) [] y V' D') (h : (asC y r && V'.all AObj.isGone) = true) : APure P f cs r := by
 rw [Bool.and_eq_true] at h
 have hg : ∀ o, hD V' o = .gone := fun o => by
   by_cases hlt : o < V'.length
   · have := h.2
     rw [List.all_eq_true] at this
     have h3 := this V'[o] (List.getElem_mem _)
     rw [hD_def, getD_lt hlt]
     exact isGone_iff.1 h3
   · rw [hD_def, List.getD_eq_getElem?_getD, List.getElem?_eq_none (by omega)]; rfl
 refine apure_of_afun (h1 := hD V') ?_ hg
 have h0 : hD [] = fun _ => AObj.gone := rfl
 have hfn := hok.fn
 rw [h0] at hfn
 refine ⟨hfn.1, fun Z w gs vs q1 q2 q3 q4 q5 => (hfn.2 Z w gs vs q1 q2 q3 q4 q5).mono ?_⟩
 rintro e w' ⟨out, h', gs', ⟨rfl, rfl⟩, hout, hrest⟩
 refine ⟨.ret (.c r), _, gs', ⟨rfl, rfl⟩, ?_, hrest⟩
 cases e with
 | returned v => exact .c _ _ (asC_ok h.1 hout)
 | panicked c => exact hout.elim
 | outgrown => exact hout.elim
noncomputable def fnOf (P : Program) (f : FuncId) : Func := match P.funcs[f]? with
 | some fn => fn
 | none => default
noncomputable def stmts (P : Program) (f : FuncId) : List Code := match (fnOf P f).body with
 | some c => flatS c
 | none => []
noncomputable def entrySt (P : Program) (f : FuncId) (cs : List CV) : ESt := ⟨mkS ((fnOf P f).ntmps / 8 + 1) (cs.map AV.c), [], []⟩
noncomputable def pOk (P : Program) (f : FuncId) (n : Nat) : Bool := match P.funcs[f]? with
 | some fn => fn.body.isSome && !(fn.name == "runtime.NumGoroutine") && decide (n ≤ fn.ntmps)
 | none => false
noncomputable def pPart (P : Program) (kp : FuncId → Bool) (K : CallFn) (f : FuncId) (i j : Nat) (st : ESt) : Option (Exit × ESt) := eList P (eCall P kp K 1000000 23) (fnOf P f).ntmps 0 1000000 (((stmts P f).drop i).take (j - i)) st
noncomputable def pLast (P : Program) (kp : FuncId → Bool) (K : CallFn) (f : FuncId) (n i : Nat) (st : ESt) (r : CV) : Bool := pOk P f n && (decide (i < (stmts P f).length) && match eList P (eCall P kp K 1000000 23) (fnOf P f).ntmps 0 1000000 ((stmts P f).drop i) st with
 | some (.ret, st) => match eRet P (fnOf P f) 0 (closR st.v 10 (if kp f then resRefs P (fnOf P f) st else [])) st with
   | some (y, V', _) => asC y r && V'.all AObj.isGone
   | none => false
 | _ => false)
def Rest [Glb] (P : Program) (kp : FuncId → Bool) (f : FuncId) (n i : Nat) (st : ESt) (r : CV) : Prop := pOk P f n = true ∧ i < (stmts P f).length ∧
 ∃ st' y V' D', RunsL P (fnOf P f).ntmps [] ((stmts P f).drop i) st .ret st' ∧ eRet P (fnOf P f) 0 (closR st'.v 10 (if kp f then resRefs P (fnOf P f) st' else [])) st' = some (y, V', D') ∧ (asC y r && V'.all AObj.isGone) = true
section
variable [Glb] {P : Program} {kp : FuncId → Bool} {K : CallFn} {f : FuncId} {n : Nat} {r : CV}
theorem rest_last (hf : P.follows .mixedOrders = true) (hK : CallFnOk P K) {i : Nat} {st : ESt} (h : pLast P kp K f n i st r = true) : Rest P kp f n i st r := by
 unfold pLast at h
 rw [Bool.and_eq_true, Bool.and_eq_true, decide_eq_true_eq] at h
 obtain ⟨h1, h2, h3⟩ := h
 refine ⟨h1, h2, ?_⟩
 split at h3
 · rename_i st' he
   split at h3
   · rename_i y V' D' hr
     exact ⟨st', y, V', D', eList_end (V0 := []) hf (eCall_ok hf hK 23) (by intro e; have := congrArg List.length e; simp at this; omega) he, hr, h3⟩
   · cases h3
 · cases h3
theorem rest_part (hf : P.follows .mixedOrders = true) (hK : CallFnOk P K) {i j : Nat} {st st1 : ESt} (hij : i ≤ j) (h : pPart P kp K f i j st = some (.normal, st1)) (hr : Rest P kp f n j st1 r) : Rest P kp f n i st r := by
 obtain ⟨h1, h2, st', y, V', D', h3, h4⟩ := hr
 refine ⟨h1, by omega, st', y, V', D', ?_, h4⟩
 have := eList_app (V0 := []) hf (eCall_ok hf hK 23) h h3 (by intro e; have := congrArg List.length e; simp at this; omega)
 have e : ((stmts P f).drop i).take (j - i) ++ (stmts P f).drop j = (stmts P f).drop i := by
   have : (stmts P f).drop j = ((stmts P f).drop i).drop (j - i) := by rw [List.drop_drop]; congr 1; omega
   rw [this, List.take_append_drop]
 rw [e] at this
 exact this
theorem pure_of_rest {cs : List CV} (hl : cs.length = n) (hr : Rest P kp f n 0 (entrySt P f cs) r) : APure P f cs r := by
 obtain ⟨h1, h2, st', y, V', D', h3, h4, h5⟩ := hr
 unfold pOk at h1
 unfold fnOf stmts at *
 unfold entrySt fnOf at h3
 split at h1
 · rename_i fn hfn
   simp only [hfn] at h3 h4 h2
   rw [Bool.and_eq_true, Bool.and_eq_true, decide_eq_true_eq, Bool.not_eq_true'] at h1
   obtain ⟨⟨hb, hn⟩, hle⟩ := h1
   obtain ⟨c, hc⟩ := Option.isSome_iff_exists.1 hb
   simp only [hc, List.drop_zero] at h3
   refine pure_of_callOk (D' := D') (callOk_of_runs (kp := kp) hfn hc hn (by rw [List.length_map, hl]; exact hle) (.inl rfl) h3 ?_) h5
   simpa [nonGone] using h4
 · cases h1
end
end Go.Am
namespace Go.Am
open Go.RowKit
noncomputable def leAL (p : AV → AV → Bool) : List AV → List AV → Bool
 | [], [] => true
 | x :: xs, y :: ys => p x y && leAL p xs ys
 | _, _ => false
noncomputable def leA : Nat → AV → AV → Bool
 | 0, _, _ => false
 | n + 1, x, y => match x, y with
   | .c x, .c y => eqC 12 x y
   | .agg xs, .agg ys => leAL (leA n) xs ys
   | .ptr o k, .ptr o' k' => Nat.beq o o' && Nat.beq k k'
   | .own o k, .own o' k' => Nat.beq o o' && Nat.beq k k'
   | .mref o, .mref o' => Nat.beq o o'
   | .emp, .emp => true
   | _, _ => false
noncomputable def eqKey : Value → Value → Bool
 | .string a, .string b => eqB a.data.toList b.data.toList
 | .int k a, .int k' b => decide (k = k') && decide (a = b)
 | _, _ => false
noncomputable def leMap : List (Value × Nat × AV) → List (Value × Nat × AV) → Bool
 | [], [] => true
 | x :: xs, y :: ys => eqKey x.1 y.1 && Nat.beq x.2.1 y.2.1 && leA 4 x.2.2 y.2.2 && leMap xs ys
 | _, _ => false
noncomputable def leO : AObj → AObj → Bool
 | .gone, .gone => true
 | .box t l, .box t' l' => Nat.beq t t' && leAL (leA 4) l l'
 | .map es c, .map es' c' => Nat.beq c c' && leMap es es'
 | _, _ => false
noncomputable def leV : List AObj → List AObj → Bool
 | [], [] => true
 | x :: xs, y :: ys => leO x y && leV xs ys
 | _, _ => false
theorem leAL_ok {p : AV → AV → Bool} : ∀ {xs ys : List AV}, leAL p xs ys = true → xs.length = ys.length ∧ ∀ i, i < xs.length → p (xs.getD i default) (ys.getD i default) = true
 | [], [], _ => ⟨rfl, fun i h => absurd h (Nat.not_lt_zero _)⟩
 | x :: xs, y :: ys, h => by
   simp only [leAL, Bool.and_eq_true] at h
   obtain ⟨h1, h2⟩ := leAL_ok h.2
   refine ⟨by simp [h1], fun i hi => ?_⟩
   cases i with
   | zero => exact h.1
   | succ i => exact h2 i (by simpa using hi)
 | [], _ :: _, h => by simp [leAL] at h
 | _ :: _, [], h => by simp [leAL] at h
theorem leA_ok {w : World} {Z : Nat → Prop} {h : AH} {gs : Gs} : ∀ (n : Nat) {x y : AV}, leA n x y = true → ∀ {v : Value}, RA w Z h gs v x → RA w Z h gs v y
 | 0, x, y, e, v, _ => by simp [leA] at e
 | n + 1, x, y, e, v, hv => by
   unfold leA at e
   split at e
   · exact .c _ _ (asC_ok (x := .c _) (by exact e) hv)
   · obtain ⟨h1, h2⟩ := leAL_ok e
     cases hv with
     | agg cs _ hl ho hh =>
       exact .agg cs _ (hl.trans h1) (fun i hi => ho i (by omega)) fun i hi => leA_ok n (h2 i (by omega)) (hh i (by omega))
   · rw [Bool.and_eq_true] at e
     obtain rfl := Nat.eq_of_beq_eq_true e.1
     obtain rfl := Nat.eq_of_beq_eq_true e.2
     exact hv
   · rw [Bool.and_eq_true] at e
     obtain rfl := Nat.eq_of_beq_eq_true e.1
     obtain rfl := Nat.eq_of_beq_eq_true e.2
     exact hv
   · obtain rfl := Nat.eq_of_beq_eq_true e
     exact hv
   · exact hv
   · cases e
theorem eqKey_ok {x y : Value} (h : eqKey x y = true) : x = y := by
 unfold eqKey at h
 split at h
 · rw [eqB_eq] at h
   rw [beq_iff_eq] at h
   rename_i a b
   cases a; cases b
   simp only at h
   congr
   exact Array.ext' h
 · rw [Bool.and_eq_true, decide_eq_true_eq, decide_eq_true_eq] at h
   rw [h.1, h.2]
 · cases h
theorem leMap_ok : ∀ {xs ys : List (Value × Nat × AV)}, leMap xs ys = true → xs.length = ys.length ∧ ∀ i, i < xs.length → (xs.getD i (undef, 0, default)).1 = (ys.getD i (undef, 0, default)).1 ∧ (xs.getD i (undef, 0, default)).2.1 = (ys.getD i (undef, 0, default)).2.1 ∧ leA 4 (xs.getD i (undef, 0, default)).2.2 (ys.getD i (undef, 0, default)).2.2 = true
 | [], [], _ => ⟨rfl, fun i h => absurd h (Nat.not_lt_zero _)⟩
 | x :: xs, y :: ys, h => by
   simp only [leMap, Bool.and_eq_true] at h
   obtain ⟨⟨⟨ha, hb⟩, hc⟩, hd⟩ := h
   obtain ⟨h1, h2⟩ := leMap_ok hd
   refine ⟨by simp [h1], fun i hi => ?_⟩
   cases i with
   | zero => exact ⟨eqKey_ok ha, Nat.eq_of_beq_eq_true hb, hc⟩
   | succ i => exact h2 i (by simpa using hi)
 | [], _ :: _, h => by simp [leMap] at h
 | _ :: _, [], h => by simp [leMap] at h
theorem leV_ok : ∀ {xs ys : List AObj}, leV xs ys = true → ∀ o, leO (hD xs o) (hD ys o) = true
 | [], [], _, o => rfl
 | x :: xs, y :: ys, h, o => by
   simp only [leV, Bool.and_eq_true] at h
   cases o with
   | zero => exact h.1
   | succ o => exact leV_ok h.2 o
 | [], _ :: _, h, _ => by simp [leV] at h
 | _ :: _, [], h, _ => by simp [leV] at h
theorem leO_refs {h h' : AH} {gs : Gs} (hl : ∀ o, leO (h o) (h' o) = true) : Refs h gs h' gs where
 box o ty cells e := by
   have := hl o
   rw [e] at this
   cases e' : h' o <;> rw [e'] at this <;> simp [leO] at this
   exact ⟨by obtain rfl := this.1; exact ⟨_, _, rfl⟩, rfl⟩
 row o ty sz n f e := by
   have := hl o
   rw [e] at this
   cases e' : h' o <;> rw [e'] at this <;> simp [leO] at this
 map o es c e := by
   have := hl o
   rw [e] at this
   cases e' : h' o <;> rw [e'] at this <;> simp [leO] at this
   exact ⟨⟨_, _, rfl⟩, rfl⟩
 iter o m s l t e := by
   have := hl o
   rw [e] at this
   cases e' : h' o <;> rw [e'] at this <;> simp [leO] at this
theorem leO_obj {w : World} {Z : Nat → Prop} {h : AH} {gs : Gs} {o : Nat} {x y : AObj} (hl : leO x y = true) (hx : RObj w Z h gs o x) : RObj w Z h gs o y := by
 unfold leO at hl
 split at hl
 · exact hx
 · rw [Bool.and_eq_true] at hl
   obtain rfl := Nat.eq_of_beq_eq_true hl.1
   obtain ⟨h1, h2⟩ := leAL_ok hl.2
   obtain ⟨b, K, cur, q1, q2, q3, q4, q5⟩ := hx
   exact ⟨b, K, cur, q1, q2, q3.trans h1, fun j hj => q4 j (by omega), fun j hj => leA_ok 4 (h2 j (by omega)) (q5 j (by omega))⟩
 · rw [Bool.and_eq_true] at hl
   obtain rfl := Nat.eq_of_beq_eq_true hl.1
   obtain ⟨h1, h2⟩ := leMap_ok hl.2
   obtain ⟨b, K, ents, q1, q2, q3, q4, q5⟩ := hx
   refine ⟨b, K, ents, q1, q2, q3.trans h1, fun i hi => ?_, fun i hi => leA_ok 4 (h2 i (by omega)).2.2 (q5 i (by omega))⟩
   rw [← (h2 i (by omega)).1, ← (h2 i (by omega)).2.1]
   exact q4 i (by omega)
 · cases hl
theorem CallOk.le [Glb] {P : Program} {f : FuncId} {xs xs1 : List AV} {V V1 : List AObj} {y : AV} {V' : List AObj} {D' : List Nat} (hc : CallOk P f xs1 V1 y V' D') (hx : leAL (leA 4) xs xs1 = true) (hV : leV V V1 = true) : CallOk P f xs V y V' (List.range (max V.length V'.length)) := by
 obtain ⟨l1, l2⟩ := leAL_ok hx
 have lo := leV_ok hV
 refine ⟨⟨hc.fn.1, fun Z w gs vs q1 q2 q3 q4 q5 => ?_⟩, fun o ho => ?_⟩
 · have hr : Refs (hD V) gs (hD V1) gs := leO_refs lo
   have hlat : Later w w (Zf Z gs) (Zf Z gs) := Later.refl _ _
   have hok : HeapOk w Z (hD V1) gs := ⟨q3.fresh, q3.inj, fun o => leO_obj (lo o) ((q3.objs o).later hlat hr rfl fun b K e => rfl)⟩
   refine (hc.fn.2 Z w gs vs q1 q2 hok (q4.trans l1) fun i hi => leA_ok 4 (l2 i (by omega)) ((q5 i (by omega)).later hlat hr)).mono ?_
   rintro e w' ⟨out, h', gs', hq, ho, hh, hb, hR, hfr⟩
   exact ⟨out, h', gs', hq, ho, hh, hb, hr.trans hR, hfr⟩
 · rw [List.mem_range, Nat.not_lt, Nat.max_le] at ho
   rw [hD_def, hD_def, List.getD_eq_getElem?_getD, List.getD_eq_getElem?_getD, List.getElem?_eq_none ho.1, List.getElem?_eq_none ho.2]
structure KO where
 f : FuncId
 xs : List AV
 V : List AObj
 y : AV
 V' : List AObj
noncomputable def kObj : List KO → CallFn
 | [], _, _, _ => none
 | p :: l, f, xs, V => bif Nat.beq p.f f && leAL (leA 4) xs p.xs && leV V p.V then some (p.y, p.V', List.range (max V.length p.V'.length)) else kObj l f xs V
theorem kObj_ok [Glb] {P : Program} : ∀ {l : List KO}, (∀ p ∈ l, ∃ D', CallOk P p.f p.xs p.V p.y p.V' D') → CallFnOk P (kObj l)
 | [], _, f, xs, V, y, V', D', h => by simp [kObj] at h
 | p :: l, hl, f, xs, V, y, V', D', h => by
   simp only [kObj] at h
   cases hb : (Nat.beq p.f f && leAL (leA 4) xs p.xs && leV V p.V) with
   | true =>
     rw [hb, cond_true] at h
     simp only [Option.some.injEq, Prod.mk.injEq] at h
     obtain ⟨rfl, rfl, rfl⟩ := h
     rw [Bool.and_eq_true, Bool.and_eq_true] at hb
     obtain rfl := Nat.eq_of_beq_eq_true hb.1.1
     obtain ⟨D, hD⟩ := hl p (by simp)
     exact hD.le hb.1.2 hb.2
   | false =>
     rw [hb, cond_false] at h
     exact kObj_ok (fun p hp => hl p (by simp [hp])) f xs V y V' D' h
end Go.Am
namespace Go.Am
open Go.RowKit
theorem flatS_inj {c : Code} : ∀ {d : Code}, flatS c = flatS d → c = d := by
 induction c with
 | seq a b _ ih =>
   intro d h
   rw [flatS] at h
   rcases flatS_cons h.symm with ⟨h0, _⟩ | ⟨b', rfl, hb⟩
   · exact absurd h0 (flatS_ne b)
   · rw [ih hb.symm]
 | _ =>
   intro d h
   simp only [flatS] at h
   rcases flatS_cons h.symm with ⟨_, h1⟩ | ⟨b, _, hb⟩
   · exact h1.symm
   · exact absurd hb (flatS_ne b)
def tailS : Nat → Code → Code
 | n + 1, .seq _ b => tailS n b
 | _, c => c
theorem flatS_tail : ∀ (n : Nat) (c : Code), n < (flatS c).length → flatS (tailS n c) = (flatS c).drop n
 | 0, c, _ => by cases c <;> rfl
 | n + 1, c, h => by
   cases c with
   | seq a b =>
     rw [flatS, List.length_cons] at h
     rw [tailS, flatS, List.drop_succ_cons]
     exact flatS_tail n b (by omega)
   | _ => simp [flatS] at h
section
variable [Glb] {P : Program} {nt fuel : Nat} {call : CallFn} {V0 : List AObj} {Q : APost}
theorem awp_pre (hf : P.follows .mixedOrders = true) (hcl : CallFnOk P call) : ∀ {l r : List Code} {st st1 : ESt}, eList P call nt V0.length fuel l st = some (.normal, st1) → Inv nt (hD V0) st → r ≠ [] →
   Inv nt (hD V0) st1 ∧ ((∀ c', flatS c' = r → AWp P nt (nonGone V0) c' Q (sD st1.s) (hD st1.v)) → ∀ c, flatS c = l ++ r → AWp P nt (nonGone V0) c Q (sD st.s) (hD st.v))
 | [], r, st, st1, h, hi, _ => by
   simp only [eList, Option.some.injEq, Prod.mk.injEq, true_and] at h
   subst h
   exact ⟨hi, fun H c hc => H c hc⟩
 | a :: l, r, st, st1, h, hi, hr => by
   simp only [eList] at h
   split at h
   · rename_i st2 h2
     have hlt : ∀ o ∈ nonGone V0, o < V0.length := fun o ho => hD_lt (nonGone_iff.1 ho)
     obtain ⟨i2, w2, _⟩ := eCode_ok (fo := nonGone V0) hf hcl hlt fuel a _ _ _ h2 hi
     obtain ⟨i3, w3⟩ := awp_pre hf hcl h i2 hr
     refine ⟨i3, fun H c hc => ?_⟩
     rcases flatS_cons hc with ⟨h0, _⟩ | ⟨b, rfl, hb⟩
     · exact absurd (List.append_eq_nil_iff.1 h0).2 hr
     · exact awp_seq (w2 _ (w3 H b hb))
   · rename_i o hno
     exact absurd h (hno st1)
theorem callOk_pre (hf : P.follows .mixedOrders = true) (hcl : CallFnOk P call) {f : FuncId} {fn : Func} {c : Code} {xs : List AV} {y : AV} {V' : List AObj} {st1 : ESt} {n : Nat} (fo : List Nat)
   (hfn : P.funcs[f]? = some fn) (hc : fn.body = some c) (hn : (fn.name == "runtime.NumGoroutine") = false) (hl : xs.length ≤ fn.ntmps) (hlen : n < (flatS c).length)
   (he : eList P call fn.ntmps V0.length fuel ((flatS c).take n) ⟨mkS (fn.ntmps / 8 + 1) xs, V0, []⟩ = some (.normal, st1))
   (hfo : ∀ o ∈ nonGone V0, o ∈ fo) (hV : V0.length = V'.length)
   (hrest : AWp P fn.ntmps (nonGone V0) (tailS n c) (FRetQ P fn fo fun out h1 => out = .ret y ∧ h1 = hD V') (sD st1.s) (hD st1.v)) : CallOk P f xs V0 y V' (List.range V0.length) := by
 have hi : Inv fn.ntmps (hD V0) ⟨mkS (fn.ntmps / 8 + 1) xs, V0, []⟩ := ⟨⟨by rw [(mkS_len _ _).1]; omega, (mkS_len _ _).2⟩, fun o _ => rfl⟩
 have hent : sD (mkS (fn.ntmps / 8 + 1) xs) = entryA xs := by
   funext t
   rw [sD_def, mkS_get _ _ _ (by omega)]
   rfl
 have hne : (flatS c).drop n ≠ [] := fun e => by have := congrArg List.length e; simp at this; omega
 refine ⟨afun_of0 (fo := fo) hfn hc hn hl (fun o ho => nonGone_iff.2 ho) (fun o ho => hfo o (nonGone_iff.2 ho)) ?_, fun o ho => ?_⟩
 · rw [← hent]
   refine (awp_pre hf hcl he hi hne).2 (fun c' hc' => ?_) c (List.take_append_drop _ _).symm
   rw [← flatS_tail n c hlen] at hc'
   rw [flatS_inj hc']
   exact hrest
 · rw [List.mem_range, Nat.not_lt] at ho
   rw [hD_def, hD_def, List.getD_eq_getElem?_getD, List.getD_eq_getElem?_getD, List.getElem?_eq_none ho, List.getElem?_eq_none (by omega)]
end
end Go.Am
