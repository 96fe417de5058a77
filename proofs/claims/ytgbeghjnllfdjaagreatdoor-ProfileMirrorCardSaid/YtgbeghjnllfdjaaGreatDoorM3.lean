/- Texts of the proof: BmK BmL BmM BmN BmO BmP BmQ BmR BmS BmT BmU BmV BmY BmZ Bn1 Bn2 Bn3 Bn4 Bn5 Bn6 Bn9 Bn7 Bn8. No condition. -/
import Derived.Test.YtgbeghjnllfdjaaGreatDoorM2
import Derived.Deep.AppendSrc
import Derived.Lib.AppendStr
import Derived.Lib.UnsafeStr
import Derived.Lib.OthersKept
import Derived.Laws.RangeString
import Derived.Laws.IdiomStrings
import Derived.WideLaws
import Derived.Below
import Derived.Carry
import Derived.ChangeSame
import Derived.ProofKit
import Derived.OpenShut
import Derived.Sort.Grow
import Derived.Deep.Draws
import Derived.Maps.RangeRun
import Derived.Lib.SliceRun
import Derived.Sort.EncStr
set_option linter.unusedVariables false
set_option linter.unusedSimpArgs false
namespace Go.Am
open Go.RowKit
theorem AFun.of_pure [Glb] {P : Program} {f : FuncId} {xs : List CV} {r : CV} (hp : APure P f xs r) : AFun P f (xs.map .c) (fun _ => .gone) (fun out h => out = .ret (.c r) ∧ h = fun _ => .gone) := by
 refine ⟨hp.1, fun Z w gs vs hz hgl hok hlen hx => ?_⟩
 have hg : ∀ o, gs o = none := fun o => hok.objs o
 have hzf : ∀ b, Zf Z gs b → Z b := by
   rintro b (hb | ⟨o, K, e⟩)
   · exact hb
   · rw [hg o] at e; cases e
 have hl : vs.length = xs.length := by simpa using hlen
 refine (hp.2 Z w vs hz hgl hl fun i hi => ?_).mono fun e w' ⟨v, he, hv, hb⟩ => ?_
 · have h1 := hx i (by simpa using hi)
   have e : (xs.map AV.c).getD i default = .c (xs.getD i .any) := by rw [getD_lt (by simpa using hi), List.getElem_map, getD_lt hi]
   rw [e] at h1
   exact h1.c_inv.less fun b hb => .inl hb
 · subst he
   refine ⟨.ret (.c r), fun _ => .gone, gs, ⟨rfl, rfl⟩, .c _ _ (hv.less hzf), ⟨fun o b K e => (by rw [hg o] at e; cases e), fun o o' b K K' e => (by rw [hg o] at e; cases e), fun o => hg o⟩, ⟨hb.os, hb.tape, hb.output, hb.size, fun k hk _ => hb.block k hk, hb.drawn⟩, Refs.refl _ _, fun o b K e => (by rw [hg o] at e; cases e)⟩
theorem ev_func (s : Slots) (f : FuncId) : ev s (.func f) = .c (.raw (.func (.func f) #[] #[])) := rfl
theorem ev_global (s : Slots) (g : Nat) : ev s (.global g) = .c (.raw (.pointer (some ⟨g, 0, none⟩))) := rfl
attribute [go_sem] ev_func ev_global
theorem bin_klss (k : IntKind) (a b : Int) : bin .lss (.int k a) (.int k b) = some (.bool (decide (a < b))) := by simp [bin, isShift]
theorem bin_kleq (k : IntKind) (a b : Int) : bin .leq (.int k a) (.int k b) = some (.bool (decide (a ≤ b))) := by simp [bin, isShift]
theorem bin_kgtr (k : IntKind) (a b : Int) : bin .gtr (.int k a) (.int k b) = some (.bool (decide (b < a))) := by simp [bin, isShift]
theorem bin_kgeq (k : IntKind) (a b : Int) : bin .geq (.int k a) (.int k b) = some (.bool (decide (b ≤ a))) := by simp [bin, isShift]
theorem bin_keql (k : IntKind) (a b : Int) : bin .eql (.int k a) (.int k b) = some (.bool (a == b)) := by simp [bin, isShift]
theorem bin_kneq (k : IntKind) (a b : Int) : bin .neq (.int k a) (.int k b) = some (.bool (a != b)) := by simp [bin, isShift]
theorem bin_kadd (k : IntKind) (a b : Int) : bin .add (.int k a) (.int k b) = some (.int k (k.wrap (a + b))) := by simp [bin, isShift]
theorem bin_ksub (k : IntKind) (a b : Int) : bin .sub (.int k a) (.int k b) = some (.int k (k.wrap (a - b))) := by simp [bin, isShift]
theorem bin_krem (k : IntKind) (a b : Int) : bin .rem (.int k a) (.int k b) = if b = 0 then none else some (.int k (a.tmod b)) := by simp [bin, isShift]
theorem bin_kquo (k : IntKind) (a b : Int) : bin .quo (.int k a) (.int k b) = if b = 0 then none else some (.int k (k.wrap (a.tdiv b))) := by simp [bin, isShift]
theorem bin_kand (k : IntKind) (a b : Int) : bin .and (.int k a) (.int k b) = some (.int k (andI k a b)) := by simp [bin, isShift, binB]
theorem bin_kor (k : IntKind) (a b : Int) : bin .or (.int k a) (.int k b) = some (.int k (orI k a b)) := by simp [bin, isShift, binB]
theorem bin_kxor (k : IntKind) (a b : Int) : bin .xor (.int k a) (.int k b) = some (.int k (xorI k a b)) := by simp [bin, isShift, binB]
theorem bin_knot (k : IntKind) (a b : Int) : bin .andNot (.int k a) (.int k b) = some (.int k (notI k a b)) := by simp [bin, isShift, binB]
theorem bin_kshl (k k' : IntKind) (a b : Int) : bin .shl (.int k a) (.int k' b) = if b < 0 then none else some (.int k (k.wrap (a * 2 ^ min b.toNat k.bits))) := by simp [bin, isShift, binS]
theorem bin_kshr (k k' : IntKind) (a b : Int) : bin .shr (.int k a) (.int k' b) = if b < 0 then none else some (.int k (a.fdiv (2 ^ min b.toNat k.bits))) := by simp [bin, isShift, binS]
theorem bin_sleq (a b : ByteArray) : bin .leq (.string a) (.string b) = some (.bool (Op.bytesLess a.toList b.toList || a.toList == b.toList)) := rfl
theorem bin_sgtr (a b : ByteArray) : bin .gtr (.string a) (.string b) = some (.bool !(Op.bytesLess a.toList b.toList || a.toList == b.toList)) := rfl
theorem bin_sgeq (a b : ByteArray) : bin .geq (.string a) (.string b) = some (.bool !(Op.bytesLess a.toList b.toList)) := rfl
theorem bin_sadd (a b : ByteArray) : bin .add (.string a) (.string b) = if a.size + b.size ≤ 9223372036854775807 then some (.string (a ++ b)) else none := rfl
attribute [go_sem] bin_klss bin_kleq bin_kgtr bin_kgeq bin_keql bin_kneq bin_kadd bin_ksub bin_krem bin_kquo bin_kand bin_kor bin_kxor bin_knot bin_kshl bin_kshr bin_sleq bin_sgtr bin_sgeq bin_sadd AV.isPtr notIface
end Go.Am
namespace Go.Am
open Go.RowKit
def strRow (b : ByteArray) : Nat → List CV := fun i => [.raw ((Lib.strCells b).getD i undef)]
section
variable {P : Program} {E : Env} {w : World} {nt : Nat} {s : Slots} {h : AH} {gs : Gs} {a : Act}
theorem awpl_val [Glb] {fo : List Nat} {ops : Array Oper} {l : List Oper} {Q : APost} {o : Oper} {s' : Slots} {h' : AH} (hgd : o.guard = none)
   (hrun : ∀ (E : Env) (a : Act) (w : World) (gs : Gs), RelG E nt s h gs a w → ∃ v w', (execOp a.eval o).run P w = .ok (.value v) w' ∧ Rel E nt s' h' (a.put o.dst v) w')
   (hn : AWpL P nt fo ops l Q s' h') : AWpL P nt fo ops (o :: l) Q s h := by
 intro E a w I ⟨gs, R⟩
 obtain ⟨v, w', h1, h2⟩ := hrun E a w gs R
 unfold wpList
 rw [if_pos (by simp [Region.wanted, hgd])]
 exact .inl (wp_value h1 (hn E _ w' I h2))
theorem strCells_one {b : ByteArray} {i : Nat} (hi : i < b.size) : ((Lib.strCells b).getD i undef).oneCell' = true := by
 rw [getD_lt (by rw [Lib.strCells_length]; exact hi)]
 exact Lib.strCells_oneCell b _ (List.getElem_mem _)
theorem run_append_str0 {t u el ty : TypeId} {j : TypeInfo} (ht : P.underlying t = some (.slice el)) (hu : P.underlying u = some .string) (hj : P.info? el = some j) (B : Option Addr) (n K : Nat) (b : ByteArray) (hb : b.size = 0) (hn : n ≤ K) :
   (Builtin.append_ #[t, u] ty #[.slice B n K, .string b]).run P w = .ok (.slice B n K) w := by
 have hf := Lib.run_firstCells_string (P := P) w j.size b
 have hs : Lib.strCells b = [] := List.eq_nil_of_length_eq_zero (by rw [Lib.strCells_length]; exact hb)
 rw [hb, hs] at hf
 cases B <;> simp [Builtin.append_, run_underlying ht, run_underlying hu, sizeOf, typeInfo, hj, Builtin.lenOf, hn, hb, hf, storeCells]
theorem app_string [Glb] (R : RelG E nt s h gs a w) {ty t u : TypeId} {pos : String} {af : Array Edge} {gd : Option (Nat × Bool)} {d : Option Tmp} (hd : ∀ t, d = some t → t < nt) {o n : Nat} {f : Nat → List CV} {y z : Operand} {b : ByteArray} {i j : TI}
   (hy : ev s y = .own o n) (hz : ev s z = .c (.raw (.string b))) (ho : h o = .row i.elem j.size n f) (e1 : tinfo P t = some i) (e2 : i.slice = true) (e3 : tinfo P i.elem = some j) (e4 : j.size = 1) (e5 : j.zero.length = j.size) (hu : P.underlying u = some .string)
   (e9 : n + b.size ≤ maxLen) (e10 : (n + b.size) * j.bytes ≤ 140737488355328) :
   ∃ v w', (execOp a.eval ⟨d, .call ⟨.builtin .append, #[y, z], #[t, u]⟩, ty, pos, af, gd⟩).run P w = .ok (.value v) w' ∧
     Rel E nt (updO s d (.own o (n + b.size))) (upd h o (.row i.elem j.size (n + b.size) (fun q => if q < n then f q else strRow b (q - n)))) (a.put d v) w' := by
 have c1 := ev_ok R y
 have c2 := ev_ok R z
 rw [hy] at c1
 rw [hz] at c2
 have hvz := c2.raw_inv
 generalize hvy : a.eval y = vy at c1
 obtain ⟨i', dd, t1, t2, -, -, -, t6, t7, -, -⟩ := tinfo_some e1
 obtain ⟨j', dj, u1, u2, u3, u4, -, -, -, -, u9⟩ := tinfo_some e3
 cases dd with
 | slice el =>
   simp only at t6
   rw [t6] at u1
   cases hzz : j'.zero with
   | none =>
     rw [hzz] at u9
     simp only at u9
     rw [u9] at e5
     simp only [List.length_nil] at e5
     omega
   | some zv =>
     obtain ⟨z1, z2⟩ := tinfo_zero (by rw [← t6]; exact e3) u1 hzz
     have hexec : ∀ v w', (Builtin.append_ #[t, u] ty #[vy, .string b]).run P w = .ok v w' → (execOp a.eval ⟨d, .call ⟨.builtin .append, #[y, z], #[t, u]⟩, ty, pos, af, gd⟩).run P w = .ok (.value v) w' := by
       intro v w' hr
       simp [execOp, resolve, invoke, builtin, hvy, hvz, hr]
     have hsl : (Lib.strCells b).length = b.size := Lib.strCells_length b
     have hj1 : j'.size = 1 := by omega
     cases c1 with
     | own B k cc o' L ty' sz' n' f' ho' hL hv =>
       rw [ho] at ho'
       injection ho' with f1 f2 f3 f4
       subst f1; subst f2; subst f3; subst f4
       have hob := R.objs o
       rw [ho] at hob
       rcases Nat.eq_zero_or_pos b.size with h0 | h0
       · have hkk : k ≤ cc ∧ ((∃ b K, gs o = some (b, K) ∧ B = some ⟨b, 0, none⟩ ∧ k = n ∧ cc = K) ∨ (gs o = none ∧ k = 0 ∧ cc = 0 ∧ n = 0)) := by
           rcases hv rfl with ⟨b, K, q1, q2, q3, q4⟩ | ⟨q1, q2, q3, q4⟩
           · refine ⟨?_, .inl ⟨b, K, q1, q2, q3, q4⟩⟩
             rcases hob with r1 | ⟨b', K', cur, r1, r2, r3, r4, _⟩
             · rw [q1] at r1; cases r1
             · rw [q1] at r1
               simp only [Option.some.injEq, Prod.mk.injEq] at r1
               omega
           · exact ⟨by omega, .inr ⟨q1, q2, q3, q4⟩⟩
         refine ⟨_, w, hexec _ _ (run_append_str0 t2 hu u1 B k cc b h0 hkk.1), gs, ?_⟩
         have R' := R.same_row o i.elem j.size n f (fun q => if q < n then f q else strRow b (q - n)) ho (fun q hq => if_pos hq)
         rw [h0, Nat.add_zero]
         refine R'.putO hd (.own B k cc o n i.elem j.size n _ (upd_same _ _ _) (Nat.le_refl _) fun _ => ?_)
         rcases hkk.2 with ⟨b, K, q1, q2, q3, q4⟩ | ⟨q1, q2, q3, q4⟩
         · exact .inl ⟨b, K, q1, q2, q3, q4⟩
         · exact .inr ⟨q1, q2, q3, q4⟩
       · have s3 : ∀ q, q < b.size → (strRow b q).length = j.size := fun q _ => by rw [e4]; rfl
         have s4 : ∀ p q, p < b.size → q < j.size → RC w (Zf E.Z gs) ((Lib.strCells b).getD (p * j.size + q) undef) ((strRow b p).getD q .any) := by
           intro p q hp hq
           have hq0 : q = 0 := by omega
           subst hq0
           rw [e4, Nat.mul_one, Nat.add_zero]
           exact .raw _
         have s2 : ∀ q, q < b.size * j.size → ((Lib.strCells b).getD q undef).oneCell' = true := fun q hq => strCells_one (by rw [e4, Nat.mul_one] at hq; exact hq)
         have hlen : (Lib.strCells b).length = b.size * j.size := by rw [hsl, e4, Nat.mul_one]
         rcases hv rfl with ⟨bb, K, q1, rfl, rfl, rfl⟩ | ⟨q1, rfl, rfl, hn0⟩
         · rcases hob with r1 | ⟨b', K', cur, r1, r2, r3, r4, r5, r6, r7, r8⟩
           · rw [q1] at r1; cases r1
           rw [q1] at r1
           simp only [Option.some.injEq, Prod.mk.injEq] at r1
           obtain ⟨rfl, rfl⟩ := r1
           have hkc : k * j.size ≤ cc * j.size := Nat.mul_le_mul_right _ r4
           by_cases hroom : k + b.size ≤ cc
           · have hfit : (k + b.size) * j.size ≤ cc * j.size := Nat.mul_le_mul_right _ hroom
             rw [Nat.add_mul] at hfit
             have hr := Lib.run_append_room_string (P := P) w t u ty el j' t2 hu u1 hj1 bb k cc cur (by rw [← t6]; exact r2) b hroom (by rw [r3, e4, Nat.mul_one]; exact hroom)
             refine ⟨_, _, hexec _ _ hr, gs, ?_⟩
             have hcs : (cur.toList.take k ++ Lib.strCells b ++ cur.toList.drop (k + b.size)) = (cur.toList.take (k * j.size) ++ Lib.strCells b ++ cur.toList.drop (k * j.size + (Lib.strCells b).length)) := by rw [e4, Nat.mul_one, hsl]
             rw [hcs]
             have R' := R.write o bb cc q1 cur (cur.toList.take (k * j.size) ++ Lib.strCells b ++ cur.toList.drop (k * j.size + (Lib.strCells b).length)).toArray i.elem r2 (.row i.elem j.size (k + b.size) (fun q => if q < k then f q else strRow b (q - k)))
               (fun ty cells e => by rw [ho] at e; cases e) (fun ty2 sz2 n2 f2 e => by rw [ho] at e; injection e with e1 e2 e3 e4; subst e1; subst e2; subst e3; exact ⟨_, _, rfl, by omega⟩) fun hL _ => by
                 refine .inr ⟨bb, cc, (cur.toList.take (k * j.size) ++ Lib.strCells b ++ cur.toList.drop (k * j.size + (Lib.strCells b).length)).toArray, q1, setRow_heap w bb cur _ i.elem _ r2, by rw [size_splice (by rw [hlen]; omega), r3], hroom, r5, fun q hq => ?_, fun q hq => ?_, fun q r hq hr' => ?_⟩
                 · show (if q < k then f q else strRow b (q - k)).length = j.size
                   split
                   · exact r6 q ‹_›
                   · exact s3 _ (by omega)
                 · rw [Nat.add_mul] at hq
                   rw [getD_splice (by rw [hlen]; omega), hlen]
                   split
                   · exact s2 _ (by omega)
                   · exact r7 q (by omega)
                 · have hqr : q * j.size + j.size ≤ (k + b.size) * j.size := by rw [← Nat.succ_mul]; exact Nat.mul_le_mul_right _ hq
                   rw [Nat.add_mul] at hqr
                   rw [getD_splice (by rw [hlen]; omega)]
                   show RC _ _ _ ((if q < k then f q else strRow b (q - k)).getD r .any)
                   by_cases h1 : q < k
                   · have : q * j.size + j.size ≤ k * j.size := by rw [← Nat.succ_mul]; exact Nat.mul_le_mul_right _ h1
                     rw [if_neg (by omega), if_pos h1]
                     exact (r8 q r h1 hr').later hL
                   · have : k * j.size ≤ q * j.size := Nat.mul_le_mul_right _ (by omega)
                     rw [if_pos (by rw [hlen]; omega), if_neg h1]
                     have := s4 (q - k) r (by omega) hr'
                     rw [Nat.sub_mul] at this
                     rw [show q * j.size + r - k * j.size = q * j.size - k * j.size + r by omega]
                     exact this.later hL
             exact R'.putO hd (.own _ _ _ o (k + b.size) i.elem j.size (k + b.size) _ (upd_same _ _ _) (Nat.le_refl _) fun _ => .inl ⟨bb, cc, q1, rfl, rfl, rfl⟩)
           · have holds : ∀ (q : Nat) (v : Value), ((List.range (k * j.size)).map fun q => cur.getD q undef)[q]? = some v → w.cell? ((⟨bb, 0, none⟩ : Addr).add q) = some v := range_map_cells fun q hq => by rw [addr_lit, Nat.zero_add]; exact cell_of_heap r2 (by omega)
             have hr := Lib.run_append_grow_string (P := P) w t u ty el j' zv t2 hu u1 hzz ⟨bb, 0, none⟩ k cc ((List.range (k * j.size)).map fun q => cur.getD q undef) (by simp [u3]) holds b (by omega) (by simp only [maxLen] at e9; omega) (growslice_fits (by omega) (by rw [← u4]; exact e10))
             refine ⟨_, _, hexec _ _ hr, upd gs o (some (w.heap.size, grownCap w (k + b.size) cc el)), ?_⟩
             have hG := grown_block R o k b.size cc j.size el ((List.range (k * j.size)).map fun q => cur.getD q undef) (Lib.strCells b) zv.cells f (strRow b) (by omega) (by omega) (by simp) hlen e9 (fun q hq => by rw [range_map_getD hq]; exact r7 q hq) s2 r6 s3 (fun p q hp hq => by
               have : p * j.size + j.size ≤ k * j.size := by rw [← Nat.succ_mul]; exact Nat.mul_le_mul_right _ hp
               rw [range_map_getD (by omega)]; exact r8 p q hp hq) s4 (fun ty2 sz2 n2 f2 e => by rw [ho] at e; injection e with e1 e2 e3 e4; subst e1; subst e2; subst e3; exact ⟨t6, rfl, rfl, h0⟩) (fun ty cells e => by rw [ho] at e; cases e)
             simp only at hG
             rw [t6]
             exact (hG (fun es c e => by rw [ho] at e; cases e) (fun m s l t e => by rw [ho] at e; cases e)).putO hd (by
               refine .own _ _ _ o (k + b.size) el j.size (k + b.size) _ (upd_same _ _ _) (Nat.le_refl _) fun _ => .inl ⟨w.heap.size, _, upd_same _ _ _, rfl, rfl, rfl⟩)
         · subst hn0
           have hr : (Builtin.append_ #[t, u] ty #[.slice B 0 0, .string b]).run P w = .ok (.slice (some ⟨w.heap.size, 0, none⟩) (0 + b.size) (grownCap w (0 + b.size) 0 el)) (w.drew.alloc (.cells (([] : List Value).toArray ++ (Lib.strCells b).toArray ++ Builtin.zeroCells zv.cells (grownCap w (0 + b.size) 0 el - (0 + b.size))) el)) := by
             cases B with
             | none =>
               have := run_append_nil_string (P := P) w t u ty el j' zv t2 hu u1 hzz b h0 (by simp only [maxLen] at e9; omega) (by rw [← u4]; simp only [Nat.zero_add] at e10; omega)
               simp only [Nat.zero_add]
               have e : (Lib.strCells b).toArray = b.data.map (fun b => Value.int .u8 b.toNat) := by
                 apply Array.ext'
                 simp [Lib.strCells]
               rw [this, e]
               simp
             | some B => exact Lib.run_append_grow_string (P := P) w t u ty el j' zv t2 hu u1 hzz B 0 0 [] (by simp) (fun q v hq => by simp at hq) b (by omega) (by simp only [maxLen] at e9; omega) (growslice_fits (by omega) (by rw [← u4]; exact e10))
           refine ⟨_, _, hexec _ _ hr, upd gs o (some (w.heap.size, grownCap w (0 + b.size) 0 el)), ?_⟩
           have hG := grown_block R o 0 b.size 0 j.size el [] (Lib.strCells b) zv.cells f (strRow b) (by omega) (by omega) (by simp) hlen e9 (fun q hq => by omega) s2 (fun q hq => by omega) s3 (fun p q hp hq => by omega) s4 (fun ty2 sz2 n2 f2 e => by rw [ho] at e; injection e with e1 e2 e3 e4; subst e1; subst e2; subst e3; exact ⟨t6, rfl, rfl, h0⟩) (fun ty cells e => by rw [ho] at e; cases e)
           simp only at hG
           rw [t6]
           exact (hG (fun es c e => by rw [ho] at e; cases e) (fun m s l t e => by rw [ho] at e; cases e)).putO hd (by
             refine .own _ _ _ o (0 + b.size) el j.size (0 + b.size) _ (upd_same _ _ _) (Nat.le_refl _) fun _ => .inl ⟨w.heap.size, _, upd_same _ _ _, rfl, rfl, rfl⟩)
 | _ => simp_all
theorem awpl_appStr [Glb] {fo : List Nat} {ops : Array Oper} {l : List Oper} {Q : APost} {ty t u : TypeId} {pos : String} {af : Array Edge} {d : Option Tmp} {o n : Nat} {f : Nat → List CV} {y z : Operand} {b : ByteArray} {tb : TypeId} {sz : Nat} {i j : TI}
   (hn : AWpL P nt fo ops l Q (updO s d (.own o (n + b.size))) (upd h o (.row tb sz (n + b.size) (fun q => if q < n then f q else strRow b (q - n)))))
   (hy : ev s y = .own o n) (hz : ev s z = .c (.raw (.string b))) (ho : h o = .row tb sz n f) (e1 : tinfo P t = some i) (e2 : i.slice = true) (e3 : tinfo P i.elem = some j) (htb : tb = i.elem) (hsz : sz = j.size) (e4 : j.size = 1) (e5 : j.zero.length = j.size) (hu : P.underlying u = some .string)
   (e9 : n + b.size ≤ maxLen) (e10 : (n + b.size) * j.bytes ≤ 140737488355328) (hd : dOk nt d = true) :
   AWpL P nt fo ops (⟨d, .call ⟨.builtin .append, #[y, z], #[t, u]⟩, ty, pos, af, none⟩ :: l) Q s h := by
 subst htb hsz
 exact awpl_val rfl (fun _ _ _ _ R => app_string R (fun t e => by subst e; simpa [dOk] using hd) hy hz ho e1 e2 e3 e4 e5 hu e9 e10) hn
end
end Go.Am
namespace Go.Am
open Go.RowKit
theorem afun_ext [Glb] {P : Program} {f : FuncId} {xs : List AV} {h : AH} {Q : Out → AH → Prop} (hen : Enters P f)
   (H : ∀ (E : Env) (w : World) (gs : Gs) (vs : List Value) (a : Act), RelG E xs.length (entryA xs) h gs a w → vs.length = xs.length → (∀ i, i < xs.length → RA w (Zf E.Z gs) h gs (vs.getD i undef) (xs.getD i default)) →
     Calls P f vs.toArray w fun e w' => ∃ out h' gs', Q out h' ∧ outOk (RA w' (Zf E.Z gs') h' gs') e out ∧ RelG E xs.length (entryA xs) h' gs' a w') : AFun P f xs h Q := by
 refine ⟨hen, fun Z w gs vs hz hgl hok hlen hx => ?_⟩
 have hR : RelG ⟨w, Z, h, gs, []⟩ xs.length (entryA xs) h gs { tmps := vs.toArray, defers := [] } w := by
   refine ⟨BelowX.refl _ _, hz, fun b hb => (by obtain ⟨o, K, e⟩ := hb; exact ⟨(hok.fresh o b K e).2, (hok.fresh o b K e).1⟩), hgl, fun o b K e => ⟨.inr ⟨o, K, e⟩, (hok.fresh o b K e).1⟩, hok.inj, hok.objs, fun t => ?_, by simp; omega, rfl, Refs.refl _ _⟩
   by_cases ht : t < xs.length
   · have e : vs.toArray.getD t undef = vs.getD t undef := by simp [Array.getD_eq_getD_getElem?, List.getD_eq_getElem?_getD]
     have e2 : entryA xs t = xs.getD t default := by unfold entryA; rw [getD_lt ht, getD_lt ht]
     simp only [e, e2]
     exact hx t ht
   · have : entryA xs t = .c .any := by
       unfold entryA
       rw [List.getD_eq_getElem?_getD, List.getElem?_eq_none (by omega)]
       rfl
     rw [this]
     exact .c _ _ (.any _)
 refine (H _ w gs vs _ hR hlen hx).mono fun e w' ⟨out, h', gs', q1, q2, R'⟩ => ⟨out, h', gs', q1, q2, ⟨fun o b K e => ?_, R'.inj, R'.objs⟩, R'.below, R'.refs, fun o b K e => (R'.fresh _ _ _ e).1⟩
 have h1 := R'.fresh _ _ _ e
 refine ⟨h1.2, fun hZ => ?_⟩
 rcases h1.1 with q | q
 · have := R'.zlt b hZ
   dsimp only at this q
   omega
 · exact (R'.zd b q).1 hZ
end Go.Am
namespace Go.Am
open Go.RowKit
theorem setCell_setRow {w : World} {b off : Nat} {cur : Array Value} {T : TypeId} {fr : Nat × Nat} (v : Value) (hb : w.heap[b]? = some (.cells cur T fr)) : w.setCell ⟨b, off, none⟩ v = w.setRow b (cur.setIfInBounds off v) := by
 have hlt : b < w.heap.size := (Array.getElem?_eq_some_iff.1 hb).1
 have hv : w.heap[b] = .cells cur T fr := (Array.getElem?_eq_some_iff.1 hb).2
 unfold World.setCell World.setRow
 congr 1
 apply Array.ext_getElem?
 intro i
 simp only [Array.getElem?_modify]
 split
 · rename_i e
   subst e
   rw [Array.getElem?_eq_getElem hlt, hv]
   rfl
 · rfl
theorem afun_copyCheck [Glb] {P : Program} {f : FuncId} {T : TypeId} {h : AH} {c0 c1 : AV} (hen : Enters P f)
   (hu : ∀ (b : Nat) (w : World), w.cell? ⟨b, 0, none⟩ = some (.pointer (some ⟨b, 0, none⟩)) → Calls P f #[.pointer (some ⟨b, 0, none⟩)] w fun e w' => e = .returned (.tuple #[]) ∧ w' = w)
   (hf : ∀ (b : Nat) (w : World), w.cell? ⟨b, 0, none⟩ = some (.pointer none) → w.shape? b = some (T, 2) → w.frozen? ⟨b, 0, none⟩ = false →
     Calls P f #[.pointer (some ⟨b, 0, none⟩)] w fun e w' => e = .returned (.tuple #[]) ∧ w' = w.setCell ⟨b, 0, none⟩ (.pointer (some ⟨b, 0, none⟩)))
   (h0 : h 0 = .box T [c0, c1]) (hc : c0 = .c (.raw (.pointer none)) ∨ c0 = .ptr 0 0) :
   AFun P f [.ptr 0 0] h fun out h' => out = .ret (.c (.tup [])) ∧ h' = upd h 0 (.box T [.ptr 0 0, c1]) := by
 refine afun_ext hen fun E w gs vs a R hl hx => ?_
 match vs, hl with
 | [v], _ =>
   have hx0 := hx 0 (by simp)
   simp only [List.getD_cons_zero] at hx0
   have hob := R.objs 0
   rw [h0] at hob
   obtain ⟨b, K, cur, g1, g2, g3, g4, g5⟩ := hob
   have hv : v = .pointer (some ⟨b, 0, none⟩) := by
     cases hx0 with
     | ptr _ _ b' K' ty cells ho hg =>
       rw [g1] at hg
       simp only [Option.some.injEq, Prod.mk.injEq] at hg
       rw [hg.1]
   subst hv
   have k0 := g5 0 (by simp)
   have k1 := g5 1 (by simp)
   simp only [List.getD_cons_zero, List.getD_cons_succ] at k0 k1
   have hsz : cur.size = 2 := by simpa using g3
   have hcell : w.cell? ⟨b, 0, none⟩ = some (cur.getD 0 undef) := by
     have := cell_of_heap g2 (j := 0) (by omega)
     simpa using this
   have hself : ∀ (w' : World) (Z' : Nat → Prop) (h' : AH), h' 0 = .box T [.ptr 0 0, c1] → RA w' Z' h' gs (.pointer (some ⟨b, 0, none⟩)) (.ptr 0 0) := fun w' Z' h' e => .ptr 0 0 b K T _ e g1
   rcases hc with rfl | rfl
   · have hz := k0.raw_inv
     rw [hz] at hcell
     refine (hf b w hcell (by simp [World.shape?, g2, hsz]) (by simp [World.frozen?, g2])).mono ?_
     rintro e w' ⟨rfl, rfl⟩
     refine ⟨_, _, gs, ⟨rfl, rfl⟩, .c _ _ (.tup #[] [] rfl fun i hi => by simp at hi), ?_⟩
     rw [setCell_setRow _ g2]
     refine R.write 0 b K g1 cur _ T g2 _ (fun _ _ _ => ⟨_, _, rfl⟩) (fun ty sz n f e => by rw [h0] at e; cases e) fun hL hr => ?_
     refine ⟨b, K, _, g1, setRow_heap w b cur _ T _ g2, by simp [hsz], fun j hj => ?_, fun j hj => ?_⟩
     · match j, hj with
       | 0, _ => simp [Array.getD_eq_getD_getElem?, Array.getElem?_setIfInBounds, hsz, Value.oneCell']
       | 1, _ =>
         have := g4 1 (by simp)
         simpa [Array.getD_eq_getD_getElem?, Array.getElem?_setIfInBounds] using this
     · match j, hj with
       | 0, _ =>
         have e : (cur.setIfInBounds 0 (.pointer (some ⟨b, 0, none⟩))).getD 0 undef = .pointer (some ⟨b, 0, none⟩) := by simp [Array.getD_eq_getD_getElem?, Array.getElem?_setIfInBounds, hsz]
         rw [e]
         exact hself _ _ _ (upd_same _ _ _)
       | 1, _ =>
         have e : (cur.setIfInBounds 0 (.pointer (some ⟨b, 0, none⟩))).getD 1 undef = cur.getD 1 undef := by simp [Array.getD_eq_getD_getElem?, Array.getElem?_setIfInBounds]
         rw [e]
         exact k1.later hL hr
   · have hp : cur.getD 0 undef = .pointer (some ⟨b, 0, none⟩) := by
       generalize cur.getD 0 undef = v0 at k0
       cases k0 with
       | ptr _ _ b' K' ty cells ho hg =>
         rw [g1] at hg
         simp only [Option.some.injEq, Prod.mk.injEq] at hg
         rw [hg.1]
     rw [hp] at hcell
     refine (hu b w hcell).mono ?_
     rintro e w' ⟨rfl, rfl⟩
     have hh : upd h 0 (.box T [.ptr 0 0, c1]) = h := by
       funext i
       unfold upd
       split
       · rename_i e; subst e; exact h0.symm
       · rfl
     exact ⟨_, h, gs, ⟨rfl, hh.symm⟩, .c _ _ (.tup #[] [] rfl fun i hi => by simp at hi), R⟩
end Go.Am
namespace Go.Am
open Go.RowKit
theorem ren0_id : AV.ren0 id = id := funext fun x => by cases x <;> rfl
theorem ren1_id : ∀ x : AV, x.ren1 id = x
 | .when b x => by rw [AV.ren1, ren1_id x]
 | .c _ | .agg _ | .pim _ | .ptr _ _ | .rp _ _ _ _ | .own _ _ | .osub _ _ _ _ | .emp | .mref _ | .bs _ _ | .iref _ => rfl
 | .fn f os => by simp [AV.ren1, ren0_id]
theorem ren_id : ∀ x : AV, x.ren id = x
 | .when b x => by rw [AV.ren, ren_id x]
 | .agg xs => by
   rw [AV.ren]
   congr 1
   have : (AV.ren1 id) = id := funext ren1_id
   rw [this, List.map_id]
 | .c _ | .pim _ | .ptr _ _ | .rp _ _ _ _ | .own _ _ | .osub _ _ _ _ | .emp | .mref _ | .bs _ _ | .iref _ => rfl
 | .fn f os => by simp [AV.ren, AV.ren1, ren0_id]
theorem oren_id (x : AObj) : x.ren id = x := by
 cases x with
 | box ty cells =>
   have : (AV.ren id) = id := funext ren_id
   simp [AObj.ren, this]
 | map es c => simp [AObj.ren, ren_id]
 | _ => rfl
def CallI [Glb] (P : Program) (nt : Nat) (fo : List Nat) (ops : Array Oper) (l : List Oper) (Q : APost) (d : Option Tmp) (ks : List Nat) (s : Slots) (h : AH) : Out → AH → Prop
 | .ret x, h1 => (∀ k ∈ x.refsw, k ∈ ks) ∧ Foot ks h1 ∧ AWpL P nt fo ops l Q (updO s d x) (appL id id h1 ks h)
 | .pan c, h1 => Foot ks h1 ∧ Q (.panic c) s (appL id id h1 ks h)
theorem CallI.of_eq [Glb] {P : Program} {nt : Nat} {fo : List Nat} {ops : Array Oper} {l : List Oper} {Q : APost} {d : Option Tmp} {ks : List Nat} {s : Slots} {h h1 h2 : AH} {out : Out} {x : AV} (hq : out = .ret x ∧ h1 = h2) (hr : ∀ k ∈ x.refsw, k ∈ ks) (hft : Foot ks h2)
   (hn : AWpL P nt fo ops l Q (updO s d x) (appL id id h2 ks h)) : CallI P nt fo ops l Q d ks s h out h1 := by
 obtain ⟨rfl, rfl⟩ := hq
 exact ⟨hr, hft, hn⟩
theorem appL_ren (h1 : AH) : ∀ (ks : List Nat) (h : AH), appL id (AObj.ren id) h1 ks h = appL id id h1 ks h
 | [], h => rfl
 | k :: ks, h => by rw [appL, appL, appL_ren h1 ks, oren_id]; rfl
theorem awpl_callI [Glb] {P : Program} {nt : Nat} {fo : List Nat} {ops : Array Oper} {l : List Oper} {Q : APost} {s : Slots} {h h1 : AH} {d : Option Tmp} {f : FuncId} {args : Array Operand} {ats : Array TypeId} {ty : TypeId} {pos : String} {af : Array Edge} {xs : List AV} (ks : List Nat)
   (hf : AFun P f xs h1 (CallI P nt fo ops l Q d ks s h)) (hd : dOk nt d = true) (hx : args.toList.map (ev s) = xs) (hft : Foot ks h1) (hh : ∀ k ∈ ks, h k = h1 k) (hxr : ∀ x ∈ xs, ∀ k ∈ x.refsw, k ∈ ks) :
   AWpL P nt fo ops (⟨d, .call ⟨.value (.func f), args, ats⟩, ty, pos, af, none⟩ :: l) Q s h := by
 have hr : (AV.ren id) = id := funext ren_id
 refine awpl_call ks id (hf.mono fun out h2 q => ?_) hd (by rw [hr, List.map_id]; exact hx) (fun _ _ _ _ e => e) hft (fun k hk => by rw [oren_id]; exact hh k hk) hxr
 cases out with
 | ret x => obtain ⟨q1, q2, q3⟩ := q; exact ⟨q1, q2, by rw [ren_id, appL_ren]; exact q3⟩
 | pan c => obtain ⟨q1, q2⟩ := q; exact ⟨q1, by rw [appL_ren]; exact q2⟩
end Go.Am
namespace Go.Am
open Go.RowKit
section
variable {P : Program} {ops : Array Oper} {last : Oper} {Q Q1 : Exit → Act → World → Prop}
theorem wp_change {o : Oper} {a : Act} {w : World} {K K' : Act → World → Prop} (hK : ∀ a w, K a w → K' a w) (hp : ∀ c a w, Q1 (.panic c) a w → Q (.panic c) a w) (ho : LetsOut Q1 → LetsOut Q) (h : o.wp P a w K Q1) : o.wp P a w K' Q := by
 unfold Oper.wp at h ⊢
 generalize (execOp a.eval o).run P w = r at h ⊢
 cases r with
 | ok x w' =>
   cases x with
   | enter f args =>
     refine Calls.mono h fun e w2 q => ?_
     cases e with
     | returned v => exact hK _ _ q
     | panicked c => exact hp _ _ _ q
     | outgrown => exact ho q
   | value v => exact hK _ _ h
   | skip => exact hK _ _ h
   | defer d => exact hK _ _ h
   | row r args => exact Rows.mono h fun v w2 q => hK _ _ q
   | _ => exact h
 | halt x w' =>
   cases x with
   | panic v => exact hp _ _ _ h
   | _ => exact h
def lastOk (ops : Array Oper) (last : Oper) : Bool := ((List.range ops.size).all fun j => (maskOf (masks ops.toList []) last.after.toList).testBit j) && last.after.toList.all fun e => decide (e.on < ops.size)
theorem last_all {L : Nat → Bool} (hcl : ∀ i o e, ops[i]? = some o → L i = true → e ∈ o.after.toList → Region.binds .any e = true → L e.on = true)
   (hl : ∀ e ∈ last.after.toList, Region.binds .any e = true → L e.on = true) (h : lastOk ops last = true) : ∀ j, j < ops.size → L j = true := by
 intro j hj
 unfold lastOk at h
 rw [Bool.and_eq_true] at h
 have h := h.1
 rw [List.all_eq_true] at h
 rcases maskOf_bit _ _ (h j (by simpa using hj)) with hb | ⟨e, e1, e2, _, e4⟩
 · simp at hb
 · have hLe := hl e e1 e2
   rcases e4 with rfl | e4
   · exact hLe
   · exact (closed_masks hcl e.on hLe j e4).1
theorem getD_push {listed : Array Bool} {j : Nat} : (listed.push false).getD j false = listed.getD j false := by
 simp only [Array.getD_eq_getD_getElem?, Array.getElem?_push]
 split
 · rename_i e; subst e; simp
 · rfl
theorem ready_push {listed : Array Bool} (hsz : listed.size = ops.size) {i : Nat} (h : i ∈ Region.ready .any (ops.push last) (listed.push false)) :
   (i < ops.size ∧ i ∈ Region.ready .any ops listed) ∨ (i = ops.size ∧ ∀ e ∈ last.after.toList, Region.binds .any e = true → lset listed e.on = true) := by
 obtain ⟨o, h1, h2, h3, h4⟩ := ready_spec h
 rw [Array.size_push] at h2
 by_cases hi : i = ops.size
 · subst hi
   refine .inr ⟨rfl, fun e he hb => ?_⟩
   have ho : o = last := by simpa using h1.symm
   subst ho
   have := h4 e he hb
   rw [getD_push] at this
   exact this
 · have hlt : i < ops.size := by omega
   refine .inl ⟨hlt, ?_⟩
   unfold Region.ready
   rw [List.mem_filter]
   have ho : ops[i]? = some o := by
     rw [Array.getElem?_push, if_neg hi] at h1
     exact h1
   have h3' : listed.getD i true = false := by
     simp only [Array.getD_eq_getD_getElem?, Array.getElem?_push, hsz, if_neg hi] at h3 ⊢
     exact h3
   refine ⟨by simpa using hlt, ?_⟩
   simp only [Bool.and_eq_true, Bool.not_eq_true', h3', ho, Option.map_some, Option.getD_some, Array.all_eq_true_iff_forall_mem, Bool.or_eq_true, true_and]
   intro e he
   cases hb : Region.binds .any e with
   | false => exact .inl rfl
   | true =>
     have := h4 e (Array.mem_toList_iff.2 he) hb
     rw [getD_push] at this
     exact .inr this
theorem wpAny_push (hd : drawOk ops = true) (hg : ∀ (i : Nat) (o : Oper) (j : Nat) (b : Bool), ops[i]? = some o → o.guard = some (j, b) → j < ops.size) (hlo : lastOk ops last = true) (hQn : ∀ a w, Q1 .normal a w → wpOp P (ops.push last) Q ops.size (Q .normal) a w)
   (hp : ∀ c a w, Q1 (.panic c) a w → Q (.panic c) a w) (hout : LetsOut Q1 → LetsOut Q) : ∀ (fuel : Nat) (listed : Array Bool) (a : Act) (w : World), listed.size = ops.size →
   (∀ (i : Nat) (o : Oper) (e : Edge), ops[i]? = some o → lset listed i = true → e ∈ o.after.toList → Region.binds .any e = true → lset listed e.on = true) →
   wpAny P .any ops Q1 fuel listed a w → wpAny P .any (ops.push last) Q (fuel + 1) (listed.push false) a w := by
 have none_ready : ∀ (listed : Array Bool), (∀ j, j < ops.size → lset listed j = true) → Region.ready .any ops listed = [] := by
   intro listed hall
   cases hr : Region.ready .any ops listed with
   | nil => rfl
   | cons i l =>
     exfalso
     obtain ⟨o, h1, h2, h3, h4⟩ := ready_spec (listed := listed) (i := i) (by rw [hr]; simp)
     have := hall i h2
     unfold lset at this
     simp only [Array.getD_eq_getD_getElem?] at this h3
     cases hx : listed[i]? <;> simp_all
 have some_ready : ∀ (listed : Array Bool), listed.size = ops.size → Region.ready .any (ops.push last) (listed.push false) ≠ [] := by
   intro listed hsz he
   have h0 : Region.ready .any ops listed = [] := by
     cases hr : Region.ready .any ops listed with
     | nil => rfl
     | cons i l =>
       exfalso
       obtain ⟨o, h1, h2, h3, h4⟩ := ready_spec (listed := listed) (i := i) (by rw [hr]; simp)
       have hm : i ∈ Region.ready .any (ops.push last) (listed.push false) := by
         unfold Region.ready
         rw [List.mem_filter]
         have hi : i ≠ ops.size := by omega
         have h3' : (listed.push false).getD i true = false := by
           simp only [Array.getD_eq_getD_getElem?, Array.getElem?_push, hsz, if_neg hi] at h3 ⊢
           exact h3
         have ho : (ops.push last)[i]? = some o := by rw [Array.getElem?_push, if_neg hi]; exact h1
         refine ⟨by simp; omega, ?_⟩
         simp only [Bool.and_eq_true, Bool.not_eq_true', h3', ho, Option.map_some, Option.getD_some, Array.all_eq_true_iff_forall_mem, Bool.or_eq_true, true_and]
         intro e he
         cases hb : Region.binds .any e with
         | false => exact .inl rfl
         | true => rw [getD_push]; exact .inr (h4 e (Array.mem_toList_iff.2 he) hb)
       rw [he] at hm
       cases hm
   have hall := all_listed hd hsz h0
   have hm : ops.size ∈ Region.ready .any (ops.push last) (listed.push false) := by
     unfold Region.ready
     rw [List.mem_filter]
     have h3' : (listed.push false).getD ops.size true = false := by
       simp only [Array.getD_eq_getD_getElem?, Array.getElem?_push, hsz, if_true, Option.getD_some]
     have ho : (ops.push last)[ops.size]? = some last := by simp
     refine ⟨by simp, ?_⟩
     simp only [Bool.and_eq_true, Bool.not_eq_true', h3', ho, Option.map_some, Option.getD_some, Array.all_eq_true_iff_forall_mem, Bool.or_eq_true, true_and]
     intro e he
     rw [getD_push]
     unfold lastOk at hlo
     rw [Bool.and_eq_true, List.all_eq_true] at hlo
     rw [List.all_eq_true] at hlo
     have := hlo.2 e (Array.mem_toList_iff.2 he)
     exact .inr (hall e.on (by simpa using this))
   rw [he] at hm
   cases hm
 have last_step : ∀ (fuel : Nat) (listed : Array Bool) (a : Act) (w : World), listed.size = ops.size → (∀ j, j < ops.size → lset listed j = true) → Q1 .normal a w →
     wpOp P (ops.push last) Q ops.size (wpAny P .any (ops.push last) Q fuel ((listed.push false).setIfInBounds ops.size true)) a w := by
   intro fuel listed a w hsz hall hq
   refine wpOp_mono (fun a' w' q => ?_) (hQn a w hq)
   have hr : Region.ready .any (ops.push last) ((listed.push false).setIfInBounds ops.size true) = [] := by
     cases hr : Region.ready .any (ops.push last) ((listed.push false).setIfInBounds ops.size true) with
     | nil => rfl
     | cons i l =>
       exfalso
       obtain ⟨o, h1, h2, h3, h4⟩ := ready_spec (listed := (listed.push false).setIfInBounds ops.size true) (i := i) (by rw [hr]; simp)
       rw [Array.size_push] at h2
       by_cases hi : i = ops.size
       · subst hi
         simp [Array.getD_eq_getD_getElem?, Array.getElem?_setIfInBounds, hsz] at h3
       · have := hall i (by omega)
         unfold lset at this
         simp only [Array.getD_eq_getD_getElem?, Array.getElem?_setIfInBounds, Ne.symm hi, if_false, Array.getElem?_push, hsz, if_neg hi] at h3
         simp only [Array.getD_eq_getD_getElem?] at this
         cases hx : listed[i]? <;> simp_all
   cases fuel with
   | zero => exact ⟨hr, q⟩
   | succ fuel => exact ⟨fun _ => q, fun i hi => by rw [hr] at hi; cases hi⟩
 intro fuel
 induction fuel with
 | zero =>
   intro listed a w hsz hcl h
   refine ⟨fun he => absurd he (some_ready listed hsz), fun i hi => ?_⟩
   rcases ready_push hsz hi with ⟨h1, h2⟩ | ⟨rfl, h2⟩
   · rw [h.1] at h2; cases h2
   · exact last_step _ listed a w hsz (last_all hcl h2 hlo) h.2
 | succ fuel ih =>
   intro listed a w hsz hcl h
   refine ⟨fun he => absurd he (some_ready listed hsz), fun i hi => ?_⟩
   rcases ready_push hsz hi with ⟨h1, h2⟩ | ⟨rfl, h2⟩
   · have hw := h.2 i h2
     obtain ⟨o, k1, k2, k3, k4⟩ := ready_spec h2
     have hil : i < listed.size := by omega
     have hne : i ≠ ops.size := by omega
     unfold wpOp at hw ⊢
     have ho : (ops.push last)[i]? = some o := by rw [Array.getElem?_push, if_neg hne]; exact k1
     rw [k1] at hw
     rw [ho]
     simp only at hw ⊢
     have hwant : Region.wanted o (yielded (ops.push last) a.tmps) = Region.wanted o (yielded ops a.tmps) := by
       unfold Region.wanted
       cases hgd : o.guard with
       | none => rfl
       | some p =>
         obtain ⟨j, b⟩ := p
         have hj := hg i o j b k1 hgd
         have : (ops.push last)[j]? = ops[j]? := by rw [Array.getElem?_push, if_neg (by omega)]
         simp [yielded, this]
     rw [hwant]
     have next : ∀ a' w', wpAny P .any ops Q1 fuel (listed.setIfInBounds i true) a' w' → wpAny P .any (ops.push last) Q (fuel + 1) ((listed.push false).setIfInBounds i true) a' w' := by
       intro a' w' q
       have hset : (listed.push false).setIfInBounds i true = (listed.setIfInBounds i true).push false := by
         apply Array.ext_getElem?
         intro j
         simp only [Array.getElem?_setIfInBounds, Array.getElem?_push, Array.size_push, Array.size_setIfInBounds]
         by_cases hj : i = j
         · subst hj
           simp [hil, Nat.ne_of_lt hil, Nat.lt_succ_of_lt hil]
         · simp [hj]
       rw [hset]
       refine ih _ a' w' (by simpa using hsz) (fun i' o' e g1 h2 h5 h6 => ?_) q
       have hls : ∀ j, lset (listed.setIfInBounds i true) j = (decide (j = i) || lset listed j) := fun j => by
         unfold lset
         simp only [Array.getD_eq_getD_getElem?]
         by_cases hji : j = i
         · subst hji
           simp [hil]
         · rw [Array.getElem?_setIfInBounds_ne (Ne.symm hji)]
           simp [hji]
       rw [hls] at h2 ⊢
       simp only [Bool.or_eq_true, decide_eq_true_eq] at h2 ⊢
       rcases h2 with rfl | h2
       · rw [k1] at g1
         injection g1 with g1
         subst g1
         exact .inr (k4 e h5 h6)
       · exact .inr (hcl i' o' e g1 h2 h5 h6)
     split at hw
     · rename_i hc
       rw [if_pos hc]
       rcases hw with hw | hw
       · exact .inl (wp_change next hp hout hw)
       · exact .inr ⟨hw.1, hout hw.2⟩
     · rename_i hc
       rw [if_neg hc]
       exact next _ _ hw
   · have hall := last_all hcl h2 hlo
     exact last_step _ listed a w hsz hall (h.1 (none_ready listed hall))
end
end Go.Am
namespace Go.Am
open Go.RowKit
def guardsIn (ops : List Oper) : Bool := ops.all fun o => match o.guard with
 | some (j, _) => decide (j < ops.length)
 | none => true
section
variable {E : Env} {nt : Nat} {P : Program} {ops : Array Oper} {free : List (Nat × Nat)}
theorem region_any [Glb] (hs : slotsOk nt ops.toList = true) (hd : drawOkF free ops = true) {K : (Nat → AV) → AH → Prop} {Q : Exit → Act → World → Prop} {s : Nat → AV} {h : AH} {a : Act} {w : World}
   (R : Rel E nt s h a w) (hr : aRun P ops (fun s h => freeFin free ops s = true ∧ K s h) ops.toList s h) (hQ : ∀ s' h' a' w', K s' h' → Rel E nt s' h' a' w' → Q .normal a' w') : wpAny P .any ops Q ops.size (Array.replicate ops.size false) a { w with drawn := w.drawn + 1 } := by
 obtain ⟨xs, es, S, H, e1, e2, e3, e4⟩ := trace ops.toList 0 s h (fun k => by simp) hr
 simp only [Nat.zero_add] at e3 e4
 have eS : ∀ k, k ≤ ops.size → S k = SL ops xs s (fun _ => true) k ∧ H k = HL es h (fun _ => true) k := by
   intro k
   induction k with
   | zero => intro _; exact ⟨e1, e2⟩
   | succ k ih =>
     intro hk
     obtain ⟨i1, i2⟩ := ih (by omega)
     have ho : ops.toList[k]? = some ops[k] := by simp
     obtain ⟨_, t2, t3⟩ := e3 k _ ho
     have hd : dstAt ops k = ops[k].dst := by simp [dstAt, Array.getElem?_eq_getElem (show k < ops.size by omega)]
     exact ⟨by rw [t2, i1]; simp [SL, hd], by rw [t3, i2]; simp [HL]⟩
 have T : Texts P ops xs es s h := by
   intro k o ho
   have hk := lt_of_some ho
   have := (e3 k o (by simpa using ho)).1
   rw [(eS k (by omega)).1, (eS k (by omega)).2] at this
   exact this
 have hK : freeFin free ops (SL ops xs s (fun _ => true) ops.size) = true ∧ K (SL ops xs s (fun _ => true) ops.size) (HL es h (fun _ => true) ops.size) := by
   have := e4
   rw [Array.length_toList, (eS ops.size (Nat.le_refl _)).1, (eS ops.size (Nat.le_refl _)).2] at this
   exact this
 refine draw_main hs hd (free_of (drawOk_free hd) T hK.1) T hK.2 hQ ops.size (Array.replicate ops.size false) a _ (by simp) (by simp) ?_ ?_
 · intro i o e ho hl
   unfold lset at hl
   simp only [Array.getD_eq_getD_getElem?] at hl
   by_cases hi : i < ops.size
   · simp [hi] at hl
   · simp [hi] at hl
 · have hno : ∀ j, lset (Array.replicate ops.size false) j = false := fun j => by
     unfold lset
     simp only [Array.getD_eq_getD_getElem?]
     by_cases hj : j < ops.size <;> simp [hj]
   have f1 : ∀ k, SL ops xs s (lset (Array.replicate ops.size false)) k = s := by
     intro k
     induction k with
     | zero => rfl
     | succ k ih => simp only [SL, hno, Bool.false_eq_true, if_false, ih]
   have f2 : ∀ k, HL es h (lset (Array.replicate ops.size false)) k = h := by
     intro k
     induction k with
     | zero => rfl
     | succ k ih => simp only [HL, hno, Bool.false_eq_true, if_false, ih]
   rw [f1, f2]
   obtain ⟨gs, R⟩ := R
   exact ⟨gs, R.grow ⟨rfl, rfl, rfl, Nat.le_refl _, fun _ _ => rfl⟩⟩
end
section
variable {P : Program} {nt : Nat} {fo : List Nat} {s : Slots} {h : AH} {Q : APost}
theorem awp_drawL [Glb] (hf : P.follows .mixedOrders = true) {id : Nat} {ops : List Oper} {last : Oper} (hs : slotsOk nt ops = true) (hd : drawOk ops.toArray = true) (hg : guardsIn ops = true) (hlo : lastOk ops.toArray last = true)
   (hr : aRun P ops.toArray (AWpL P nt fo (ops.toArray.push last) [last] Q) ops s h) : AWp P nt fo (.region id (ops.toArray.push last) true) Q s h := by
 intro E a w I R
 refine wp_region_any hf ?_
 have hrep : Array.replicate (ops.toArray.push last).size false = (Array.replicate ops.toArray.size false).push false := by
   rw [Array.size_push, Array.replicate_succ]
 rw [hrep, Array.size_push]
 have hno : ∀ (n j : Nat), lset (Array.replicate n false) j = false := fun n j => by
   unfold lset
   simp only [Array.getD_eq_getD_getElem?]
   by_cases hj : j < n <;> simp [hj]
 let Qf : Exit → Act → World → Prop := fun e a' w' => ∃ s' h', Q e s' h' ∧ Rel E nt s' h' a' w'
 refine wpAny_push (Q := Qf) (Q1 := fun e a w => match e with | .normal => wpOp P (ops.toArray.push last) Qf ops.toArray.size (Qf .normal) a w | e => Qf e a w) hd (fun i o j b ho hgd => ?_) hlo (fun a w q => q) (fun c a w q => q) (fun ⟨a, w, q⟩ => ⟨a, w, q⟩) _ _ a _ (by simp) (fun i o e _ hl => by rw [hno] at hl; cases hl) ?_
 · unfold guardsIn at hg
   rw [List.all_eq_true] at hg
   have := hg o (by simpa using List.mem_of_getElem? (by simpa using ho))
   rw [hgd] at this
   simpa using this
 · refine region_any (free := []) (E := E) (nt := nt) (s := s) (h := h) (K := AWpL P nt fo (ops.toArray.push last) [last] Q) (by simpa using hs) hd R (aRun_mono (fun _ _ q => ⟨rfl, q⟩) _ _ _ (by simpa using hr)) fun s' h' a' w' q R' => ?_
   have := q E a' w' I R'
   unfold wpList at this
   show wpOp P (ops.toArray.push last) Qf ops.toArray.size (Qf .normal) a' w'
   unfold wpOp
   have e : (ops.toArray.push last)[ops.toArray.size]? = some last := by simp
   rw [e]
   exact this
end
end Go.Am
namespace Go.Am
open Go.RowKit
set_option linter.unusedVariables false
def splitLast {α : Type} : List α → Option (List α × α)
 | [] => none
 | [x] => some ([], x)
 | x :: r => (splitLast r).map fun p => (x :: p.1, p.2)
theorem splitLast_eq {α : Type} : ∀ {l i : List α} {x : α}, splitLast l = some (i, x) → l = i ++ [x]
 | [], _, _, h => by cases h
 | [a], i, x, h => by
   simp only [splitLast, Option.some.injEq, Prod.mk.injEq] at h
   obtain ⟨rfl, rfl⟩ := h
   rfl
 | a :: b :: r, i, x, h => by
   simp only [splitLast, Option.map_eq_some_iff] at h
   obtain ⟨⟨i', x'⟩, h1, h2⟩ := h
   simp only [Prod.mk.injEq] at h2
   obtain ⟨rfl, rfl⟩ := h2
   rw [splitLast_eq (l := b :: r) (by simpa only [splitLast, Option.map_eq_some_iff] using h1)]
   rfl
section
variable {P : Program} {nt : Nat} {fo : List Nat} {s : Slots} {h : AH} {Q : APost}
theorem awp_drawX [Glb] (hf : P.follows .mixedOrders = true) {id : Nat} {ops init : List Oper} {last : Oper} (he : splitLast ops = some (init, last)) (hs : slotsOk nt init = true) (hd : drawOk init.toArray = true) (hg : guardsIn init = true) (hlo : lastOk init.toArray last = true)
   (hr : ∀ K : Slots → AH → Prop, (∀ s h, AWpL P nt fo ops.toArray [last] Q s h → K s h) → aRun P init.toArray K init s h) : AWp P nt fo (.region id ops.toArray true) Q s h := by
 have e := splitLast_eq he
 have e2 : ops.toArray = init.toArray.push last := by rw [e]; simp
 rw [e2] at hr ⊢
 exact awp_drawL hf hs hd hg hlo (hr _ fun _ _ q => q)
theorem awp_rseq_drawX [Glb] (hf : P.follows .mixedOrders = true) {id : Nat} {ops init : List Oper} {last : Oper} {y : Code} (he : splitLast ops = some (init, last)) (hs : slotsOk nt init = true) (hd : drawOk init.toArray = true) (hg : guardsIn init = true) (hlo : lastOk init.toArray last = true)
   (hr : ∀ K : Slots → AH → Prop, (∀ s h, AWpL P nt fo ops.toArray [last] (thenQ (AWp P nt fo y Q) Q) s h → K s h) → aRun P init.toArray K init s h) : AWp P nt fo (.seq (.region id ops.toArray true) y) Q s h :=
 awp_seq (awp_drawX hf he hs hd hg hlo hr)
theorem awpl_ext [Glb] {ops : Array Oper} {l : List Oper} {o : Oper} {f : FuncId} {s' : Slots} {h' : AH} (hgd : o.guard = none)
   (hrun : ∀ (E : Env) (a : Act) (w : World) (gs : Gs), E.In fo → RelG E nt s h gs a w → ∃ vs : Array Value, (execOp a.eval o).run P w = .ok (.enter f vs) w ∧ Calls P f vs w fun e w' => ∃ v, e = .returned v ∧ Rel E nt s' h' (a.put o.dst v) w')
   (hn : AWpL P nt fo ops l Q s' h') : AWpL P nt fo ops (o :: l) Q s h := by
 intro E a w I ⟨gs, R⟩
 obtain ⟨vs, hr, hc⟩ := hrun E a w gs I R
 unfold wpList
 rw [if_pos (by simp [Region.wanted, hgd])]
 refine .inl ?_
 unfold Oper.wp
 rw [hr]
 refine hc.mono fun e w' ⟨v, he, R'⟩ => ?_
 subst he
 exact hn E _ w' I R'
theorem freeze_facts (w : World) (a : Addr) (n : Nat) : (w.freeze a n).os = w.os ∧ (w.freeze a n).tape = w.tape ∧ (w.freeze a n).output = w.output ∧ (w.freeze a n).heap.size = w.heap.size ∧ ∀ k, k ≠ a.block → (w.freeze a n).heap[k]? = w.heap[k]? := by
 unfold World.freeze
 split
 · exact ⟨rfl, rfl, rfl, rfl, fun _ _ => rfl⟩
 · refine ⟨rfl, rfl, rfl, by simp, fun k hk => ?_⟩
   simp only [Array.getElem?_modify]
   rw [if_neg (by omega)]
theorem awpl_str [Glb] {ops : Array Oper} {l : List Oper} {d : Tmp} {f : FuncId} {y : Operand} {ats : Array TypeId} {ty T U : TypeId} {pos : String} {af : Array Edge} {k o : Nat} {c0 : AV} {b : ByteArray}
   (hf : ∀ (q g cap : Nat) (p : Value) (cur : Array Value) (l : List UInt8) (w : World), w.heap[q]? = some (.cells #[p, .slice (some ⟨g, 0, none⟩) l.length cap] T (0, 0)) → w.heap[g]? = some (.cells cur U (0, 0)) → l ≠ [] → l.length ≤ cap → cap ≤ maxLen → cur.size = cap * 1 →
     (∀ j x, l[j]? = some x → cur.getD j undef = .int .u8 x.toNat) → Calls P f #[.pointer (some ⟨q, 0, none⟩)] w fun e w' => e = .returned (.string ⟨l.toArray⟩) ∧ ∃ n, w' = w.drew.freeze ⟨g, 0, none⟩ n)
   (hen : Enters P f) (hb : b.size ≠ 0) (hy : ev s y = .ptr k 0) (hk : h k = .box T [c0, .own o b.size]) (ho : h o = .row U 1 b.size (strRow b)) (hd : d < nt)
   (hn : AWpL P nt [] ops l Q (upd (fun _ => .c .any) d (.c (.raw (.string b)))) (fun _ => .gone)) :
   AWpL P nt [] ops (⟨some d, .call ⟨.value (.func f), #[y], ats⟩, ty, pos, af, none⟩ :: l) Q s h := by
 refine awpl_ext (f := f) rfl (fun E a w gs I R => ?_) hn
 obtain ⟨fn, f1, f2, f3⟩ := hen
 have f2' : ¬ fn.name = "runtime.NumGoroutine" := by simpa using f2
 have f3' : ¬ fn.body = none := fun e => by rw [e] at f3; simp at f3
 refine ⟨#[a.eval y], by simp [execOp, resolve, Deferred.ofValue, Act.eval, invoke, callFunc, f1, f2', f3'], ?_⟩
 have hv := ev_ok R y
 rw [hy] at hv
 have hob := R.objs k
 rw [hk] at hob
 obtain ⟨q, K, cur, g1, g2, g3, g4, g5⟩ := hob
 have hv' : a.eval y = .pointer (some ⟨q, 0, none⟩) := by
   generalize a.eval y = v at hv
   cases hv with
   | ptr _ _ b' K' ty cells ho hg =>
     rw [g1] at hg
     simp only [Option.some.injEq, Prod.mk.injEq] at hg
     rw [hg.1]
 rw [hv']
 have k1 := g5 1 (by simp)
 simp only [List.getD_cons_zero, List.getD_cons_succ] at k1
 have hsz : cur.size = 2 := by simpa using g3
 have hrow := R.objs o
 rw [ho] at hrow
 have hcur : cur = #[cur.getD 0 undef, cur.getD 1 undef] := by
   apply Array.ext
   · simp [hsz]
   · intro i h1 h2
     match i, h1 with
     | 0, _ => simp [Array.getD_eq_getD_getElem?, hsz]
     | 1, _ => simp [Array.getD_eq_getD_getElem?, hsz]
     | i + 2, h1 => omega
 generalize hc1 : cur.getD 1 undef = v1 at k1 hcur
 cases k1 with
 | own A kk c _ _ ty' sz n f' ho' hL hv2 =>
   rw [ho] at ho'
   simp only [AObj.row.injEq] at ho'
   obtain ⟨rfl, rfl, rfl, rfl⟩ := ho'
   rcases hv2 rfl with ⟨g, K2, e1, e2, e3, e4⟩ | ⟨e1, _, _, e5⟩
   · rcases hrow with e5 | ⟨g', K3, cur2, r1, r2, r3, r4, r5, r6, r7, r8⟩
     · rw [e5] at e1; cases e1
     · rw [r1] at e1
       simp only [Option.some.injEq, Prod.mk.injEq] at e1
       obtain ⟨rfl, rfl⟩ := e1
       subst e2 e3 e4
       have hlen : b.data.toList.length = b.size := rfl
       refine (hf q g' _ (cur.getD 0 undef) cur2 b.data.toList w (by rw [hlen, ← hcur]; exact g2) r2 (fun e => hb (by rw [← hlen, e]; rfl)) (by rw [hlen]; exact r4) r5 r3 (fun j x hx => ?_)).mono ?_
       · have hj : j < b.size := by
           rw [← hlen]
           exact (List.getElem?_eq_some_iff.1 hx).1
         have := r8 j 0 hj (by decide)
         simp only [Nat.mul_one, Nat.add_zero, strRow, List.getD_cons_zero] at this
         have e := this.raw_inv
         rw [e]
         simp [Lib.strCells, List.getD_eq_getElem?_getD, hx]
       · rintro e w' ⟨rfl, n, rfl⟩
         refine ⟨_, rfl, fun _ => none, ?_⟩
         obtain ⟨w1, w2, w3, w4, w5⟩ := freeze_facts w.drew ⟨g', 0, none⟩ n
         have hfr := R.fresh o g' _ r1
         have hbe : BelowX E.D E.w0 (w.drew.freeze ⟨g', 0, none⟩ n) := by
           refine ⟨w1.trans R.below.os, w2.trans R.below.tape, w3.trans R.below.output, by rw [w4]; exact R.below.size, fun i hi hD => ?_, fun d => Nat.le_trans (R.below.drawn d) (by rw [freeze_drawn]; exact Nat.le_succ _)⟩
           rw [w5 i (fun e => ?_)]
           · exact R.below.block i hi hD
           · have e : i = g' := e
             subst e
             rcases hfr.1 with h1 | h1
             · omega
             · exact hD h1
         refine ⟨hbe, R.zlt, R.zd, R.glob, fun o b K e => (by cases e), fun o o' b K K' e => (by cases e), fun _ => rfl, fun t => ?_, ?_, ?_, ⟨fun o ty cells e => ?_, fun o ty sz n f e => ?_, fun o es c e => ?_, fun o m s l t e => ?_⟩⟩
         · simp only [Act.put, upd_apply]
           split
           · rename_i e
             subst e
             have : (a.tmps.setIfInBounds t (Value.string ⟨b.data.toList.toArray⟩)).getD t undef = .string b := by
               simp [Array.getD_eq_getD_getElem?, Array.getElem?_setIfInBounds, R.size, hd]
             rw [this]
             exact .c _ _ (.raw _)
           · exact .c _ _ (.any _)
         · simp [Act.put, R.size]
         · exact R.defers
         · exact absurd (I o (by rw [e]; simp)) (by simp)
         · exact absurd (I o (by rw [e]; simp)) (by simp)
         · exact absurd (I o (by rw [e]; simp)) (by simp)
         · exact absurd (I o (by rw [e]; simp)) (by simp)
   · rcases hrow with _ | ⟨g', K3, cur2, r1, _⟩
     · exact absurd e5 hb
     · rw [r1] at e1; cases e1
theorem m_join [Glb] {x y : Code} {ι : Type} (S : ι → List (Nat × AV)) (H : ι → List (Nat × AObj)) (J : ι → Prop)
   (hx : AWp P nt fo x (thenQ (fun s' h' => ∃ j, J j ∧ (∀ p ∈ S j, s' p.1 = p.2) ∧ (∀ p ∈ H j, objLe (h' p.1) p.2)) Q) s h) (hr : ∀ j, J j → AWp P nt fo y Q (ofL (S j)) (ofH (H j)))
   (hfo : ∀ i, J i → (fo.all fun o => decide (o ∈ (H i).map Prod.fst)) = true := by exact fun _ _ => rfl) (h1 : ∀ i, J i → refsIn ((H i).map Prod.fst) ((S i).map Prod.snd) = true := by exact fun _ _ => rfl) (h2 : ∀ i, J i → ((H i).all fun p => boxIn ((H i).map Prod.fst) p.2) = true := by exact fun _ _ => rfl) : AWp P nt fo (.seq x y) Q s h := by
 refine awp_seq (hx.mono fun e s' h' q => ?_)
 cases e with
 | normal =>
   obtain ⟨j, q1, q2, q3⟩ := q
   exact awp_cut (S j) (H j) q2 q3 (hfo j q1) (h1 j q1) (h2 j q1) (hr j q1)
 | _ => exact q
end
end Go.Am
namespace Go.Am
open Go.RowKit
set_option linter.unusedVariables false
section
variable {P : Program} {nt : Nat} {fo : List Nat} {s : Slots} {h : AH} {Q : APost} {ops : Array Oper} {l : List Oper}
theorem awpl_range [Glb] {d : Tmp} {t ty : TypeId} {y : Operand} {pos : String} {af : Array Edge} {str : ByteArray} (hy : ev s y = .c (.raw (.string str))) (hu : P.underlying t = some .string) (hgo : h d = .gone) (hd : d < nt)
   (hn : ∀ b, AWpL P nt fo ops l Q (upd s d (.c (.raw (.pointer (some ⟨b, 0, none⟩))))) (upd h d (.blk b (.stringIter str 0)))) : AWpL P nt fo ops (⟨some d, .range t y, ty, pos, af, none⟩ :: l) Q s h := by
 intro E a w I ⟨gs, R⟩
 have hv := ev_ok R y
 rw [hy] at hv
 have hv' : a.eval y = .string str := hv.raw_inv
 unfold wpList
 rw [if_pos (by simp [Region.wanted])]
 refine .inl ?_
 unfold Oper.wp
 have hr : (execOp a.eval ⟨some d, .range t y, ty, pos, af, none⟩).run P w = .ok (.value (.pointer (some ⟨w.heap.size, 0, none⟩))) (w.alloc (.stringIter str 0)) := by
   simp [execOp, hv', run_range_string w t str hu, World.iter]
 rw [hr]
 refine hn w.heap.size E _ _ I ⟨_, RelG.put (R.eff (w' := w.alloc (.stringIter str 0)) d (.blk w.heap.size (.stringIter str 0)) (some (w.heap.size, 0)) rfl rfl rfl (by simp) (fun k hk _ => Below.heap_alloc w _ k hk) (.inr ⟨_, _, rfl, Nat.le_refl _, by simp⟩) (fun ty cells e => ?_) (fun ty sz n f e => ?_) fun _ _ => ?_) hd (.c _ _ (.raw _))⟩
 · rw [hgo] at e; cases e
 · rw [hgo] at e; cases e
 · exact ⟨0, upd_same _ _ _, by unfold World.alloc; simp⟩
theorem awpl_next [Glb] {d o : Tmp} {ty : TypeId} {y : Operand} {pos : String} {af : Array Edge} {b k : Nat} {str : ByteArray} (hy : ev s y = .c (.raw (.pointer (some ⟨b, 0, none⟩)))) (ho : h o = .blk b (.stringIter str k)) (hk : k < str.size) (hd : d < nt)
   (hn : AWpL P nt fo ops l Q (upd s d (.c (.tup [.raw (.bool true), .raw (.int .i64 k), .raw (.int .i32 (Utf8.decode str k).1)]))) (upd h o (.blk b (.stringIter str (k + (Utf8.decode str k).2))))) : AWpL P nt fo ops (⟨some d, .next y true, ty, pos, af, none⟩ :: l) Q s h := by
 intro E a w I ⟨gs, R⟩
 have hv := ev_ok R y
 rw [hy] at hv
 have hv' : a.eval y = .pointer (some ⟨b, 0, none⟩) := hv.raw_inv
 have hob := R.objs o
 rw [ho] at hob
 obtain ⟨K, g1, g2⟩ := hob
 unfold wpList
 rw [if_pos (by simp [Region.wanted])]
 refine .inl ?_
 unfold Oper.wp
 have hr : (execOp a.eval ⟨some d, .next y true, ty, pos, af, none⟩).run P w = .ok (.value (.tuple #[.bool true, .int .i64 k, .int .i32 (Utf8.decode str k).1])) (w.iterAt b str (k + (Utf8.decode str k).2)) := by
   simp [execOp, hv', Lib.run_next_any_at w b str k ty g2 hk]
 rw [hr]
 have hlt : b < w.heap.size := (R.fresh o b K g1).2
 have e0 : upd gs o (gs o) = gs := funext fun i => by unfold upd; split <;> simp_all
 have R' := R.eff (w' := w.iterAt b str (k + (Utf8.decode str k).2)) o (.blk b (.stringIter str (k + (Utf8.decode str k).2))) (gs o) rfl rfl rfl (by simp [World.iterAt]) (fun i _ hi => by
     have : b ≠ i := fun e => hi K (by rw [← e]; exact g1)
     simp only [World.iterAt]
     rw [Array.getElem?_setIfInBounds_ne this]) (.inl rfl) (fun ty cells e => by rw [ho] at e; cases e) (fun ty sz n f e => by rw [ho] at e; cases e) fun _ _ => ⟨K, by rw [upd_same]; exact g1, Lib.iterAt_heap w b str k _ g2⟩
 refine hn E _ _ I ⟨_, RelG.put R' hd (.c _ _ (.tup _ _ rfl fun i hi => ?_))⟩
 match i, hi with
 | 0, _ => exact .raw _
 | 1, _ => exact .raw _
 | 2, _ => exact .raw _
theorem awpl_nextE [Glb] {d o : Tmp} {ty : TypeId} {y : Operand} {pos : String} {af : Array Edge} {b k : Nat} {str : ByteArray} (hy : ev s y = .c (.raw (.pointer (some ⟨b, 0, none⟩)))) (ho : h o = .blk b (.stringIter str k)) (hk : ¬ k < str.size) (hd : d < nt)
   (hn : AWpL P nt fo ops l Q (upd s d (.c (.tup [.raw (.bool false)]))) h) : AWpL P nt fo ops (⟨some d, .next y true, ty, pos, af, none⟩ :: l) Q s h := by
 intro E a w I ⟨gs, R⟩
 have hv := ev_ok R y
 rw [hy] at hv
 have hv' : a.eval y = .pointer (some ⟨b, 0, none⟩) := hv.raw_inv
 have hob := R.objs o
 rw [ho] at hob
 obtain ⟨K, g1, g2⟩ := hob
 unfold wpList
 rw [if_pos (by simp [Region.wanted])]
 refine .inl ?_
 unfold Oper.wp
 have hr : (execOp a.eval ⟨some d, .next y true, ty, pos, af, none⟩).run P w = .ok (.value (.tuple #[.bool false])) w := by
   simp [execOp, hv', Lib.run_next_end_at w b str k ty g2 hk]
 rw [hr]
 refine hn E _ _ I ⟨_, RelG.put R hd (.c _ _ (.tup _ _ rfl fun i hi => ?_))⟩
 match i, hi with
 | 0, _ => exact .raw _
end
section
variable {P : Program} {ops : Array Oper} {K : Slots → AH → Prop} {r : List Oper} {s : Slots} {h : AH} {d : Nat} {ty : TypeId} {pos : String} {af : Array Edge} {x : AV}
theorem k_sl_str [Glb] {G : Bool} {t : TypeId} {y : Operand} {lo hi : Option Operand} {u : AV} {L H : Option AV} {b : ByteArray} {l hh : Nat} (h1 : ev s y = u) (e1 : u.strip = .c (.raw (.string b))) (h2 : bndOf s lo = L) (h3 : bndOf s hi = H) (ht : P.underlying t = some .string)
   (b1 : bnd G 0 l L) (b2 : bnd G b.size hh H) (hw : G = true → u.wh = true) (hl : G = true → l ≤ hh ∧ hh ≤ b.size) : aop1 P (.slice t y lo hi none) (ev s) h G (.str (b.extract l hh)) := by
 subst h1 h2 h3
 refine ⟨l, hh, ?_, ?_, ?_, fun g => ⟨hw g, (hl g).1⟩, ?_⟩
 · intro z e; subst e; exact b1
 · intro e; subst e; exact b1
 · intro z e; subst e; exact b2
 · rw [e1]
   exact ⟨ht, fun g => (hl g).2, fun e => by subst e; exact b2, rfl⟩
theorem m_slStr [Glb] {t : TypeId} {y : Operand} {lo hi : Option Operand} {u : AV} {L H : Option AV} {b : ByteArray} {l hh : Nat} (hn : aRun P ops K r (upd s d (.str (b.extract l hh))) h) (h1 : ev s y = u := by simp only [go_sem, reduceIte, Nat.reduceEqDiff, FF] <;> rfl) (e1 : u.strip = .c (.raw (.string b)) := by rfl) (h2 : bndOf s lo = L := by simp only [go_sem, reduceIte, Nat.reduceEqDiff, FF] <;> rfl) (h3 : bndOf s hi = H := by simp only [go_sem, reduceIte, Nat.reduceEqDiff, FF] <;> rfl) (ht1 : P.underlying t = some .string := by simp only [go_sem] <;> rfl)
   (b1 : bnd true 0 l L := by first | exact bd_no | exact bd_one | exact bd_nat | exact bd_yes (by rfl) (by first | rfl | omega) (fun _ => rfl)) (b2 : bnd true b.size hh H := by first | exact bd_no | exact bd_one | exact bd_nat | exact bd_yes (by rfl) (by first | rfl | omega) (fun _ => rfl)) (hw : true = true → u.wh = true := by exact fun _ => rfl) (hl : true = true → l ≤ hh ∧ hh ≤ b.size := by intro hG; (repeat' apply And.intro) <;> first | rfl | omega | (dsimp only; omega)) : aRun P ops K (⟨some d, .slice t y lo hi none, ty, pos, af, none⟩ :: r) s h := st1 rfl (k_sl_str h1 e1 h2 h3 ht1 b1 b2 hw hl) hn
end
end Go.Am
namespace Go.Am
open Go.RowKit
theorem raws_eq {w : World} {Z : Nat → Prop} {xs : List Value} {vs : List Value} (hl : vs.length = (xs.map CV.raw).length) (hx : ∀ i, i < (xs.map CV.raw).length → RC w Z (vs.getD i undef) ((xs.map CV.raw).getD i .any)) : vs = xs := by
 rw [List.length_map] at hl hx
 refine List.ext_getElem hl fun i h1 h2 => ?_
 have := hx i h2
 rw [getD_lt h1, getD_lt (by simpa using h2), List.getElem_map] at this
 exact this.raw_inv
theorem apure_raw [Glb] {P : Program} {f : FuncId} (hen : Enters P f) (xs : List Value) {v : Value} (H : ∀ w : World, (∀ b, Glb.A b → w.heap[b]? = Glb.M b) → Calls P f xs.toArray w fun e w' => e = .returned v ∧ BelD w w') : APure P f (xs.map .raw) (.raw v) := by
 refine ⟨hen, fun Z w vs hz hg hl hx => ?_⟩
 rw [raws_eq hl hx]
 refine (H w fun b hb => (hg b hb).2).mono ?_
 rintro e w' ⟨rfl, hb⟩
 exact ⟨_, rfl, .raw _, hb⟩
section
variable {P : Program} {nt : Nat} {fo : List Nat} {s : Slots} {h : AH} {Q : APost} {ops : Array Oper} {l : List Oper}
theorem awpl_fam [Glb] {α : Type} {d : Tmp} {f : FuncId} {args : Array Operand} {ats : Array TypeId} {ty : TypeId} {pos : String} {af : Array Edge} (hen : Enters P f) (xs : List Value) (V : α → Value) (C : α → CV) (hVC : ∀ (x : α) (w : World) (Z : Nat → Prop), RC w Z (V x) (C x))
   (H : ∀ w : World, (∀ b, Glb.A b → w.heap[b]? = Glb.M b) → Calls P f xs.toArray w fun e w' => ∃ x, e = .returned (V x) ∧ BelD w w')
   (hn : ∀ x, AWpL P nt fo ops l Q (upd s d (.c (C x))) h) (hx : args.toList.map (ev s) = xs.map fun v => .c (.raw v)) (hd : d < nt) : AWpL P nt fo ops (⟨some d, .call ⟨.value (.func f), args, ats⟩, ty, pos, af, none⟩ :: l) Q s h := by
 intro E a w I ⟨gs, R⟩
 obtain ⟨fn, f1, f2, f3⟩ := hen
 have f2' : ¬ fn.name = "runtime.NumGoroutine" := by simpa using f2
 have f3' : ¬ fn.body = none := fun e => by rw [e] at f3; simp at f3
 have hvs : args.map a.eval = xs.toArray := by
   apply Array.ext'
   simp only [Array.toList_map]
   have hl : args.toList.length = xs.length := by simpa using congrArg List.length hx
   refine List.ext_getElem (by simpa using hl) fun i h1 h2 => ?_
   have hia : i < args.toList.length := by simpa using h1
   have h3 : (args.toList.map (ev s))[i]'(by simpa using hia) = (xs.map fun v => AV.c (.raw v))[i]'(by simpa using h2) := by simp only [hx]
   rw [List.getElem_map, List.getElem_map] at h3
   rw [List.getElem_map]
   have := ev_ok R args.toList[i]
   rw [h3] at this
   simpa using this.raw_inv
 unfold wpList
 rw [if_pos (by simp [Region.wanted])]
 refine .inl ?_
 unfold Oper.wp
 have hr : (execOp a.eval ⟨some d, .call ⟨.value (.func f), args, ats⟩, ty, pos, af, none⟩).run P w = .ok (.enter f xs.toArray) w := by
   rw [← hvs]
   simp [execOp, resolve, Deferred.ofValue, Act.eval, invoke, callFunc, f1, f2', f3']
 rw [hr]
 refine (H w fun b hb => (R.glb b hb).2).mono ?_
 rintro e w' ⟨x, rfl, hb⟩
 exact hn x E _ w' I ⟨_, (R.grow hb.toBelow hb.drawn).put hd (.c _ _ (hVC x w' _))⟩
theorem awpl_neqNil [Glb] {d : Tmp} {t t2 ty : TypeId} {y : Operand} {pos : String} {af : Array Edge} {v : Value} {b : Bool} (hy : ev s y = .c (.raw v)) (hv : (v = .nilIface ∧ b = false) ∨ ((∃ u x, v = .iface u x) ∧ b = true)) (ht : P.underlying t = some (.interface (P.methodsAt t))) (hd : d < nt)
   (hn : AWpL P nt fo ops l Q (upd s d (.c (.raw (.bool b)))) h) : AWpL P nt fo ops (⟨some d, .binOp .neq t y (.const .nilIface) t2, ty, pos, af, none⟩ :: l) Q s h := by
 refine awpl_val (s' := upd s d (.c (.raw (.bool b)))) (h' := h) rfl (fun E a w gs R => ?_) hn
 have hv' := ev_ok R y
 rw [hy] at hv'
 have e := hv'.raw_inv
 have ec : a.eval (.const .nilIface) = .nilIface := rfl
 refine ⟨.bool b, w, ?_, gs, R.put hd (.c _ _ (.raw _))⟩
 rcases hv with ⟨rfl, rfl⟩ | ⟨⟨u, x, rfl⟩, rfl⟩
 · simp [execOp, e, ec, eqGuard, run_neq_nil_nil w t ht]
 · simp [execOp, e, ec, eqGuard, run_neq_held_nil w t u x ht]
end
end Go.Am
namespace Go.Am
open Go.RowKit
def AAny [Glb] (P : Program) (nt : Nat) (fo : List Nat) (ops : Array Oper) (Q : APost) (fuel : Nat) (listed : Array Bool) (s : Slots) (h : AH) : Prop :=
 ∀ (E : Env) (a : Act) (w : World), E.In fo → Rel E nt s h a w → wpAny P .any ops (fun e a' w' => ∃ s' h', Q e s' h' ∧ Rel E nt s' h' a' w') fuel listed a w
def AAll [Glb] (P : Program) (nt : Nat) (fo : List Nat) (ops : Array Oper) (Q : APost) (fuel : Nat) (listed : Array Bool) (s : Slots) (h : AH) : List Nat → Prop
 | [] => True
 | i :: r => (∃ o, ops[i]? = some o ∧ AWpL P nt fo ops [o] (thenQ (AAny P nt fo ops Q fuel (listed.setIfInBounds i true)) Q) s h) ∧ AAll P nt fo ops Q fuel listed s h r
section
variable {P : Program} {nt : Nat} {fo : List Nat} {ops : Array Oper} {Q : APost} {s : Slots} {h : AH} {listed : Array Bool} {fuel : Nat}
theorem aall_mem [Glb] : ∀ {l : List Nat}, AAll P nt fo ops Q fuel listed s h l → ∀ i ∈ l, ∃ o, ops[i]? = some o ∧ AWpL P nt fo ops [o] (thenQ (AAny P nt fo ops Q fuel (listed.setIfInBounds i true)) Q) s h
 | [], _, i, hi => by cases hi
 | j :: r, ⟨h1, h2⟩, i, hi => by
   rcases List.mem_cons.1 hi with rfl | hi
   · exact h1
   · exact aall_mem h2 i hi
theorem aany_step [Glb] (l : List Nat) (hr : Region.ready .any ops listed = l) (hne : l ≠ []) (ha : AAll P nt fo ops Q fuel listed s h l) : AAny P nt fo ops Q (fuel + 1) listed s h := by
 intro E a w I R
 refine ⟨fun he => absurd (hr.symm.trans he) hne, fun i hi => ?_⟩
 rw [hr] at hi
 obtain ⟨o, ho, hw⟩ := aall_mem ha i hi
 have := hw E a w I R
 unfold wpList at this
 unfold wpOp
 rw [ho]
 simp only
 split at this
 · rename_i hc
   rw [if_pos hc]
   rcases this with q | q
   · refine .inl (wp_change (Q1 := fun e a' w' => ∃ s' h', thenQ (AAny P nt fo ops Q fuel (listed.setIfInBounds i true)) Q e s' h' ∧ Rel E nt s' h' a' w') (fun a' w' q => ?_) (fun c a' w' q => q) (fun ⟨a', w', q⟩ => ⟨a', w', q⟩) q)
     obtain ⟨s', h', q1, R'⟩ := q
     exact q1 E a' w' I R'
   · exact .inr ⟨q.1, q.2⟩
 · rename_i hc
   rw [if_neg hc]
   obtain ⟨s', h', q1, R'⟩ := this
   exact q1 E _ w I R'
theorem aany_end [Glb] (hr : Region.ready .any ops listed = []) (hq : Q .normal s h) : AAny P nt fo ops Q fuel listed s h := by
 intro E a w I R
 cases fuel with
 | zero => exact ⟨hr, s, h, hq, R⟩
 | succ fuel => exact ⟨fun _ => ⟨s, h, hq, R⟩, fun i hi => by rw [hr] at hi; cases hi⟩
theorem awp_any [Glb] (hf : P.follows .mixedOrders = true) {id : Nat} {ops : List Oper} (hr : AAny P nt fo ops.toArray Q ops.length (Array.replicate ops.length false) s h) : AWp P nt fo (.region id ops.toArray true) Q s h := by
 intro E a w I ⟨gs, R⟩
 refine wp_region_any hf ?_
 have := hr E a { w with drawn := w.drawn + 1 } I ⟨gs, R.grow ⟨rfl, rfl, rfl, Nat.le_refl _, fun _ _ => rfl⟩⟩
 simpa using this
end
end Go.Am
namespace Go.Am
open Go.RowKit
def upEdges (ops : Array Oper) : Bool := ops.toList.zipIdx.all fun p => p.1.after.toList.all fun e => !Region.binds .any e || decide (e.on < p.2)
def dstsOk (ops : Array Oper) : Bool := (List.range ops.size).all fun i => (List.range ops.size).all fun j => i == j || (match dstAt ops i, dstAt ops j with
 | some a, some b => a != b
 | _, _ => true)
structure Fam (ops : Array Oper) (dead : Nat → Bool) (L : Nat → Bool) (i : Nat) : Prop where
 out : L i = false
 ready : ∀ o e, ops[i]? = some o → e ∈ o.after.toList → Region.binds .any e = true → L e.on = true
 closed : ∀ j o e, ops[j]? = some o → L j = true → e ∈ o.after.toList → Region.binds .any e = true → L e.on = true
 alive : ∀ j, dead j = true → L j = false
section
variable {ops : Array Oper} {xs : Nat → AV} {es : Nat → Option (Nat × AObj)} {s0 : Nat → AV} {h0 : AH} {dead : Nat → Bool} {L : Nat → Bool}
theorem dstsOk_spec (hd : dstsOk ops = true) {i j : Nat} {t : Tmp} (hi : dstAt ops i = some t) (hj : dstAt ops j = some t) : i = j := by
 have lt : ∀ i, dstAt ops i = some t → i < ops.size := fun i h => by
   unfold dstAt at h
   rcases Nat.lt_or_ge i ops.size with q | q
   · exact q
   · rw [Array.getElem?_eq_none q] at h; cases h
 unfold dstsOk at hd
 rw [List.all_eq_true] at hd
 have h1 := hd i (List.mem_range.2 (lt i hi))
 rw [List.all_eq_true] at h1
 have h2 := h1 j (List.mem_range.2 (lt j hj))
 rw [hi, hj] at h2
 simpa using h2
theorem SL_get (hd : dstsOk ops = true) {j t : Nat} (hj : dstAt ops j = some t) : ∀ k, SL ops xs s0 L k t = if j < k ∧ L j = true then xs j else s0 t
 | 0 => by simp [SL]
 | k + 1 => by
   have ih := SL_get hd hj k
   simp only [SL]
   by_cases hk : k = j
   · subst hk
     rw [if_neg (by omega)] at ih
     cases hl : L k with
     | true => simp [updO, hj, upd]
     | false => simpa using ih
   · have hne : ¬ dstAt ops k = some t := fun e => hk (dstsOk_spec hd e hj)
     have e : ∀ q : Prop, (j < k + 1 ∧ q) = (j < k ∧ q) := fun q => by
       have : (j < k + 1) = (j < k) := propext ⟨fun _ => by omega, fun _ => by omega⟩
       rw [this]
     simp only [e]
     split
     · rw [updO_ne hne]; exact ih
     · exact ih
theorem SL_no {t : Nat} (h : ((List.range ops.size).all fun j => dstAt ops j != some t) = true) : ∀ k, k ≤ ops.size → SL ops xs s0 L k t = s0 t
 | 0, _ => rfl
 | k + 1, hk => by
   have ih := SL_no h k (by omega)
   rw [List.all_eq_true] at h
   have hne : ¬ dstAt ops k = some t := by
     have := h k (List.mem_range.2 (by omega))
     simpa using this
   simp only [SL]
   split
   · rw [updO_ne hne]; exact ih
   · exact ih
theorem sl_out {t : Nat} (h : ((List.range ops.size).all fun j => dstAt ops j != some t) = true) : SL ops xs s0 L ops.size t = s0 t := SL_no h _ (Nat.le_refl _)
end
section
variable {P : Program} {nt : Nat} {fo : List Nat} {Q : APost} {s : Slots} {h : AH}
end
section
variable {ops : Array Oper} {dead : Nat → Bool} {L : Nat → Bool} {i : Nat}
theorem Fam.old {xs s0 : Nat → AV} (_ : Fam ops dead L i) (t : Nat) (h : ((List.range ops.size).all fun j => dstAt ops j != some t) = true) : SL ops xs s0 L ops.size t = s0 t := sl_out h
variable {es : Nat → Option (Nat × AObj)} {h0 : AH}
end
end Go.Am
namespace Go.Am
open Go.RowKit Go.WideShapes Go.ChangeShapes
section
variable {H : Type} {enc : TypeId × Value → H} {P : Program} {w : World} {base : Nat} {spare : Nat → Bool} {held : Bool}
def RCs (w : World) (Z : Nat → Prop) (vs : List Value) (xs : List CV) : Prop := vs.length = xs.length ∧ ∀ i, i < xs.length → (vs.getD i undef).oneCell' = true ∧ RC w Z (vs.getD i undef) (xs.getD i .any)
theorem RCs.one {Z : Nat → Prop} {v : Value} {x : CV} (h1 : v.oneCell' = true) (h2 : RC w Z v x) : RCs w Z [v] [x] := by
 refine ⟨rfl, fun i hi => ?_⟩
 have : i = 0 := by simpa using hi
 subst this
 exact ⟨h1, h2⟩
theorem RCs.nil {Z : Nat → Prop} : RCs w Z [] [] := ⟨rfl, fun i hi => by simp at hi⟩
theorem RCs.append {Z : Nat → Prop} {vs us : List Value} {xs ys : List CV} (h : RCs w Z vs xs) (k : RCs w Z us ys) : RCs w Z (vs ++ us) (xs ++ ys) := by
 refine ⟨by simp [h.1, k.1], fun i hi => ?_⟩
 have hl := h.1
 by_cases hi' : i < xs.length
 · have := h.2 i hi'
   simp only [List.getD_eq_getElem?_getD] at this ⊢
   rw [List.getElem?_append_left (by omega), List.getElem?_append_left hi']
   exact this
 · have := k.2 (i - xs.length) (by simp at hi; omega)
   simp only [List.getD_eq_getElem?_getD] at this ⊢
   rw [List.getElem?_append_right (by omega), List.getElem?_append_right (by omega), hl]
   exact this
theorem mapM_get {α β : Type} {f : α → Option β} : ∀ {l : List α} {r : List β}, l.mapM f = some r → r.length = l.length ∧ ∀ i (h : i < l.length), ∃ y, f l[i] = some y ∧ r[i]? = some y
 | [], r, h => by
   simp at h
   subst h
   exact ⟨rfl, fun i h => by simp at h⟩
 | x :: l, r, h => by
   rw [List.mapM_cons] at h
   simp only [Option.bind_eq_bind, Option.bind_eq_some_iff, Option.pure_def, Option.some.injEq] at h
   obtain ⟨y, hy, q, hq, rfl⟩ := h
   obtain ⟨h1, h2⟩ := mapM_get hq
   refine ⟨by simp [h1], fun i hi => ?_⟩
   cases i with
   | zero => exact ⟨y, hy, rfl⟩
   | succ i =>
     obtain ⟨z, hz, hr⟩ := h2 i (by simpa using hi)
     exact ⟨z, by simpa using hz, by simpa using hr⟩
theorem mapM_mem {α β : Type} {f : α → Option β} {l : List α} {r : List β} (h : l.mapM f = some r) {x : α} (hx : x ∈ l) : ∃ y, f x = some y := by
 obtain ⟨i, hi, rfl⟩ := List.getElem_of_mem hx
 obtain ⟨y, hy, _⟩ := (mapM_get h).2 i hi
 exact ⟨y, hy⟩
theorem trod_int {fuel : Nat} {t : TypeId} {k : IntKind} {cs : List Value} {x : DataW H × List MemPlace} (h : DataW.trod enc P w base spare held fuel t cs = some x) (hu : P.underlying t = some (.int k)) : ∃ n, cs = [.int k n] ∧ (Lit.int k n).wf = true := by
 cases fuel with
 | zero => simp [DataW.trod] at h
 | succ fuel =>
   unfold DataW.trod at h
   rw [hu] at h
   split at h <;> simp_all
theorem trod_bool {fuel : Nat} {t : TypeId} {cs : List Value} {x : DataW H × List MemPlace} (h : DataW.trod enc P w base spare held fuel t cs = some x) (hu : P.underlying t = some .bool) : ∃ b, cs = [.bool b] := by
 cases fuel with
 | zero => simp [DataW.trod] at h
 | succ fuel =>
   unfold DataW.trod at h
   rw [hu] at h
   split at h <;> simp_all
theorem trod_str {fuel : Nat} {t : TypeId} {cs : List Value} {x : DataW H × List MemPlace} (h : DataW.trod enc P w base spare held fuel t cs = some x) (hu : P.underlying t = some .string) : ∃ s, cs = [.string s] ∧ s.size ≤ maxLen := by
 cases fuel with
 | zero => simp [DataW.trod] at h
 | succ fuel =>
   unfold DataW.trod at h
   rw [hu] at h
   split at h <;> simp_all
theorem trod_struct {fuel : Nat} {t : TypeId} {cs : List Value} {x : DataW H × List MemPlace} {fs : Array Field} (h : DataW.trod enc P w base spare held fuel t cs = some x) (hu : P.underlying t = some (.struct fs)) :
   ∃ n, fuel = n + 1 ∧ cs.length = P.cellsOf t ∧ ∀ f ∈ fs.toList, ∃ y, DataW.trod enc P w base spare held n f.type ((cs.drop f.offset).take (P.cellsOf f.type)) = some y := by
 cases fuel with
 | zero => simp [DataW.trod] at h
 | succ fuel =>
   unfold DataW.trod at h
   simp only [hu] at h
   split at h
   · rename_i hl
     rw [Option.map_eq_some_iff] at h
     obtain ⟨r, hr, _⟩ := h
     exact ⟨fuel, rfl, hl, fun f hf => mapM_mem hr hf⟩
   · cases h
theorem trod_slice {fuel : Nat} {t e : TypeId} {cs : List Value} {x : DataW H × List MemPlace} (h : DataW.trod enc P w base spare held fuel t cs = some x) (hu : P.underlying t = some (.slice e)) :
   ∃ n, fuel = n + 1 ∧ (cs = [.slice none 0 0] ∨ ∃ a len cap, cs = [.slice (some a) len cap] ∧ len ≤ cap ∧ cap ≤ maxLen ∧
     ∀ i, i < len → ∃ vs y, w.cells? base (a.add (i * P.cellsOf e)) (P.cellsOf e) = some vs ∧ DataW.trod enc P w base spare held n e vs = some y) := by
 cases fuel with
 | zero => simp [DataW.trod] at h
 | succ fuel =>
   refine ⟨fuel, rfl, ?_⟩
   unfold DataW.trod at h
   rw [hu] at h
   split at h <;> simp_all only [reduceCtorEq, Option.some.injEq, TypeDesc.slice.injEq]
   · exact .inl trivial
   · refine .inr ⟨_, _, _, rfl, ?_⟩
     rename_i a len cap
     split at h
     · rename_i hl
       refine ⟨hl.2.1, hl.2.2, fun i hi => ?_⟩
       rw [Option.bind_eq_some_iff] at h
       obtain ⟨r, hr, _⟩ := h
       obtain ⟨y, hy⟩ := mapM_mem hr (List.mem_range.2 hi)
       rw [Option.bind_eq_some_iff] at hy
       obtain ⟨vs, h1, h2⟩ := hy
       subst_vars
       exact ⟨vs, y, h1, h2⟩
     · cases h
theorem cells_get {a : Addr} {n : Nat} {vs : List Value} (h : w.cells? base a n = some vs) : vs.length = n ∧ ∀ i, i < n → w.cell? (a.add i) = some (vs.getD i undef) := by
 unfold World.cells? at h
 split at h
 · obtain ⟨h1, h2⟩ := mapM_get h
   refine ⟨by simpa using h1, fun i hi => ?_⟩
   obtain ⟨y, hy, hr⟩ := h2 i (by simpa using hi)
   rw [List.getElem_range] at hy
   rw [hy, List.getD_eq_getElem?_getD, hr]
   rfl
 · cases h
theorem cell_lt {a : Addr} {v : Value} (h : w.cell? a = some v) : a.block < w.heap.size := by
 unfold World.cell? at h
 by_cases hl : a.block < w.heap.size
 · exact hl
 · rw [Array.getElem?_eq_none (by omega)] at h
   cases h
theorem open_slice {X : Type} [Inhabited X] (f : X → List CV) (sz : Nat) (hsz : ∀ x, (f x).length = sz) {fuel : Nat} {t e : TypeId} {cs : List Value} {x : DataW H × List MemPlace} (h : DataW.trod enc P w base spare held fuel t cs = some x)
   (hu : P.underlying t = some (.slice e)) (hc : P.cellsOf e = sz) (hp : 0 < sz) (he : ∀ n, n < fuel → ∀ vs y, DataW.trod enc P w base spare held n e vs = some y → ∃ x, RCs w (fun _ => False) vs (f x)) :
   ∃ l : List X, RCs w (fun _ => False) cs [.im sz l.length fun i => f (l.getD i default)] ∧ l.length ≤ maxLen := by
 obtain ⟨n, rfl, rfl | ⟨a, len, cap, rfl, hl, hm, hel⟩⟩ := trod_slice h hu
 · exact ⟨[], .one rfl (.nul _ _ _ _), Nat.zero_le _⟩
 · rw [hc] at hel
   have hx : ∀ i, i < len → ∃ x, ∀ j, j < sz → ∃ v, w.cell? (a.add (i * sz + j)) = some v ∧ v.oneCell' = true ∧ RC w (fun _ => False) v ((f x).getD j .any) := by
     intro i hi
     obtain ⟨vs, y, h1, h2⟩ := hel i hi
     obtain ⟨x, hx⟩ := he n (Nat.lt_succ_self _) vs y h2
     obtain ⟨h3, h4⟩ := cells_get h1
     refine ⟨x, fun j hj => ⟨vs.getD j undef, ?_, hx.2 j (by rw [hsz]; exact hj)⟩⟩
     have := h4 j hj
     rwa [add_add] at this
   have hl2 : ∃ l : List X, l.length = len ∧ ∀ i, i < len → ∀ j, j < sz → ∃ v, w.cell? (a.add (i * sz + j)) = some v ∧ v.oneCell' = true ∧ RC w (fun _ => False) v ((f (l.getD i default)).getD j .any) := by
     clear hel hl hm h
     induction len with
     | zero => exact ⟨[], rfl, fun i hi => by omega⟩
     | succ len ih =>
       obtain ⟨l, h1, h2⟩ := ih (fun i hi => hx i (by omega))
       obtain ⟨x, h3⟩ := hx len (by omega)
       refine ⟨l ++ [x], by simp [h1], fun i hi => ?_⟩
       by_cases e : i < len
       · have := h2 i e
         rw [List.getD_eq_getElem?_getD, List.getElem?_append_left (by omega), ← List.getD_eq_getElem?_getD]
         exact this
       · have : i = len := by omega
         subst this
         rw [List.getD_eq_getElem?_getD, List.getElem?_append_right (by omega), h1, Nat.sub_self]
         exact h3
   obtain ⟨l, h1, h2⟩ := hl2
   refine ⟨l, .one rfl ?_, by omega⟩
   rw [h1]
   cases Nat.eq_zero_or_pos len with
   | inl e => subst e; exact .nul _ _ _ _
   | inr e =>
     have hg : ∀ j, j < len * sz → ∃ v, w.cell? (a.add j) = some v ∧ v.oneCell' = true := by
       intro j hj
       obtain ⟨v, q1, q2, _⟩ := h2 (j / sz) (Nat.div_lt_of_lt_mul (by rw [Nat.mul_comm]; exact hj)) (j % sz) (Nat.mod_lt _ hp)
       rw [Nat.mul_comm, Nat.div_add_mod] at q1
       exact ⟨v, q1, q2⟩
     refine .im a len cap sz _ (fun j => (w.cell? (a.add j)).getD undef) (fun h => h) ?_ hl (fun j hj => ?_) (fun j hj => ?_) (fun i _ => hsz _) fun i j hi hj => ?_
     · obtain ⟨v, q1, _⟩ := hg 0 (Nat.mul_pos e hp)
       have := cell_lt q1
       rwa [block_add] at this
     · obtain ⟨v, q1, _⟩ := hg j hj
       rw [q1]
       rfl
     · obtain ⟨v, q1, q2⟩ := hg j hj
       rw [q1]
       exact q2
     · obtain ⟨v, q1, _, q3⟩ := h2 i hi j hj
       rw [q1]
       exact q3
end
section
variable {H : Type} {enc : TypeId × Value → H} {P : Program}
end
end Go.Am
namespace Go.Am
end Go.Am
namespace Go.Am
open Go.RowKit
section
variable {α : Type} {F : α → AV} {k : ByteArray} {v : α}
end
end Go.Am
namespace Go.Am
open Go.RowKit
theorem choose_lt {q : Question} {w : World} {n : Nat} (hq : q = .mapNext n) (hn : 0 < n) (P : Program) : ∃ k w1, k < n ∧ (w1 = w ∨ w1 = w.drew) ∧ (choose q).run P w = .ok k w1 := by
 subst hq
 by_cases h : Question.forced (.mapNext n) = true
 · refine ⟨0, w, hn, .inl rfl, ?_⟩
   simp [choose, Sem.run, h]
 · refine ⟨(Question.mapNext n).cut (w.tape w.drawn (.mapNext n)), w.drew, ?_, .inr rfl, ?_⟩
   · simp only [Question.forced, decide_eq_true_eq] at h
     simp only [Question.cut]
     exact Nat.mod_lt _ hn
   · simp [choose, Sem.run, h]
theorem run_next_map {P : Program} {w : World} {r m since last clock : Nat} {seen : Array Nat} {es : Array MapEntry} {ty : TypeId} (hr : w.heap[r]? = some (.mapIter (some m) since seen last)) (hm : w.heap[m]? = some (.map es clock))
   (hok : (!seen.isEmpty && !es.isEmpty && es.all (fun e => decide (e.born ≥ last))) = false) (hold : ∀ e ∈ es, e.born < since) :
   ∃ w1, (w1 = w ∨ w1 = w.drew) ∧
     ((∃ e ∈ es, seen.contains e.born = false ∧ (Instr.next (.pointer (some ⟨r, 0, none⟩)) false ty).run P w = .ok (.tuple #[.bool true, e.key, e.val]) { w1 with heap := w1.heap.setIfInBounds r (.mapIter (some m) since (seen.push e.born) clock) }) ∨
      ((∀ e ∈ es, seen.contains e.born = true) ∧ (Instr.next (.pointer (some ⟨r, 0, none⟩)) false ty).run P w = .ok (.tuple #[.bool false]) w1)) := by
 have g1 : ∀ w : World, w.heap[r]? = some (.mapIter (some m) since seen last) → (getObj r).run P w = .ok (.mapIter (some m) since seen last) w := fun w h => by simp [getObj, Sem.run, h]
 have g2 : (getObj m).run P w = .ok (.map es clock) w := MapKept.run_getObj_map hm
 have hnew : (es.filter fun e => !seen.contains e.born).filter (fun e => decide (e.born ≥ since)) = #[] := by
   rw [Array.filter_eq_empty_iff]
   intro e he
   have := hold e (Array.mem_filter.1 he).1
   simp; omega
 have holdA : (es.filter fun e => !seen.contains e.born).filter (fun e => decide (e.born < since)) = es.filter fun e => !seen.contains e.born := by
   rw [Array.filter_eq_self]
   intro e he
   simpa using hold e (Array.mem_filter.1 he).1
 obtain ⟨left, hleft⟩ : ∃ left, left = es.filter fun e => !seen.contains e.born := ⟨_, rfl⟩
 rw [← hleft] at hnew holdA
 have hmem : ∀ e, e ∈ left ↔ e ∈ es ∧ seen.contains e.born = false := fun e => by rw [hleft, Array.mem_filter]; simp
 have hc : ((if left.isEmpty then #[none] else #[]) ++ (left ++ #[]).map some : Array (Option MapEntry)) = if left.isEmpty then #[none] else left.map some := by
   by_cases h : left.isEmpty = true
   · have : left = #[] := by simpa using h
     subst this
     simp
   · simp [h]
 obtain ⟨cand, hcand⟩ : ∃ cand : Array (Option MapEntry), cand = if left.isEmpty then #[none] else left.map some := ⟨_, rfl⟩
 have hpos : 0 < cand.size := by
   rw [hcand]
   split
   · decide
   · rename_i h
     have : left ≠ #[] := by simpa using h
     rw [Array.size_map]
     exact Array.size_pos_iff.2 this
 obtain ⟨k, w1, hk, hw1, hrun⟩ := choose_lt (w := w) (q := .mapNext cand.size) rfl hpos P
 refine ⟨w1, hw1, ?_⟩
 have hheap : w1.heap = w.heap := by rcases hw1 with rfl | rfl <;> rfl
 have hset : ∀ o', (setObj r o').run P w1 = .ok () { w1 with heap := w1.heap.setIfInBounds r o' } := fun o' => by
   have : w1.heap[r]? = some (.mapIter (some m) since seen last) := by rw [hheap]; exact hr
   simp [setObj, Sem.run, this]
 have hgo : (Instr.next (.pointer (some ⟨r, 0, none⟩)) false ty).run P w = ((match cand[k]? with
     | some (some e) => do
       setObj r (.mapIter (some m) since (seen.push e.born) clock)
       pure (.tuple #[.bool true, e.key, e.val])
     | some none => pure (.tuple #[.bool false])
     | none => stuck "Next: no such candidate" : Sem Value)).run P w1 := by
   simp only [Instr.next, Sem.run_bind, g1 w hr, Result.andThen_ok, g2, hok, Bool.false_eq_true, if_false, hnew, holdA, ← hleft, hc, ← hcand, hrun]
   rfl
 by_cases hl : left.isEmpty = true
 · right
   have hle : left = #[] := by simpa using hl
   refine ⟨fun e he => ?_, ?_⟩
   · cases hs : seen.contains e.born with
     | true => rfl
     | false =>
       have := (hmem e).2 ⟨he, hs⟩
       rw [hle] at this
       simp at this
   · rw [if_pos hl] at hcand
     subst hcand
     have : k = 0 := by simpa using hk
     subst this
     rw [hgo]
     rfl
 · left
   rw [if_neg hl] at hcand
   subst hcand
   have hk' : k < left.size := by simpa using hk
   have he : (left.map some)[k]? = some (some left[k]) := by simp [hk']
   rw [he] at hgo
   obtain ⟨h1, h2⟩ := (hmem left[k]).1 (Array.getElem_mem hk')
   refine ⟨left[k], h1, h2, ?_⟩
   rw [hgo]
   simp only [Sem.run_bind, hset, Result.andThen_ok, Sem.run_pure]
section
variable {P : Program} {nt : Nat} {fo : List Nat} {s : Slots} {h : AH} {Q : APost} {ops : Array Oper} {l : List Oper}
theorem awpl_rangeM [Glb] {d o c : Nat} {t kt et ty : TypeId} {y : Operand} {pos : String} {af : Array Edge} {es : List (Value × Nat × AV)} (hn : AWpL P nt fo ops l Q (upd s d (.iref d)) (upd h d (.iter o c [] c))) (hy : ev s y = .mref o) (ho : h o = .map es c) (hu : P.underlying t = some (.map kt et)) (hgo : h d = .gone) (hd : d < nt) :
   AWpL P nt fo ops (⟨some d, .range t y, ty, pos, af, none⟩ :: l) Q s h := by
 intro E a w I ⟨gs, R⟩
 have hv := ev_ok R y
 rw [hy] at hv
 generalize hvy : a.eval y = vy at hv
 cases hv with
 | mref _ bm Km es0 c0 ho0 hg0 =>
 have hob := R.objs o
 rw [ho] at hob
 obtain ⟨b', K', ents, q1, q2, q3, q4, q5⟩ := hob
 rw [hg0] at q1
 simp only [Option.some.injEq, Prod.mk.injEq] at q1
 obtain ⟨rfl, rfl⟩ := q1
 have hod : o ≠ d := fun e => by subst e; rw [hgo] at ho; cases ho
 unfold wpList
 rw [if_pos (by simp [Region.wanted])]
 refine .inl ?_
 unfold Oper.wp
 have hr : (execOp a.eval ⟨some d, .range t y, ty, pos, af, none⟩).run P w = .ok (.value (.pointer (some ⟨w.heap.size, 0, none⟩))) (w.alloc (.mapIter (some bm) c #[] c)) := by
   simp [execOp, hvy, Instr.range, run_underlying hu, MapKept.run_getObj_map q2]
 rw [hr]
 refine hn E _ _ I ⟨_, RelG.put (R.eff (w' := w.alloc (.mapIter (some bm) c #[] c)) d (.iter o c [] c) (some (w.heap.size, 0)) rfl rfl rfl (by simp) (fun k hk _ => Below.heap_alloc w _ k hk) (.inr ⟨_, _, rfl, Nat.le_refl _, by simp⟩) (fun ty cells e => by rw [hgo] at e; cases e) (fun ty sz n f e => by rw [hgo] at e; cases e)
   (fun _ _ => ⟨w.heap.size, 0, bm, Km, es, c, upd_same _ _ _, by rw [upd_ne _ _ _ _ hod]; exact ho, by rw [upd_ne _ _ _ _ hod]; exact hg0, by unfold World.alloc; simp⟩) (fun es c e => by rw [hgo] at e; cases e) (fun m s l t e => by rw [hgo] at e; cases e)) hd (.iref d w.heap.size 0 o c [] c (upd_same _ _ _) (upd_same _ _ _))⟩
theorem awpl_nextM [Glb] {d i m since last c : Nat} {ty : TypeId} {y : Operand} {pos : String} {af : Array Edge} {seen : List Nat} {es : List (Value × Nat × AV)}
   (hend : (∀ e ∈ es, e.2.1 ∈ seen) → AWpL P nt fo ops l Q (upd s d (.c (.tup [.bool false]))) h)
   (hgo : ∀ e ∈ es, e.2.1 ∉ seen → ∀ y', e.2.2.closed1 = some y' → AWpL P nt fo ops l Q (upd s d (.c (.tup [.bool true, .raw e.1, y']))) (upd h i (.iter m since (seen ++ [e.2.1]) c)))
   (hold : ∀ e ∈ es, e.2.1 < since) (hlast : seen = [] ∨ ∃ e ∈ es, e.2.1 < last) (hcl : (es.all fun e => e.2.2.closed1.isSome) = true)
   (hy : ev s y = .iref i) (hi : h i = .iter m since seen last) (hm : h m = .map es c) (hd : d < nt) : AWpL P nt fo ops (⟨some d, .next y false, ty, pos, af, none⟩ :: l) Q s h := by
 intro E a w I ⟨gs, R⟩
 have hv := ev_ok R y
 rw [hy] at hv
 generalize hvy : a.eval y = vy at hv
 cases hv with
 | iref _ b K m0 since0 seen0 last0 hi0 hg0 =>
 have hobI := R.objs i
 rw [hi] at hobI
 obtain ⟨b1, K1, bm, Km, es1, c1, p1, p2, p3, p4⟩ := hobI
 rw [hg0] at p1
 simp only [Option.some.injEq, Prod.mk.injEq] at p1
 obtain ⟨rfl, rfl⟩ := p1
 have hobM := R.objs m
 rw [hm] at hobM
 obtain ⟨b2, K2, ents, q1, q2, q3, q4, q5⟩ := hobM
 rw [p3] at q1
 simp only [Option.some.injEq, Prod.mk.injEq] at q1
 obtain ⟨rfl, rfl⟩ := q1
 have H : EntsOk w (Zf E.Z gs) h gs ents es := ⟨q3, q4, q5⟩
 have hget : ∀ (j : Nat) (hj : j < es.length), ents.toList[j]? = some (ents[j]'(by rw [q3]; exact hj)) := fun j hj => by rw [Array.getElem?_toList]; exact Array.getElem?_eq_getElem (by rw [q3]; exact hj)
 have hbn : ∀ e ∈ ents, ∃ x ∈ es, x.2.1 = e.born ∧ x.1 = e.key ∧ RA w (Zf E.Z gs) h gs e.val x.2.2 := by
   intro e he
   obtain ⟨j, hj, rfl⟩ := Array.getElem_of_mem he
   have hj' : j < es.length := by rw [← q3]; exact hj
   obtain ⟨h1, h2, h3⟩ := H.get hj' (hget j hj')
   exact ⟨es[j], List.getElem_mem hj', h2.symm, h1.symm, h3⟩
 have hnb : ∀ x ∈ es, ∃ e ∈ ents, x.2.1 = e.born := by
   intro x hx
   obtain ⟨j, hj, rfl⟩ := List.getElem_of_mem hx
   exact ⟨_, Array.getElem_mem (by rw [q3]; exact hj), (H.get hj (hget j hj)).2.1.symm⟩
 obtain ⟨w1, hw1, hor⟩ := run_next_map (P := P) (ty := ty) p4 q2 (by
   rcases hlast with rfl | ⟨x, hx, hxl⟩
   · simp
   · obtain ⟨e, he, heq⟩ := hnb x hx
     have : (ents.all fun e => decide (e.born ≥ last)) = false := by
       rw [Bool.eq_false_iff]
       intro hall
       rw [Array.all_eq_true_iff_forall_mem] at hall
       have := hall e he
       simp at this
       omega
     rw [this, Bool.and_false]) (fun e he => by
   obtain ⟨x, hx, h1, _⟩ := hbn e he
   rw [← h1]
   exact hold x hx)
 have R1 : RelG E nt s h gs a w1 := by
   rcases hw1 with rfl | rfl
   · exact R
   · exact R.grow ⟨rfl, rfl, rfl, Nat.le_refl _, fun _ _ => rfl⟩
 have hheap : w1.heap = w.heap := by rcases hw1 with rfl | rfl <;> rfl
 unfold wpList
 rw [if_pos (by simp [Region.wanted])]
 refine .inl ?_
 unfold Oper.wp
 rcases hor with ⟨e, he, hns, hrun⟩ | ⟨hall, hrun⟩
 · obtain ⟨x, hx, h1, h2, h3⟩ := hbn e he
   have hr : (execOp a.eval ⟨some d, .next y false, ty, pos, af, none⟩).run P w = .ok (.value (.tuple #[.bool true, e.key, e.val])) { w1 with heap := w1.heap.setIfInBounds b (.mapIter (some bm) since (seen.toArray.push e.born) c) } := by
     simp [execOp, hvy, hrun]
   rw [hr]
   have hlt : b < w1.heap.size := by rw [hheap]; exact (R.fresh i b K hg0).2
   have hmi : m ≠ i := fun e => by subst e; rw [hm] at hi; cases hi
   have e0 : upd gs i (gs i) = gs := funext fun q => by unfold upd; split <;> simp_all
   have R' := R1.eff (w' := { w1 with heap := w1.heap.setIfInBounds b (.mapIter (some bm) since (seen.toArray.push e.born) c) }) i (.iter m since (seen ++ [x.2.1]) c) (gs i) rfl rfl rfl (by simp) (fun q _ hq => by
       have : b ≠ q := fun e => hq K (by rw [← e]; exact hg0)
       simp only
       rw [Array.getElem?_setIfInBounds_ne this]) (.inl rfl) (fun ty cells e => by rw [hi] at e; cases e) (fun ty sz n f e => by rw [hi] at e; cases e)
       (fun _ _ => ⟨b, K, bm, Km, es, c, by rw [upd_same]; exact hg0, by rw [upd_ne _ _ _ _ hmi]; exact hm, by rw [upd_ne _ _ _ _ hmi]; exact p3, by
         simp only [Array.getElem?_setIfInBounds_self_of_lt hlt]
         rw [h1]
         simp⟩) (fun es c e => by rw [hi] at e; cases e) (fun m' s' l' t' e => ⟨⟨_, _, _, _, rfl⟩, rfl⟩)
   rw [e0] at R'
   have hclx := List.all_eq_true.1 hcl x hx
   obtain ⟨y', hy'⟩ := Option.isSome_iff_exists.1 hclx
   have hns' : x.2.1 ∉ seen := by
     rw [h1]
     intro hmem
     have : seen.toArray.contains e.born = true := by simpa using hmem
     rw [this] at hns
     cases hns
   refine hgo x hx hns' y' hy' E _ _ I ⟨gs, RelG.put R' hd (.c _ _ (.tup _ _ rfl fun q hq => ?_))⟩
   match q, hq with
   | 0, _ => exact .raw _
   | 1, _ => rw [h2]; exact .raw _
   | 2, _ =>
     have := h3.closed1_of hy'
     refine this.later ⟨by simp [hheap], fun k hk _ => ?_, fun k hk _ => hk⟩
     have hkb : b ≠ k := fun e => hk (.inr ⟨i, K, by rw [← e]; exact hg0⟩)
     show (w1.heap.setIfInBounds b _)[k]? = w.heap[k]?
     rw [Array.getElem?_setIfInBounds_ne hkb, hheap]
 · have hr : (execOp a.eval ⟨some d, .next y false, ty, pos, af, none⟩).run P w = .ok (.value (.tuple #[.bool false])) w1 := by
     simp [execOp, hvy, hrun]
   rw [hr]
   refine hend (fun x hx => ?_) E _ _ I ⟨gs, RelG.put R1 hd (.c _ _ (.tup _ _ rfl fun q hq => ?_))⟩
   · obtain ⟨e, he, heq⟩ := hnb x hx
     have := hall e he
     rw [heq]
     simpa using this
   · match q, hq with
     | 0, _ => exact .raw _
end
end Go.Am
namespace Go.Am
open Go.RowKit
theorem weak_shrink [Glb] {fo : List Nat} {s : Slots} {h : AH} (t o o' k : Nat) {ty : TypeId} {sz n : Nat} {f : Nat → List CV} (ho : h o = .row ty sz n f) (hgo : h o' = .gone) (hs : s t = .osub o n 0 k) :
   Weak fo s h (upd s t (.own o' k)) (upd (upd h o (.row ty sz (n + 1) f)) o' (.row ty sz k f)) := by
 intro E nt a w I ⟨gs, R⟩
 obtain ⟨gs', hgs'⟩ : ∃ gs', gs' = upd (upd gs o none) o' (gs o) := ⟨_, rfl⟩
 obtain ⟨h', hh'⟩ : ∃ h', h' = upd (upd h o (.row ty sz (n + 1) f)) o' (.row ty sz k f) := ⟨_, rfl⟩
 have hne : o' ≠ o := fun e => by subst e; rw [ho] at hgo; cases hgo
 have ho1 : h' o' = .row ty sz k f := by rw [hh', upd_same]
 have ho2 : h' o = .row ty sz (n + 1) f := by rw [hh', upd_ne _ _ _ _ (Ne.symm hne), upd_same]
 have ho3 : ∀ q, q ≠ o → q ≠ o' → h' q = h q := fun q h1 h2 => by rw [hh', upd_ne _ _ _ _ h2, upd_ne _ _ _ _ h1]
 have hg1 : gs' o' = gs o := by rw [hgs', upd_same]
 have hg2 : gs' o = none := by rw [hgs', upd_ne _ _ _ _ (Ne.symm hne), upd_same]
 have hg3 : ∀ q, q ≠ o → q ≠ o' → gs' q = gs q := fun q h1 h2 => by rw [hgs', upd_ne _ _ _ _ h2, upd_ne _ _ _ _ h1]
 have oth : ∀ q x, h q = x → (∀ ty sz n f, x ≠ .row ty sz n f) → x ≠ .gone → q ≠ o ∧ q ≠ o' := fun q x e h1 h2 =>
   ⟨fun e' => by subst e'; rw [ho] at e; exact h1 _ _ _ _ e.symm, fun e' => by subst e'; rw [hgo] at e; exact h2 e.symm⟩
 have hr : Refs h gs h' gs' := by
   refine ⟨fun q ty' cells e => ?_, fun q ty' sz' n' f' e => ?_, fun q es c e => ?_, fun q m u l z e => ?_⟩
   · obtain ⟨h1, h2⟩ := oth q _ e (by simp) (by simp)
     exact ⟨⟨ty', cells, (ho3 q h1 h2).trans e⟩, hg3 q h1 h2⟩
   · by_cases h1 : q = o
     · subst h1
       rw [ho] at e
       injection e with e1 e2 e3 e4
       subst e1 e2 e3 e4
       exact ⟨n + 1, f, ho2, by omega, fun e => by omega⟩
     · have h2 : q ≠ o' := fun e' => by subst e'; rw [hgo] at e; cases e
       exact ⟨n', f', (ho3 q h1 h2).trans e, Nat.le_refl _, fun _ => hg3 q h1 h2⟩
   · obtain ⟨h1, h2⟩ := oth q _ e (by simp) (by simp)
     exact ⟨⟨es, c, (ho3 q h1 h2).trans e⟩, hg3 q h1 h2⟩
   · obtain ⟨h1, h2⟩ := oth q _ e (by simp) (by simp)
     exact ⟨⟨m, u, l, z, (ho3 q h1 h2).trans e⟩, hg3 q h1 h2⟩
 have src : ∀ q b K, gs' q = some (b, K) → q ≠ o ∧ gs (if q = o' then o else q) = some (b, K) := by
   intro q b K e
   by_cases h1 : q = o
   · subst h1; rw [hg2] at e; cases e
   · refine ⟨h1, ?_⟩
     by_cases h2 : q = o'
     · subst h2; rw [if_pos rfl, ← hg1]; exact e
     · rw [if_neg h2, ← hg3 q h1 h2]; exact e
 have hL : Later w w (Zf E.Z gs) (Zf E.Z gs') := by
   refine ⟨Nat.le_refl _, fun _ _ _ => rfl, fun b hb _ => ?_⟩
   rcases hb with hb | ⟨q, K, e⟩
   · exact .inl hb
   · exact .inr ⟨_, K, (src q b K e).2⟩
 have hob := R.objs o
 rw [ho] at hob
 have hst := R.slots t
 rw [hs] at hst
 have hkn : k ≤ n := by
   generalize a.tmps.getD t undef = v at hst
   cases hst with
   | osub A k' c _ _ _ _ ty' sz' n' f' ho' hL' hv =>
     rw [ho] at ho'
     injection ho' with e1 e2 e3 e4
     have := (hv e3).1
     omega
 rw [← hh']
 refine ⟨gs', R.below, R.zlt, R.zd, R.glob, fun q b K e => R.fresh _ b K (src q b K e).2, fun q q' b K K' e e' => ?_, fun q => ?_, fun t' => ?_, R.size, R.defers, R.refs.trans hr⟩
 · obtain ⟨n1, e1⟩ := src q b K e
   obtain ⟨n2, e2⟩ := src q' b K' e'
   have := R.inj _ _ b K K' e1 e2
   by_cases h1 : q = o' <;> by_cases h2 : q' = o'
   · rw [h1, h2]
   · rw [if_pos h1, if_neg h2] at this; exact absurd this.symm n2
   · rw [if_neg h1, if_pos h2] at this; exact absurd this n1
   · rw [if_neg h1, if_neg h2] at this; exact this
 · by_cases h1 : q = o'
   · subst h1
     rw [ho1]
     rcases hob with e | ⟨b, K, cur, e1, e2, e3, e4, e5, e6, e7, e8⟩
     · exact .inl (hg1.trans e)
     · exact .inr ⟨b, K, cur, hg1.trans e1, e2, e3, by omega, e5, fun i hi => e6 i (by omega), fun j hj => e7 j (Nat.lt_of_lt_of_le hj (Nat.mul_le_mul_right _ hkn)), fun i j hi hj => (e8 i j (by omega) hj).later hL⟩
   · by_cases h2 : q = o
     · subst h2
       rw [ho2]
       exact .inl hg2
     · rw [ho3 q h2 h1]
       exact (R.objs q).later hL hr (hg3 q h2 h1) fun _ _ _ => rfl
 · by_cases ht : t' = t
   · subst ht
     rw [upd_same]
     generalize a.tmps.getD t' undef = v at hst
     cases hst with
     | osub A k' c _ _ _ _ ty' sz' n' f' ho' hL' hv =>
       rw [ho] at ho'
       injection ho' with e1 e2 e3 e4
       subst e1 e2 e3 e4
       obtain ⟨q1, q2, q3, q4, q5⟩ := hv rfl
       refine .own A k' c o' k ty sz k f ho1 (Nat.le_refl _) fun _ => ?_
       rcases q5 with ⟨b, K, g1, g2, g3⟩ | ⟨g1, g2, g3⟩
       · exact .inl ⟨b, K, hg1.trans g1, g3 rfl, q2, by omega⟩
       · exact .inr ⟨hg1.trans g1, by omega, g2, by omega⟩
   · rw [upd_ne _ _ _ _ ht]
     exact (R.slots t').later hL hr
section
variable {P : Program} {nt : Nat} {fo : List Nat} {s : Slots} {h : AH} {Q : APost}
theorem awpl_shrink [Glb] {ops : Array Oper} {l : List Oper} (t o o' k : Nat) {ty : TypeId} {sz n : Nat} {f : Nat → List CV} (hn : AWpL P nt fo ops l Q (upd s t (.own o' k)) (upd (upd h o (.row ty sz (n + 1) f)) o' (.row ty sz k f))) (ho : h o = .row ty sz n f) (hgo : h o' = .gone) (hs : s t = .osub o n 0 k) : AWpL P nt fo ops l Q s h :=
 fun E a w I R => hn E a w I (weak_shrink t o o' k ho hgo hs E nt a w I R)
end
end Go.Am
namespace Go.Am
open Go.RowKit
theorem fill3 {c0 : Array Value} (hs : c0.size = 3) {v0 v1 v2 : Value} (h0 : v0.oneCell' = true) (h1 : v1.oneCell' = true) (h2 : v2.oneCell' = true) : Instr.fill (fun i => some (i * 1, 1)) c0 [(0, v0), (1, v1), (2, v2)] = some #[v0, v1, v2] := by
 obtain ⟨l⟩ := c0
 match l, hs with
 | [a, b, c], _ => simp [Instr.fill, cells_one h0, cells_one h1, cells_one h2, Array.zipIdx]
section
variable {P : Program} {nt : Nat} {fo : List Nat} {s : Slots} {h : AH} {Q : APost} {ops : Array Oper} {l : List Oper}
theorem awpl_bs3 [Glb] {d : Nat} {t ty : TypeId} {pos : String} {af : Array Edge} {y0 y1 y2 : Operand} {x0 x1 x2 : AV} {i j : TI} (hn : AWpL P nt fo ops l Q (upd s d (.bs d 3)) (upd h d (.box i.elem [x0, x1, x2])))
   (h0 : ev s y0 = x0) (h1 : ev s y1 = x1) (h2 : ev s y2 = x2) (o0 : x0.one = true) (o1 : x1.one = true) (o2 : x2.one = true) (ht : tinfo P t = some i) (hs : i.slice = true) (hj : tinfo P i.elem = some j) (hsz : j.size = 1) (hz : j.zero.isEmpty = false) (hgo : h d = .gone) (hd : d < nt) :
   AWpL P nt fo ops (⟨some d, .buildSlice t 3 #[(0, y0), (1, y1), (2, y2)], ty, pos, af, none⟩ :: l) Q s h := by
 intro E a w I ⟨gs, R⟩
 have c0 := ev_ok R y0
 have c1 := ev_ok R y1
 have c2 := ev_ok R y2
 rw [h0] at c0
 rw [h1] at c1
 rw [h2] at c2
 generalize hv0 : a.eval y0 = v0 at c0
 generalize hv1 : a.eval y1 = v1 at c1
 generalize hv2 : a.eval y2 = v2 at c2
 have q0 := c0.one_of o0
 have q1 := c1.one_of o1
 have q2 := c2.one_of o2
 obtain ⟨i', dd, t1, t2, -, -, -, t6, t7, -, -⟩ := tinfo_some ht
 obtain ⟨j', dj, u1, u2, u3, -, -, -, -, -, u9⟩ := tinfo_some hj
 cases dd with
 | slice el =>
   simp only at t6
   rw [t6] at u1 hn
   have hj1 : j'.size = 1 := by omega
   cases hzz : j'.zero with
   | none =>
     rw [hzz] at u9
     simp only at u9
     rw [u9] at hz
     cases hz
   | some z =>
     have hsize : (sizeOf el).run P w = .ok 1 w := by simp [sizeOf, typeInfo, u1, hj1]
     have hzero : (zeroValue el).run P w = .ok z w := by simp [zeroValue, typeInfo, u1, hzz]
     unfold wpList
     rw [if_pos (by simp [Region.wanted])]
     refine .inl ?_
     unfold Oper.wp
     have hf := fill3 (c0 := (Array.range (3 * 1)).map (z.cells[· % z.cells.size]!)) (by simp) q0 q1 q2
     have hr : (execOp a.eval ⟨some d, .buildSlice t 3 #[(0, y0), (1, y1), (2, y2)], ty, pos, af, none⟩).run P w = .ok (.value (.slice (some ⟨w.heap.size, 0, none⟩) 3 3)) (w.alloc (.cells #[v0, v1, v2] el)) := by
       simp only [execOp, Instr.buildSlice, Sem.run_bind, run_underlying t2, Result.andThen_ok, hsize, List.map_toArray, List.map_cons, List.map_nil, hv0, hv1, hv2]
       rw [if_neg (by decide), if_neg (by decide)]
       simp only [Sem.run_bind, hzero, Result.andThen_ok, Sem.run_pure, hf, newRow, run_newObj]
       rfl
     rw [hr]
     have R' := R.new d hgo (.box el [x0, x1, x2]) 0 el #[v0, v1, v2] fun hL hr => by
       refine ⟨w.heap.size, 0, _, upd_same _ _ _, heap_alloc_new w _, rfl, fun q hq => ?_, fun q hq => ?_⟩
       · match q, hq with
         | 0, _ => exact q0
         | 1, _ => exact q1
         | 2, _ => exact q2
       · match q, hq with
         | 0, _ => exact c0.later hL hr
         | 1, _ => exact c1.later hL hr
         | 2, _ => exact c2.later hL hr
     exact hn E _ _ I ⟨_, R'.put hd (.bs d 3 w.heap.size 0 el [x0, x1, x2] (upd_same _ _ _) (upd_same _ _ _))⟩
 | _ => simp_all
theorem awpl_capE [Glb] {d : Nat} {t el ty : TypeId} {pos : String} {af : Array Edge} {y : Operand} (hn : AWpL P nt fo ops l Q (upd s d (.int 0)) h) (hy : ev s y = .emp) (ht : P.underlying t = some (.slice el)) (hd : d < nt) :
   AWpL P nt fo ops (⟨some d, .call { callee := .builtin .cap, args := #[y], argTypes := #[t] }, ty, pos, af, none⟩ :: l) Q s h := by
 intro E a w I ⟨gs, R⟩
 have c0 := ev_ok R y
 rw [hy] at c0
 generalize hv0 : a.eval y = v0 at c0
 cases c0 with
 | emp A =>
   unfold wpList
   rw [if_pos (by simp [Region.wanted])]
   refine .inl ?_
   unfold Oper.wp
   have hr : (execOp a.eval ⟨some d, .call { callee := .builtin .cap, args := #[y], argTypes := #[t] }, ty, pos, af, none⟩).run P w = .ok (.value (.int .i64 0)) w := by
     simp [execOp, resolve, invoke, builtin, hv0, Builtin.cap_, run_underlying ht, goInt, Result.andThen]
   rw [hr]
   exact hn E _ _ I ⟨_, R.put hd (.c _ _ (.raw _))⟩
end
end Go.Am
namespace Go.Am
open Go.RowKit
section
variable {P : Program} {nt : Nat} {fo : List Nat} {s : Slots} {h : AH} {Q : APost} {ops : Array Oper} {l : List Oper}
theorem awpl_clear [Glb] {t ty ty0 : TypeId} {pos : String} {af : Array Edge} {y : Operand} {o off k n : Nat} {f : Nat → List CV} {i j : TI} {z : Value} (hn : AWpL P nt fo ops l Q s (upd h o (.row ty0 1 n (fun q => if off ≤ q ∧ q < off + k then [(constAV1 z).closed1.getD .any] else f q))))
   (hy : ev s y = .osub o n off k) (ho : h o = .row ty0 1 n f) (ht : tinfo P t = some i) (hs : i.slice = true) (hj : tinfo P i.elem = some j) (hsz : j.size = 1) (hz : j.zero = [z]) :
   AWpL P nt fo ops (⟨none, .call { callee := .builtin .clear, args := #[y], argTypes := #[t] }, ty, pos, af, none⟩ :: l) Q s h := by
 intro E a w I ⟨gs, R⟩
 have c0 := ev_ok R y
 rw [hy] at c0
 generalize hv0 : a.eval y = v0 at c0
 obtain ⟨i', dd, t1, t2, -, -, -, t6, t7, -, -⟩ := tinfo_some ht
 obtain ⟨j', dj, u1, u2, u3, -, -, -, -, -, u9⟩ := tinfo_some hj
 cases dd with
 | slice el =>
   simp only at t6
   rw [t6] at u1
   cases hzz : j'.zero with
   | none =>
     rw [hzz] at u9
     simp only at u9
     rw [u9] at hz
     cases hz
   | some zv =>
     rw [hzz] at u9
     simp only at u9
     obtain ⟨z1, z2⟩ := tinfo_zero (by rw [← t6]; exact hj) u1 hzz
     have hzl : zv.cells.toList = [z] := by rw [← u9]; exact hz
     have hzc : zv.cells = #[z] := Array.ext' hzl
     have hz1 : z.oneCell' = true := z2 z (by rw [hzl]; simp)
     have hzero : (zeroValue el).run P w = .ok zv w := by simp [zeroValue, typeInfo, u1, hzz]
     have hzr : (Builtin.zeroCells zv.cells k).toList = List.replicate k z := by
       rw [hzc]
       simp only [Builtin.zeroCells, Array.toList_map, Array.toList_range]
       apply List.ext_getElem
       · simp
       · intro q h1 h2
         simp [Nat.mod_one]
     unfold wpList
     rw [if_pos (by simp [Region.wanted])]
     refine .inl ?_
     unfold Oper.wp
     have hob := R.objs o
     rw [ho] at hob
     cases c0 with
     | osub A k' c _ _ _ _ ty' sz' n' f' ho' hL hv =>
       rw [ho] at ho'
       injection ho' with e1 e2 e3 e4
       subst e1 e2 e3 e4
       obtain ⟨v1, rfl, v3, v4, _⟩ := hv rfl
       rcases Nat.eq_zero_or_pos k' with h0 | h0
       · subst h0
         have hr : (execOp a.eval ⟨none, .call { callee := .builtin .clear, args := #[y], argTypes := #[t] }, ty, pos, af, none⟩).run P w = .ok (.value (.tuple #[])) w := by
           cases A <;> simp [execOp, resolve, invoke, builtin, hv0, Builtin.clear_, run_underlying t2, Result.andThen]
         rw [hr]
         exact hn E _ _ I ⟨gs, R.same_row o ty0 1 n f _ ho fun q hq => if_neg (by omega)⟩
       · obtain ⟨b, K, g1, rfl⟩ := v4 h0
         rcases hob with r1 | ⟨b', K', cur, r1, r2, r3, r4, r5, r6, r7, r8⟩
         · rw [g1] at r1; cases r1
         rw [g1] at r1
         simp only [Option.some.injEq, Prod.mk.injEq] at r1
         obtain ⟨rfl, rfl⟩ := r1
         simp only [Nat.mul_one] at *
         have hlen : (List.replicate k' z).length = k' := List.length_replicate
         have hst := run_storeCells_at (P := P) b off ty0 (List.replicate k' z) 0 cur w r2 (by rw [hlen]; omega) (by intro v hv'; rw [List.eq_of_mem_replicate hv']; exact hz1)
         simp only [Nat.add_zero] at hst
         obtain ⟨m, rfl⟩ : ∃ m, k' = m + 1 := ⟨k' - 1, by omega⟩
         have hr : (execOp a.eval ⟨none, .call { callee := .builtin .clear, args := #[y], argTypes := #[t] }, ty, pos, af, none⟩).run P w = .ok (.value (.tuple #[])) (w.setRow b (cur.toList.take off ++ List.replicate (m + 1) z ++ cur.toList.drop (off + (List.replicate (m + 1) z).length)).toArray) := by
           simp [execOp, resolve, invoke, builtin, hv0, Builtin.clear_, run_underlying t2, hzero, hzr, hst, Result.andThen]
         have hrep : ∀ q, q < m + 1 → (List.replicate (m + 1) z).getD q undef = z := fun q hq => by rw [getD_lt (by simpa using hq), List.getElem_replicate]
         rw [hr]
         refine hn E _ _ I ⟨gs, R.write o b K g1 cur _ ty0 r2 _ (fun ty cells e => by rw [ho] at e; cases e) (fun ty2 sz2 n2 f2 e => by rw [ho] at e; injection e with e1 e2 e3 e4; subst e1; subst e2; subst e3; exact ⟨_, _, rfl, Nat.le_refl _⟩) fun hL _ => ?_⟩
         refine .inr ⟨b, K, _, g1, setRow_heap w b cur _ ty0 _ r2, by rw [size_splice (by rw [hlen]; omega), r3, Nat.mul_one], r4, r5, fun q hq => ?_, fun q hq => ?_, fun q r hq hr' => ?_⟩
         · show (if off ≤ q ∧ q < off + (m + 1) then [(constAV1 z).closed1.getD .any] else f q).length = 1
           split
           · rfl
           · exact r6 q hq
         · rw [Nat.mul_one] at hq
           rw [getD_splice (by rw [hlen]; omega), hlen]
           split
           · rw [hrep _ (by omega)]; exact hz1
           · exact r7 q hq
         · have hr0 : r = 0 := by omega
           subst hr0
           simp only [Nat.mul_one, Nat.add_zero]
           rw [getD_splice (by rw [hlen]; omega), hlen]
           show RC _ _ _ ((if off ≤ q ∧ q < off + (m + 1) then [(constAV1 z).closed1.getD .any] else f q).getD 0 .any)
           split
           · rw [hrep _ (by omega)]
             have hk := constAV1_ok (w.setRow b (cur.toList.take off ++ List.replicate (m + 1) z ++ cur.toList.drop (off + (m + 1))).toArray) (Zf E.Z gs) h gs z
             show RC _ _ z ((constAV1 z).closed1.getD .any)
             cases hc : (constAV1 z).closed1 with
             | none => exact .any _
             | some u => exact hk.closed1_of hc
           · have := r8 q 0 hq (by omega)
             simp only [Nat.add_zero] at this
             rw [hlen] at hL
             exact this.later hL
 | _ => simp_all
end
end Go.Am
namespace Go.Am
open Go.RowKit
end Go.Am
namespace Go.Am
open Go.RowKit
def nrmQ (N : Act → World → Prop) (Q : Exit → Act → World → Prop) : Exit → Act → World → Prop
 | .normal, a, w => N a w
 | e, a, w => Q e a w
section
variable {P : Program} {nt : Nat} {fo : List Nat} {s : Slots} {h : AH} {Q : APost}
theorem awp_drawL2 [Glb] (hf : P.follows .mixedOrders = true) {id : Nat} {ops : List Oper} {c1 c2 : Oper} (hs : slotsOk nt ops = true) (hd : drawOk ops.toArray = true) (hd1 : drawOk (ops.toArray.push c1) = true) (hg : guardsIn ops = true) (hg1 : c1.guard = none) (hlo : lastOk ops.toArray c1 = true) (hlo2 : lastOk (ops.toArray.push c1) c2 = true)
   (hr : aRun P ops.toArray (AWpL P nt fo ((ops.toArray.push c1).push c2) [c1, c2] Q) ops s h) : AWp P nt fo (.region id ((ops.toArray.push c1).push c2) true) Q s h := by
 intro E a w I R
 refine wp_region_any hf ?_
 have hrep : Array.replicate ((ops.toArray.push c1).push c2).size false = ((Array.replicate ops.toArray.size false).push false).push false := by
   rw [Array.size_push, Array.replicate_succ, Array.size_push, Array.replicate_succ]
 rw [hrep, Array.size_push]
 have hno : ∀ (n j : Nat), lset (Array.replicate n false) j = false := fun n j => by
   unfold lset
   simp only [Array.getD_eq_getD_getElem?]
   by_cases hj : j < n <;> simp [hj]
 have hno2 : ∀ (n j : Nat), lset ((Array.replicate n false).push false) j = false := fun n j => by
   rw [← Array.replicate_succ]
   exact hno _ _
 have hguard : ∀ (i : Nat) (o : Oper) (j : Nat) (b : Bool), ops.toArray[i]? = some o → o.guard = some (j, b) → j < ops.toArray.size := fun i o j b ho hgd => by
   unfold guardsIn at hg
   rw [List.all_eq_true] at hg
   have := hg o (by simpa using List.mem_of_getElem? (by simpa using ho))
   rw [hgd] at this
   simpa using this
 let Qf : Exit → Act → World → Prop := fun e a' w' => ∃ s' h', Q e s' h' ∧ Rel E nt s' h' a' w'
 let Q1 : Exit → Act → World → Prop := nrmQ (wpOp P ((ops.toArray.push c1).push c2) Qf (ops.toArray.push c1).size (Qf .normal)) Qf
 refine wpAny_push (Q := Qf) (Q1 := Q1) hd1 (fun i o j b ho hgd => ?_) hlo2 (fun a w q => q) (fun c a w q => q) (fun ⟨a, w, q⟩ => ⟨a, w, q⟩) _ _ a _ (by simp) (fun i o e _ hl => by rw [hno2] at hl; cases hl) ?_
 · rw [Array.getElem?_push] at ho
   split at ho
   · simp only [Option.some.injEq] at ho
     subst ho
     rw [hg1] at hgd
     cases hgd
   · have := hguard i o j b ho hgd
     rw [Array.size_push]
     omega
 rw [Array.size_push]
 refine wpAny_push (Q := Q1) (Q1 := nrmQ (wpOp P (ops.toArray.push c1) Q1 ops.toArray.size (Q1 .normal)) Q1) hd hguard hlo (fun a w q => q) (fun c a w q => q) (fun ⟨a, w, q⟩ => ⟨a, w, q⟩) _ _ a _ (by simp) (fun i o e _ hl => by rw [hno] at hl; cases hl) ?_
 refine region_any (free := []) (E := E) (nt := nt) (s := s) (h := h) (K := AWpL P nt fo ((ops.toArray.push c1).push c2) [c1, c2] Q) (by simpa using hs) hd R (aRun_mono (fun _ _ q => ⟨rfl, q⟩) _ _ _ (by simpa using hr)) fun s' h' a' w' q R' => ?_
 have := q E a' w' I R'
 unfold wpList at this
 show wpOp P (ops.toArray.push c1) Q1 ops.toArray.size (Q1 .normal) a' w'
 unfold wpOp
 have e : (ops.toArray.push c1)[ops.toArray.size]? = some c1 := by simp
 have e2 : ((ops.toArray.push c1).push c2)[(ops.toArray.push c1).size]? = some c2 := by simp
 have hw : ∀ y, Region.wanted c1 y = true := fun y => by unfold Region.wanted; rw [hg1]
 rw [e]
 simp only [hw, if_true] at this ⊢
 rcases this with q | q
 · refine .inl (wp_change (Q1 := Qf) (fun a w q => ?_) (fun c a w q => q) (fun ⟨a, w, q⟩ => ⟨a, w, q⟩) q)
   show wpOp P ((ops.toArray.push c1).push c2) Qf (ops.toArray.push c1).size (Qf .normal) a w
   unfold wpOp
   rw [e2]
   unfold wpList at q
   exact q
 · exact .inr ⟨q.1, q.2⟩
theorem awp_rseq_draw2 [Glb] (hf : P.follows .mixedOrders = true) {id : Nat} {ops i1 init : List Oper} {c1 c2 : Oper} {y : Code} (he : splitLast ops = some (i1, c2)) (he1 : splitLast i1 = some (init, c1)) (hs : slotsOk nt init = true) (hd : drawOk init.toArray = true) (hd1 : drawOk (init.toArray.push c1) = true) (hg : guardsIn init = true) (hg1 : c1.guard = none) (hlo : lastOk init.toArray c1 = true) (hlo2 : lastOk (init.toArray.push c1) c2 = true)
   (hr : ∀ K : Slots → AH → Prop, (∀ s h, AWpL P nt fo ops.toArray [c1, c2] (thenQ (AWp P nt fo y Q) Q) s h → K s h) → aRun P init.toArray K init s h) : AWp P nt fo (.seq (.region id ops.toArray true) y) Q s h := by
 have e := splitLast_eq he
 have e1 := splitLast_eq he1
 have e2 : ops.toArray = (init.toArray.push c1).push c2 := by rw [e, e1]; simp
 rw [e2] at hr ⊢
 exact awp_seq (awp_drawL2 hf hs hd hd1 hg hg1 hlo hlo2 (hr _ fun _ _ q => q))
theorem awp_draw2 [Glb] (hf : P.follows .mixedOrders = true) {id : Nat} {ops i1 init : List Oper} {c1 c2 : Oper} (he : splitLast ops = some (i1, c2)) (he1 : splitLast i1 = some (init, c1)) (hs : slotsOk nt init = true) (hd : drawOk init.toArray = true) (hd1 : drawOk (init.toArray.push c1) = true) (hg : guardsIn init = true) (hg1 : c1.guard = none) (hlo : lastOk init.toArray c1 = true) (hlo2 : lastOk (init.toArray.push c1) c2 = true)
   (hr : ∀ K : Slots → AH → Prop, (∀ s h, AWpL P nt fo ops.toArray [c1, c2] Q s h → K s h) → aRun P init.toArray K init s h) : AWp P nt fo (.region id ops.toArray true) Q s h := by
 have e := splitLast_eq he
 have e1 := splitLast_eq he1
 have e2 : ops.toArray = (init.toArray.push c1).push c2 := by rw [e, e1]; simp
 rw [e2] at hr ⊢
 exact awp_drawL2 hf hs hd hd1 hg hg1 hlo hlo2 (hr _ fun _ _ q => q)
theorem awpl_callVI [Glb] {ops : Array Oper} {l : List Oper} {h1 : AH} {d : Option Tmp} {t : Tmp} {f : FuncId} {ps : List AV} {args : Array Operand} {ats : Array TypeId} {ty : TypeId} {pos : String} {af : Array Edge} {xs : List AV} (ks : List Nat)
   (hf : AFun P f xs h1 (CallI P nt fo ops l Q d ks s h)) (hs : s t = .fn f ps) (hd : dOk nt d = true) (hx : args.toList.map (ev s) ++ ps = xs) (hft : Foot ks h1) (hh : ∀ k ∈ ks, h k = h1 k) (hxr : ∀ x ∈ xs, ∀ k ∈ x.refsw, k ∈ ks) :
   AWpL P nt fo ops (⟨d, .call ⟨.value (.tmp t), args, ats⟩, ty, pos, af, none⟩ :: l) Q s h := by
 have hr : (AV.ren id) = id := funext ren_id
 refine awpl_callV ks id (hf.mono fun out h2 q => ?_) hs hd (by rw [hr, List.map_id]; exact hx) (fun _ _ _ _ e => e) hft (fun k hk => by rw [oren_id]; exact hh k hk) hxr
 cases out with
 | ret x => obtain ⟨q1, q2, q3⟩ := q; exact ⟨q1, q2, by rw [ren_id, appL_ren]; exact q3⟩
 | pan c => obtain ⟨q1, q2⟩ := q; exact ⟨q1, by rw [appL_ren]; exact q2⟩
end
end Go.Am
namespace Go.Am
open Go.RowKit
section
variable {P : Program} {nt : Nat} {fo : List Nat} {s : Slots} {h : AH} {Q : APost} {ops : Array Oper} {l : List Oper}
theorem awpl_entry [Glb] {d i m since c k : Nat} {ty : TypeId} {y : Operand} {pos : String} {af : Array Edge} {seen : List Nat} {es : List (Value × Nat × AV)} {x : Value × Nat × AV} {y' : CV}
   (hn : AWpL P nt fo ops l Q (upd s d (.c (.tup [.raw x.1, y']))) h) (hx : x ∈ es) (hk : x.2.1 = k) (hcl : x.2.2.closed1 = some y') (hnd : (es.map (·.2.1)).Nodup)
   (hy : ev s y = .iref i) (hi : h i = .iter m since (seen ++ [k]) c) (hm : h m = .map es c) (hd : d < nt) : AWpL P nt fo ops (⟨some d, .entry y, ty, pos, af, none⟩ :: l) Q s h := by
 intro E a w I ⟨gs, R⟩
 have hv := ev_ok R y
 rw [hy] at hv
 generalize hvy : a.eval y = vy at hv
 cases hv with
 | iref _ b K m0 since0 seen0 last0 hi0 hg0 =>
 have hobI := R.objs i
 rw [hi] at hobI
 obtain ⟨b1, K1, bm, Km, es1, c1, p1, p2, p3, p4⟩ := hobI
 rw [hg0] at p1
 simp only [Option.some.injEq, Prod.mk.injEq] at p1
 obtain ⟨rfl, rfl⟩ := p1
 have hobM := R.objs m
 rw [hm] at hobM
 obtain ⟨b2, K2, ents, q1, q2, q3, q4, q5⟩ := hobM
 rw [p3] at q1
 simp only [Option.some.injEq, Prod.mk.injEq] at q1
 obtain ⟨rfl, rfl⟩ := q1
 have H : EntsOk w (Zf E.Z gs) h gs ents es := ⟨q3, q4, q5⟩
 obtain ⟨j, hj, rfl⟩ := List.getElem_of_mem hx
 have hget : ents.toList[j]? = some (ents[j]'(by rw [q3]; exact hj)) := by rw [Array.getElem?_toList]; exact Array.getElem?_eq_getElem (by rw [q3]; exact hj)
 obtain ⟨h1, h2, h3⟩ := H.get hj hget
 have hborn : ents.toList.map (·.born) = es.map (·.2.1) := by
   refine List.ext_getElem (by simp [q3]) fun n hn1 hn2 => ?_
   have hne : n < es.length := by simpa using hn2
   have hg : ents.toList[n]? = some (ents[n]'(by rw [q3]; exact hne)) := by rw [Array.getElem?_toList]; exact Array.getElem?_eq_getElem (by rw [q3]; exact hne)
   have := (H.get hne hg).2.1
   simpa using this
 have hrun := run_entry_at (P := P) w b bm since seen.toArray ents c (ents[j]'(by rw [q3]; exact hj)) (by
   have : seen.toArray.push (ents[j]'(by rw [q3]; exact hj)).born = (seen ++ [k]).toArray := by rw [h2, hk]; simp
   rw [p4, this]) q2 (by simp) (by rw [hborn]; exact hnd)
 unfold wpList
 rw [if_pos (by simp [Region.wanted])]
 refine .inl ?_
 unfold Oper.wp
 have hr : (execOp a.eval ⟨some d, .entry y, ty, pos, af, none⟩).run P w = .ok (.value (.tuple #[(ents[j]'(by rw [q3]; exact hj)).key, (ents[j]'(by rw [q3]; exact hj)).val])) w := by
   simp only [execOp, hvy]
   simp [hrun]
 rw [hr]
 refine hn E _ _ I ⟨gs, RelG.put R hd (.c _ _ (.tup _ _ rfl fun q hq => ?_))⟩
 match q, hq with
 | 0, _ =>
   show RC _ _ (ents[j]'(by rw [q3]; exact hj)).key _
   rw [h1]
   exact .raw _
 | 1, _ => exact h3.closed1_of hcl
theorem awpl_empNil [Glb] {d : Tmp} {t e t2 ty : TypeId} {y : Operand} {pos : String} {af : Array Edge} (hy : ev s y = .c .emp) (ht : P.underlying t = some (.slice e)) (hd : d < nt)
   (hn : ∀ b : Bool, AWpL P nt fo ops l Q (upd s d (.c (.raw (.bool b)))) h) : AWpL P nt fo ops (⟨some d, .binOp .eql t y (.const (.slice none 0 0)) t2, ty, pos, af, none⟩ :: l) Q s h := by
 intro E a w I ⟨gs, R⟩
 have hv := ev_ok R y
 rw [hy] at hv
 generalize hvy : a.eval y = vy at hv
 cases hv with
 | c _ _ hx =>
 cases hx with
 | emp A =>
 have ec : a.eval (.const (.slice none 0 0)) = .slice none 0 0 := rfl
 unfold wpList
 rw [if_pos (by simp [Region.wanted])]
 refine .inl ?_
 unfold Oper.wp
 have hr : (execOp a.eval ⟨some d, .binOp .eql t y (.const (.slice none 0 0)) t2, ty, pos, af, none⟩).run P w = .ok (.value (.bool A.isNone)) w := by
   simp [execOp, hvy, ec, eqGuard, Lib.run_eql_slice_nil w t e A 0 0 0 0 ht]
 rw [hr]
 exact hn A.isNone E _ _ I ⟨gs, RelG.put R hd (.c _ _ (.raw _))⟩
end
end Go.Am
namespace Go.Am
open Go.RowKit Go.Proofs Go.Sort
theorem afun_sortStr [Glb] {P : Program} {f : FuncId} (hE : Enters P f) {srt : List (List UInt8) → List (List UInt8)} (hlen : ∀ l, (srt l).length = l.length)
   (H : ∀ (blk off cap : Nat) (ss : List (List UInt8)) (w : World), Holds encStr w blk off ss.toArray → blk < w.heap.size → ss.length < 4611686018427387904 →
     Calls P f #[.slice (some ⟨blk, off, none⟩) ss.length cap] w fun e w' => e = .returned (.tuple #[]) ∧ ∃ n os, w' = grow (putRow encStr (Sort.ahead w n) blk off (srt ss).toArray) os)
   {h : AH} {o : Nat} {ty : TypeId} {ss : List (List UInt8)} {g : Nat → List CV} (ho : h o = .row ty 1 ss.length g) (hg : ∀ i, i < ss.length → g i = [.raw (encStr (ss.getD i []))]) (hpos : 0 < ss.length) (hmax : ss.length < 4611686018427387904) :
   AFun P f [.own o ss.length] h fun out h' => out = .ret (.c (.tup [])) ∧ h' = upd h o (.row ty 1 ss.length fun i => [.raw (encStr ((srt ss).getD i []))]) := by
 refine ⟨hE, fun Z w gs vs hz hgl hok hvl hx => ?_⟩
 have hx0 := hx 0 (by simp)
 have hobj := hok.objs o
 rw [ho] at hobj
 have hvs : vs = [vs.getD 0 undef] := by
   match vs, hvl with
   | [a], _ => rfl
 rw [hvs]
 generalize hv0 : vs.getD 0 undef = v0 at hx0 ⊢
 simp only [List.getD_cons_zero] at hx0
 cases hx0 with
 | own A k c _ _ ty' sz n' f' ho' hL hv =>
 rw [ho, AObj.row.injEq] at ho'
 obtain ⟨rfl, rfl, rfl, rfl⟩ := ho'
 rcases hv rfl with ⟨b, K, hgs, rfl, rfl, rfl⟩ | ⟨_, _, _, h0⟩
 · rcases hobj with h0 | ⟨b', K', cur, e1, e2, e3, e4, e5, e6, e7, e8⟩
   · rw [hgs] at h0; cases h0
   rw [hgs, Option.some.injEq, Prod.mk.injEq] at e1
   obtain ⟨rfl, rfl⟩ := e1
   have hblt : b < w.heap.size := (hok.fresh o b _ hgs).1
   have hcell : ∀ j, j < ss.length → cur[j]? = some (encStr (ss.getD j [])) := fun j hj => by
     have hsz : j < cur.size := by rw [e3]; omega
     have := e8 j 0 hj (by omega)
     rw [hg j hj] at this
     have := this.raw_inv
     rw [Nat.mul_one, Nat.add_zero] at this
     rw [Array.getElem?_eq_getElem hsz]
     rw [Array.getD_eq_getD_getElem?, Array.getElem?_eq_getElem hsz] at this
     exact congrArg some this
   have hH : Holds encStr w b 0 ss.toArray := fun j hj => by
     have hj' : j < ss.length := by simpa using hj
     refine ⟨?_, ?_⟩
     · rw [Nat.zero_add]
       simp only [World.cell?, e2]
       rw [hcell j hj']
       congr 2
       simp [List.getD_eq_getElem?_getD, hj']
     · simp [World.frozen?, e2]
   refine (H b 0 _ ss w hH hblt hmax).mono ?_
   rintro e w' ⟨rfl, n, os, rfl⟩
   have hheap : ∀ q, q < w.heap.size → q ≠ b → (grow (putRow encStr (Sort.ahead w n) b 0 (srt ss).toArray) os).heap[q]? = w.heap[q]? := fun q hq hqb => by
     simp only [grow, putRow, mapBlock, Sort.ahead]
     rw [Array.getElem?_append_left (by simpa using hq), Array.getElem?_modify, if_neg (fun e => hqb e.symm)]
   have hheapb : (grow (putRow encStr (Sort.ahead w n) b 0 (srt ss).toArray) os).heap[b]? = some (.cells (putCells encStr 0 (srt ss).toArray cur) ty (0, 0)) := by
     simp only [grow, putRow, mapBlock, Sort.ahead]
     rw [Array.getElem?_append_left (by simpa using hblt), Array.getElem?_modify, if_pos rfl, e2]
     rfl
   have hsize : w.heap.size ≤ (grow (putRow encStr (Sort.ahead w n) b 0 (srt ss).toArray) os).heap.size := by simp [grow, putRow, mapBlock, Sort.ahead]
   have hlat : Later w (grow (putRow encStr (Sort.ahead w n) b 0 (srt ss).toArray) os) (Zf Z gs) (Zf Z gs) := ⟨hsize, fun q hq hlt => hheap q hlt fun e => hq (.inr ⟨o, _, e ▸ hgs⟩), fun q hq _ => hq⟩
   have hrefs : Refs h gs (upd h o (.row ty 1 ss.length fun i => [.raw (encStr ((srt ss).getD i []))])) gs := by
     refine ⟨fun q t c e => ⟨?_, rfl⟩, fun q t sz n f e => ?_, fun q es c e => ⟨?_, rfl⟩, fun q m s l t e => ⟨?_, rfl⟩⟩
     · by_cases hq : q = o
       · subst hq; rw [ho] at e; cases e
       · exact ⟨t, c, by rw [upd_ne _ _ _ _ hq]; exact e⟩
     · by_cases hq : q = o
       · subst hq
         rw [ho, AObj.row.injEq] at e
         obtain ⟨rfl, rfl, rfl, rfl⟩ := e
         exact ⟨_, _, upd_same _ _ _, Nat.le_refl _, fun _ => rfl⟩
       · exact ⟨n, f, by rw [upd_ne _ _ _ _ hq]; exact e, Nat.le_refl _, fun _ => rfl⟩
     · by_cases hq : q = o
       · subst hq; rw [ho] at e; cases e
       · exact ⟨es, c, by rw [upd_ne _ _ _ _ hq]; exact e⟩
     · by_cases hq : q = o
       · subst hq; rw [ho] at e; cases e
       · exact ⟨m, s, l, t, by rw [upd_ne _ _ _ _ hq]; exact e⟩
   refine ⟨.ret (.c (.tup [])), _, gs, ⟨rfl, rfl⟩, .c _ _ (.tup _ _ rfl fun i hi => absurd hi (Nat.not_lt_zero _)), ⟨fun q b' K' e => ⟨Nat.lt_of_lt_of_le (hok.fresh q b' K' e).1 hsize, (hok.fresh q b' K' e).2⟩, hok.inj, fun q => ?_⟩, ⟨rfl, rfl, rfl, hsize, fun q hq hd => hheap q hq fun e => hd ⟨o, _, e ▸ hgs⟩, fun _ => by simp [grow, putRow, mapBlock, Sort.ahead]⟩, hrefs, fun q b' K' e => .inr ⟨q, K', e⟩⟩
   have hput : ∀ j, j < ss.length → (putCells encStr 0 (srt ss).toArray cur).getD j undef = encStr ((srt ss).getD j []) := fun j hj => by
     have hj2 : j < (srt ss).length := by rw [hlen]; exact hj
     have hsz : j < cur.size := by rw [e3]; omega
     rw [Array.getD_eq_getD_getElem?, Array.getElem?_eq_getElem (by simpa [putCells] using hsz)]
     simp [putCells, hj2, List.getD_eq_getElem?_getD]
   by_cases hq : q = o
   · subst hq
     rw [upd_same]
     refine .inr ⟨b, _, _, hgs, hheapb, by simp [putCells, e3], e4, e5, fun _ _ => rfl, fun j hj => ?_, fun i j hi hj => ?_⟩
     · rw [hput j (by omega)]; rfl
     · obtain rfl : j = 0 := by omega
       rw [Nat.mul_one, Nat.add_zero, hput i hi]
       exact .raw _
   · rw [upd_ne _ _ _ _ hq]
     exact (hok.objs q).later hlat hrefs rfl fun b' K' e => hheap b' (hok.fresh q b' K' e).1 fun hb => hq (hok.inj q o b K' _ (hb ▸ e) hgs)
 · omega
end Go.Am
