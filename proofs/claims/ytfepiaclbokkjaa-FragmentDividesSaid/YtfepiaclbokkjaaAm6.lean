/- The abstract machine, part 6: make, append, copy, and their soundness. Generic over the program; no condition. -/
import Derived.Test.YtfepiaclbokkjaaAm5
namespace Go.Am
open Go.RowKit

section
variable {w0 w : World} {Z : Nat → Prop} {nt : Nat} {s : Nat → AV} {h : AH} {gs : Gs} {a : Act} {P : Program}

theorem getD_made {z : Array Value} {n i j : Nat} (hz : 0 < z.size) (hj : j < z.size) (hn : i * z.size + j < n) : (madeCells z n).getD (i * z.size + j) undef = z.getD j undef := by
  have h1 : i * z.size + j < (madeCells z n).size := by rw [size_madeCells]; exact hn
  simp only [Array.getD, h1, hj, dite_true]
  simp only [madeCells, Array.getInternal_eq_getElem, Array.getElem_map, Array.getElem_range]
  rw [Nat.mul_comm, Nat.mul_add_mod, Nat.mod_eq_of_lt hj]
  simp [hj]

theorem aop3_make (R : RelG w0 Z nt s h gs a w) {ty : TypeId} {pos : String} {af : Array Edge} {gd : Option (Nat × Bool)} {d : Nat} (hd : d < nt) (ho : h d = .gone) {x' : AObj} {x : AV} (t : TypeId) (y z : Operand)
    (hx : aop3 P (.makeSlice t y z) (ev s) d x' x) :
    ∃ v w', (execOp a.eval ⟨some d, .makeSlice t y z, ty, pos, af, gd⟩).run P w = .ok (.value v) w' ∧ Rel w0 Z nt (upd s d x) (upd h d x') (a.put (some d) v) w' := by
  obtain ⟨i, j, k1, k2, n, e1, e2, e3, e4, e40, hw1, hw2, e5, e6, e7, e8, e9, rfl, rfl⟩ := hx
  have c1 := (ev_ok R y).raw_of hw1 e5
  have c2 := (ev_ok R z).raw_of hw2 e6
  obtain ⟨i', dd, t1, t2, -, -, -, t6, t7, -, -⟩ := tinfo_some e1
  obtain ⟨j', dj, u1, u2, u3, u4, -, -, -, -, u9⟩ := tinfo_some e3
  cases dd with
  | slice el =>
    simp only at t6
    rw [t6] at u1
    cases hzz : j'.zero with
    | none =>
      rw [hzz] at u9
      simp only at u9
      rw [u9] at e4
      simp only [List.length_nil] at e4
      omega
    | some zv =>
      rw [hzz] at u9
      simp only at u9
      obtain ⟨z1, z2⟩ := tinfo_zero (by rw [← t6]; exact e3) u1 hzz
      rw [← u3] at z1
      have hzs : zv.cells.size = j.size := z1
      have hr := run_make (P := P) w t el j' zv t2 u1 hzz k1 k2 n n e7 (Int.le_refl _) (by rw [← u4]; exact e9) e8
      rw [← u3] at hr
      obtain ⟨m, rfl⟩ := Int.eq_ofNat_of_zero_le e7
      simp only [Int.toNat_natCast] at hr ⊢
      have R' := R.new d ho (.row i.elem j.size m (fun _ => j.zero.map fun v => (constAV1 v).closed1.getD .any)) m el (madeCells zv.cells (m * j.size)) fun hL _ => by
        have hpos : 0 < zv.cells.size := by omega
        refine .inr ⟨w.heap.size, m, _, upd_same _ _ _, by rw [t6]; exact heap_alloc_new w _, size_madeCells _ _, Nat.le_refl _, by simp only [maxLen]; omega, fun q _ => by simpa using e4, fun q hq => ?_, fun q r hq hr => ?_⟩
        · have h3 := getD_made (z := zv.cells) (n := m * j.size) (i := q / j.size) (j := q % j.size) hpos (by rw [hzs]; exact Nat.mod_lt _ e40) (by rw [hzs, Nat.mul_comm, Nat.div_add_mod]; exact hq)
          rw [hzs, Nat.mul_comm (q / j.size), Nat.div_add_mod] at h3
          rw [h3]
          have hlt : q % j.size < zv.cells.toList.length := by rw [Array.length_toList, hzs]; exact Nat.mod_lt _ e40
          rw [← getD_toList, getD_lt hlt]
          exact z2 _ (List.getElem_mem hlt)
        · have hqr : q * j.size + r < m * j.size := by
            have : q * j.size + j.size ≤ m * j.size := by rw [← Nat.succ_mul]; exact Nat.mul_le_mul_right _ hq
            omega
          have h3 := getD_made (z := zv.cells) (n := m * j.size) (i := q) (j := r) hpos (by omega) (by rw [hzs]; exact hqr)
          rw [hzs] at h3
          rw [h3]
          have hlt : r < zv.cells.toList.length := by rw [Array.length_toList, hzs]; exact hr
          rw [← getD_toList, getD_lt hlt, u9, getD_lt (by simpa using hlt), List.getElem_map]
          have hk := constAV1_ok (w.alloc (.cells (madeCells zv.cells (m * j.size)) el)) (Zf Z (upd gs d (some (w.heap.size, m)))) h gs zv.cells.toList[r]
          generalize zv.cells.toList[r] = u at hk
          cases hc : (constAV1 u).closed1 with
          | none => exact .any _
          | some q => exact hk.closed1_of hc
      refine ⟨_, _, ?_, _, R'.put hd (.own (some ⟨w.heap.size, 0, none⟩) m m d m i.elem j.size m _ (upd_same _ _ _) (Nat.le_refl _) fun _ => .inl ⟨w.heap.size, m, upd_same _ _ _, rfl, rfl, rfl⟩)⟩
      simp only [execOp, c1, c2, Sem.run_bind, hr, Result.andThen_ok, Sem.run_pure]
  | _ => simp_all

/-- What a source holds. -/
theorem src_ok (R : RelG w0 Z nt s h gs a w) {v : Value} {x : AV} {sz m : Nat} {g : Nat → List CV} (hx : RA w (Zf Z gs) h gs v x) (hs : srcOf h x = some (sz, m, g)) :
    ∃ (A : Option Addr) (c : Nat), v = .slice A m c ∧ (0 < m → ∃ (ad : Addr) (u : Nat → Value), A = some ad ∧ (∀ j, j < m * sz → w.cell? (ad.add j) = some (u j)) ∧ (∀ j, j < m * sz → (u j).oneCell' = true) ∧
      (∀ i, i < m → (g i).length = sz) ∧ ∀ i j, i < m → j < sz → RC w (Zf Z gs) (u (i * sz + j)) ((g i).getD j .any)) := by
  cases hx with
  | c _ y hy =>
    cases y <;> simp only [srcOf, Option.some.injEq, Prod.mk.injEq, reduceCtorEq] at hs
    obtain ⟨rfl, rfl, rfl⟩ := hs
    obtain ⟨A, c, rfl, hp⟩ := hy.im_inv
    refine ⟨A, c, rfl, fun h0 => ?_⟩
    obtain ⟨ad, u, rfl, _, _, _, hc, ho, hf, hh⟩ := hp h0
    exact ⟨ad, u, rfl, hc, ho, hf, hh⟩
  | emp A =>
    simp only [srcOf, Option.some.injEq, Prod.mk.injEq] at hs
    obtain ⟨rfl, rfl, rfl⟩ := hs
    exact ⟨A, 0, rfl, fun h0 => by omega⟩
  | own A k c o L ty sz' n f ho hL hv =>
    simp only [srcOf, ho] at hs
    split at hs
    · rename_i hl
      simp only [Option.some.injEq, Prod.mk.injEq] at hs
      obtain ⟨rfl, rfl, rfl⟩ := hs
      have hob := R.objs o
      rw [ho] at hob
      rcases hv hl with ⟨b, K, g1, rfl, rfl, rfl⟩ | ⟨g1, rfl, rfl⟩
      · refine ⟨_, c, rfl, fun h0 => ?_⟩
        rcases hob with ⟨q1, q2⟩ | ⟨b', K', cur, q1, q2, q3, q4, q5, q6, q7, q8⟩
        · omega
        rw [g1] at q1
        simp only [Option.some.injEq, Prod.mk.injEq] at q1
        obtain ⟨rfl, rfl⟩ := q1
        have hn : k * sz' ≤ c * sz' := Nat.mul_le_mul_right _ q4
        exact ⟨_, fun j => cur.getD j undef, rfl, fun j hj => by rw [addr_lit, Nat.zero_add]; exact cell_of_heap q2 (by omega), q7, q6, q8⟩
      · rcases hob with ⟨q1, rfl⟩ | ⟨b', K', cur, q1, _⟩
        · exact ⟨A, 0, rfl, fun h0 => by omega⟩
        · rw [g1] at q1; cases q1
    · cases hs
  | osub A k' c o L off k ty sz' n f ho hL hv =>
    simp only [srcOf, ho] at hs
    split at hs
    · rename_i hl
      simp only [Option.some.injEq, Prod.mk.injEq] at hs
      obtain ⟨rfl, rfl, rfl⟩ := hs
      have hob := R.objs o
      rw [ho] at hob
      obtain ⟨v1, rfl, v3, v4⟩ := hv hl
      refine ⟨A, c, rfl, fun h0 => ?_⟩
      obtain ⟨b, K, g1, rfl⟩ := v4 h0
      rcases hob with ⟨q1, q2⟩ | ⟨b', K', cur, q1, q2, q3, q4, q5, q6, q7, q8⟩
      · omega
      rw [g1] at q1
      simp only [Option.some.injEq, Prod.mk.injEq] at q1
      obtain ⟨rfl, rfl⟩ := q1
      have hn : n * sz' ≤ K * sz' := Nat.mul_le_mul_right _ q4
      have ho2 : off * sz' + k' * sz' ≤ n * sz' := by rw [← Nat.add_mul]; exact Nat.mul_le_mul_right _ v1
      refine ⟨_, fun j => cur.getD (off * sz' + j) undef, rfl, fun j hj => by rw [addr_lit]; exact cell_of_heap q2 (by omega), fun j hj => q7 _ (by omega), fun i hi => q6 _ (by omega), fun i j hi hj => ?_⟩
      have := q8 (off + i) j (by omega) hj
      rw [Nat.add_mul, Nat.add_assoc] at this
      exact this
    · cases hs
  | _ => simp [srcOf] at hs

theorem run_append_zero {t el ty : TypeId} {j : TypeInfo} (ht : P.underlying t = some (.slice el)) (hj : P.info? el = some j) (B A : Option Addr) (n K c : Nat) (hn : n ≤ K) :
    (Builtin.append_ #[t, t] ty #[.slice B n K, .slice A 0 c]).run P w = .ok (.slice B n K) w := by
  cases A <;> cases B <;> simp [Builtin.append_, run_underlying ht, sizeOf, typeInfo, hj, Builtin.lenOf, hn, Builtin.firstCells, loadCells, loadCellsFrom, storeCells]

/-- append onto a row that must grow: the new block. -/
theorem grown_block (R : RelG w0 Z nt s h gs a w) (o n m K0 sz : Nat) (el : TypeId) (olds news : List Value) (zc : Array Value) (f g : Nat → List CV) (hzc : zc.size = sz) (hsz : 0 < sz)
    (hlo : olds.length = n * sz) (hln : news.length = m * sz) (hmax : n + m ≤ maxLen)
    (ho1 : ∀ j, j < n * sz → (olds.getD j undef).oneCell' = true) (ho2 : ∀ j, j < m * sz → (news.getD j undef).oneCell' = true)
    (hf1 : ∀ i, i < n → (f i).length = sz) (hf2 : ∀ i, i < m → (g i).length = sz)
    (hr1 : ∀ i j, i < n → j < sz → RC w (Zf Z gs) (olds.getD (i * sz + j) undef) ((f i).getD j .any)) (hr2 : ∀ i j, i < m → j < sz → RC w (Zf Z gs) (news.getD (i * sz + j) undef) ((g i).getD j .any))
    (hrow : ∀ ty sz' n' f', h o = .row ty sz' n' f' → ty = el ∧ sz' = sz ∧ n' = n ∧ 0 < m) (hbox : ∀ ty cells, h o ≠ .box ty cells) :
    let K := grownCap w (n + m) K0 el
    let w' := w.drew.alloc (.cells (olds.toArray ++ news.toArray ++ Builtin.zeroCells zc (K - (n + m))) el)
    let x' := AObj.row el sz (n + m) (fun q => if q < n then f q else g (q - n))
    RelG w0 Z nt s (upd h o x') (upd gs o (some (w.heap.size, K))) a w' := by
  intro K w' x'
  have hK : n + m ≤ K := grownCap_ge w (n + m) K0 el
  have hKm : K ≤ maxLen := grownCap_le_maxLen w (n + m) K0 el hmax
  refine R.eff o x' (some (w.heap.size, K)) rfl rfl rfl (by simp [w']) (fun k hk _ => Below.heap_alloc w.drew _ k hk) (.inr ⟨_, _, rfl, Nat.le_refl _, by simp [w']⟩) (fun ty cells e => absurd e (hbox ty cells)) (fun ty sz' n' f' e => ?_) fun hL _ => ?_
  · obtain ⟨rfl, rfl, rfl, hm⟩ := hrow ty sz' n' f' e
    exact ⟨n' + m, _, rfl, by omega, fun he => by omega⟩
  · have hsum : n * sz + m * sz = (n + m) * sz := (Nat.add_mul _ _ _).symm
    have hget : ∀ t, t < (n + m) * sz → (olds.toArray ++ news.toArray ++ Builtin.zeroCells zc (K - (n + m))).getD t undef = if t < n * sz then olds.getD t undef else news.getD (t - n * sz) undef := by
      intro t ht
      simp only [Array.getD_eq_getD_getElem?, List.getD_eq_getElem?_getD]
      rw [Array.getElem?_append_left (by simp; omega)]
      by_cases h1 : t < n * sz
      · rw [if_pos h1, Array.getElem?_append_left (by simp; omega)]
        simp
      · rw [if_neg h1, Array.getElem?_append_right (by simp; omega)]
        simp [hlo]
    refine .inr ⟨w.heap.size, K, _, upd_same _ _ _, heap_alloc_new w.drew _, ?_, hK, hKm, fun q hq => ?_, fun q hq => ?_, fun q r hq hr => ?_⟩
    · simp only [Array.size_append, List.size_toArray, size_zeroCells, hzc, hlo, hln]
      rw [← Nat.add_mul, ← Nat.add_mul]
      congr 1
      omega
    · show (if q < n then f q else g (q - n)).length = sz
      split
      · exact hf1 q ‹_›
      · exact hf2 _ (by omega)
    · rw [hget q hq]
      split
      · exact ho1 q ‹_›
      · exact ho2 _ (by omega)
    · have hqr : q * sz + r < (n + m) * sz := by
        have : q * sz + sz ≤ (n + m) * sz := by rw [← Nat.succ_mul]; exact Nat.mul_le_mul_right _ hq
        omega
      rw [hget _ hqr]
      by_cases h1 : q < n
      · have : q * sz + sz ≤ n * sz := by rw [← Nat.succ_mul]; exact Nat.mul_le_mul_right _ h1
        rw [if_pos (by omega)]
        show RC _ _ _ ((if q < n then f q else g (q - n)).getD r .any)
        rw [if_pos h1]
        exact (hr1 q r h1 hr).later hL
      · have h2 : n * sz ≤ q * sz := Nat.mul_le_mul_right _ (by omega)
        rw [if_neg (by omega)]
        show RC _ _ _ ((if q < n then f q else g (q - n)).getD r .any)
        rw [if_neg h1]
        have := hr2 (q - n) r (by omega) hr
        rw [Nat.sub_mul] at this
        rw [show q * sz + r - n * sz = q * sz - n * sz + r by omega]
        exact this.later hL


theorem range_map_getD {n j : Nat} {u : Nat → Value} (hj : j < n) : ((List.range n).map u).getD j undef = u j := by
  rw [getD_lt (by simpa using hj), List.getElem_map, List.getElem_range]
theorem range_map_cells {n : Nat} {u : Nat → Value} {ad : Addr} (hc : ∀ j, j < n → w.cell? (ad.add j) = some (u j)) : ∀ (j : Nat) (v : Value), ((List.range n).map u)[j]? = some v → w.cell? (ad.add j) = some v := by
  intro j v hv
  rw [List.getElem?_map, Option.map_eq_some_iff] at hv
  obtain ⟨k, h1, h2⟩ := hv
  have hk := List.getElem?_eq_some_iff.1 h1
  obtain ⟨h3, h4⟩ := hk
  rw [List.getElem_range] at h4
  subst h4
  subst h2
  exact hc j (by simpa using h3)
theorem range_map_one {n : Nat} {u : Nat → Value} (ho : ∀ j, j < n → (u j).oneCell' = true) : ∀ v ∈ (List.range n).map u, v.oneCell' = true := by
  intro v hv
  rw [List.mem_map] at hv
  obtain ⟨k, h1, rfl⟩ := hv
  exact ho k (by simpa using h1)

/-- The same row under another name of its elements. -/
theorem RelG.same_row (R : RelG w0 Z nt s h gs a w) (o : Nat) (ty : TypeId) (sz n : Nat) (f f' : Nat → List CV) (ho : h o = .row ty sz n f) (hf : ∀ i, i < n → f' i = f i) :
    RelG w0 Z nt s (upd h o (.row ty sz n f')) gs a w := by
  have e : upd gs o (gs o) = gs := funext fun i => by unfold upd; split <;> simp_all
  have := R.eff (w' := w) o (.row ty sz n f') (gs o) rfl rfl rfl (Nat.le_refl _) (fun _ _ _ => rfl) (.inl rfl) (fun ty cells e => by rw [ho] at e; cases e) (fun ty' sz' n' f'' e => by
    rw [ho] at e; injection e with e1 e2 e3 e4; subst e1; subst e2; subst e3; exact ⟨_, _, rfl, Nat.le_refl _, fun _ => rfl⟩) (fun hL hr => by
      have hob := R.objs o
      rw [ho] at hob
      rw [e] at hL hr ⊢
      rcases hob with ⟨q1, q2⟩ | ⟨b', K', cur, q1, q2, q3, q4, q5, q6, q7, q8⟩
      · exact .inl ⟨q1, q2⟩
      · exact .inr ⟨b', K', cur, q1, q2, q3, q4, q5, fun i hi => by rw [hf i hi]; exact q6 i hi, q7, fun i j hi hj => by rw [hf i hi]; exact (q8 i j hi hj).later hL⟩)
  rw [e] at this
  exact this

theorem aop2_append (R : RelG w0 Z nt s h gs a w) {ty : TypeId} {pos : String} {af : Array Edge} {gd : Option (Nat × Bool)} {d : Option Tmp} (hd : ∀ t, d = some t → t < nt) {o : Nat} {x' : AObj} {x : AV} (args : Array Operand) (ats : Array TypeId)
    (hx : aop2 P (.call ⟨.builtin .append, args, ats⟩) (ev s) h d o x' x) :
    ∃ v w', (execOp a.eval ⟨d, .call ⟨.builtin .append, args, ats⟩, ty, pos, af, gd⟩).run P w = .ok (.value v) w' ∧ Rel w0 Z nt (updO s d x) (upd h o x') (a.put d v) w' := by
  obtain ⟨y, z, t, i, j, sz, m, g, rfl, rfl, e1, e2, e3, e4, e5, hwy, hwz, hsrc, hszm, hm⟩ := hx
  have c1 := (ev_ok R y).strip hwy
  have c2 := (ev_ok R z).strip hwz
  obtain ⟨A, c, hvz, hpos⟩ := src_ok R c2 hsrc
  generalize hvy : a.eval y = vy at c1
  generalize (ev s y).strip = xy at c1 hm
  obtain ⟨i', dd, t1, t2, -, -, -, t6, t7, -, -⟩ := tinfo_some e1
  obtain ⟨j', dj, u1, u2, u3, u4, -, -, -, -, u9⟩ := tinfo_some e3
  cases dd with
  | slice el =>
    simp only at t6
    rw [t6] at u1
    cases hzz : j'.zero with
    | none =>
      rw [hzz] at u9
      simp only at u9
      rw [u9] at e5
      simp only [List.length_nil] at e5
      omega
    | some zv =>
      obtain ⟨z1, z2⟩ := tinfo_zero (by rw [← t6]; exact e3) u1 hzz
      have hexec : ∀ v w', (Builtin.append_ #[t, t] ty #[vy, .slice A m c]).run P w = .ok v w' → (execOp a.eval ⟨d, .call ⟨.builtin .append, #[y, z], #[t, t]⟩, ty, pos, af, gd⟩).run P w = .ok (.value v) w' := by
        intro v w' hr
        simp [execOp, resolve, invoke, builtin, hvy, hvz, hr]
      cases c1 with
      | own B k cc o' L ty' sz' n f ho hL hv =>
        obtain ⟨rfl, ty2, n2, f2, e6, e7, e8, e9, e10, rfl, rfl⟩ := hm
        rw [ho] at e6
        injection e6 with f1 f2' f3 f4
        subst f1; subst f2'; subst f3; subst f4
        have hob := R.objs o
        rw [ho] at hob
        have hown : ∀ (gs' : Gs) (B' : Option Addr) (k' K : Nat) (h' : AH) (F : Nat → List CV) (w' : World) (Z' : Nat → Prop), h' o = .row ty' j.size (n + m) F → (∃ b, gs' o = some (b, K) ∧ B' = some ⟨b, 0, none⟩ ∧ k' = n + m) ∨ (gs' o = none ∧ k' = 0 ∧ K = 0) →
            RA w' Z' h' gs' (.slice B' k' K) (.own o (n + m)) := by
          intro gs' B' k' K h' F w' Z' hh' hor
          refine .own B' k' K o (n + m) ty' j.size (n + m) F hh' (Nat.le_refl _) fun _ => ?_
          rcases hor with ⟨b, q1, q2, q3⟩ | ⟨q1, q2, q3⟩
          · exact .inl ⟨b, K, q1, q2, q3, rfl⟩
          · exact .inr ⟨q1, q2, q3⟩
        rcases Nat.eq_zero_or_pos m with h0 | h0
        · -- nothing is appended
          subst h0
          have hkk : k ≤ cc ∧ ((∃ b K, gs o = some (b, K) ∧ B = some ⟨b, 0, none⟩ ∧ k = n ∧ cc = K) ∨ (gs o = none ∧ k = 0 ∧ cc = 0 ∧ n = 0)) := by
            rcases hv e8 with ⟨b, K, q1, q2, q3, q4⟩ | ⟨q1, q2, q3⟩
            · refine ⟨?_, .inl ⟨b, K, q1, q2, q3, q4⟩⟩
              rcases hob with ⟨r1, r2⟩ | ⟨b', K', cur, r1, r2, r3, r4, _⟩
              · rw [q1] at r1; cases r1
              · rw [q1] at r1
                simp only [Option.some.injEq, Prod.mk.injEq] at r1
                omega
            · refine ⟨by omega, .inr ⟨q1, q2, q3, ?_⟩⟩
              rcases hob with ⟨r1, r2⟩ | ⟨b', K', cur, r1, _⟩
              · exact r2
              · rw [q1] at r1; cases r1
          refine ⟨_, w, hexec _ _ (run_append_zero t2 u1 B A k cc c hkk.1), gs, ?_⟩
          have R' := R.same_row o ty' j.size n f (fun q => if q < n then f q else g (q - n)) ho (fun q hq => if_pos hq)
          refine R'.putO hd (hown gs B k cc _ _ _ _ (upd_same _ _ _) ?_)
          rcases hkk.2 with ⟨b, K, q1, q2, q3, q4⟩ | ⟨q1, q2, q3, q4⟩
          · exact .inl ⟨b, by rw [q4]; exact q1, q2, by omega⟩
          · exact .inr ⟨q1, q2, q3⟩
        · obtain ⟨ad, u, rfl, s1, s2, s3, s4⟩ := hpos h0
          have hsz : sz = j.size := hszm.resolve_left (by omega)
          subst hsz
          have hn1 : ((List.range (m * j.size)).map u).length = m * j'.size := by simp [u3]
          rcases hv e8 with ⟨b, K, q1, rfl, rfl, rfl⟩ | ⟨q1, rfl, rfl⟩
          · rcases hob with ⟨r1, r2⟩ | ⟨b', K', cur, r1, r2, r3, r4, r5, r6, r7, r8⟩
            · rw [q1] at r1; cases r1
            rw [q1] at r1
            simp only [Option.some.injEq, Prod.mk.injEq] at r1
            obtain ⟨rfl, rfl⟩ := r1
            have hkc : k * j.size ≤ cc * j.size := Nat.mul_le_mul_right _ r4
            by_cases hroom : k + m ≤ cc
            · -- in place
              have hfit : (k + m) * j.size ≤ cc * j.size := Nat.mul_le_mul_right _ hroom
              rw [Nat.add_mul] at hfit
              have hr := run_append_room (P := P) w t ty el j' t2 u1 b k cc cur (by rw [← t6, ← e7]; exact r2) ad m c ((List.range (m * j.size)).map u) hn1 (range_map_cells s1) (range_map_one s2) hroom (by rw [hn1, ← u3, r3]; exact hfit)
              rw [← u3] at hr
              have hlen : ((List.range (m * j.size)).map u).length = m * j.size := by simp
              refine ⟨_, _, hexec _ _ hr, gs, ?_⟩
              have R' := R.write o b cc q1 cur (cur.toList.take (k * j.size) ++ (List.range (m * j.size)).map u ++ cur.toList.drop (k * j.size + ((List.range (m * j.size)).map u).length)).toArray ty' r2 (.row ty' j.size (k + m) (fun q => if q < k then f q else g (q - k)))
                (fun ty cells e => by rw [ho] at e; cases e) (fun ty2 sz2 n2 f2 e => by rw [ho] at e; injection e with e1 e2 e3 e4; subst e1; subst e2; subst e3; exact ⟨_, _, rfl, by omega⟩) fun hL _ => by
                  refine .inr ⟨b, cc, (cur.toList.take (k * j.size) ++ (List.range (m * j.size)).map u ++ cur.toList.drop (k * j.size + ((List.range (m * j.size)).map u).length)).toArray, q1, setRow_heap w b cur _ ty' _ r2, by rw [size_splice (by rw [hlen]; omega), r3], hroom, r5, fun q hq => ?_, fun q hq => ?_, fun q r hq hr' => ?_⟩
                  · show (if q < k then f q else g (q - k)).length = j.size
                    split
                    · exact r6 q ‹_›
                    · exact s3 _ (by omega)
                  · rw [Nat.add_mul] at hq
                    rw [getD_splice (by rw [hlen]; omega), hlen]
                    split
                    · rw [range_map_getD (by omega)]; exact s2 _ (by omega)
                    · exact r7 q (by omega)
                  · have hqr : q * j.size + j.size ≤ (k + m) * j.size := by rw [← Nat.succ_mul]; exact Nat.mul_le_mul_right _ hq
                    rw [Nat.add_mul] at hqr
                    rw [getD_splice (by rw [hlen]; omega)]
                    show RC _ _ _ ((if q < k then f q else g (q - k)).getD r .any)
                    by_cases h1 : q < k
                    · have : q * j.size + j.size ≤ k * j.size := by rw [← Nat.succ_mul]; exact Nat.mul_le_mul_right _ h1
                      rw [if_neg (by omega), if_pos h1]
                      exact (r8 q r h1 hr').later hL
                    · have : k * j.size ≤ q * j.size := Nat.mul_le_mul_right _ (by omega)
                      rw [if_pos (by rw [hlen]; omega), if_neg h1, range_map_getD (by omega)]
                      have := s4 (q - k) r (by omega) hr'
                      rw [Nat.sub_mul] at this
                      rw [show q * j.size + r - k * j.size = q * j.size - k * j.size + r by omega]
                      exact this.later hL
              exact R'.putO hd (.own _ _ _ o (k + m) ty' j.size (k + m) _ (upd_same _ _ _) (Nat.le_refl _) fun _ => .inl ⟨b, cc, q1, rfl, rfl, rfl⟩)
            · -- a new block
              have holds : ∀ (q : Nat) (v : Value), ((List.range (k * j.size)).map fun q => cur.getD q undef)[q]? = some v → w.cell? ((⟨b, 0, none⟩ : Addr).add q) = some v := range_map_cells fun q hq => by rw [addr_lit, Nat.zero_add]; exact cell_of_heap r2 (by omega)
              have hr := run_append_grow (P := P) w t ty el j' zv t2 u1 hzz ⟨b, 0, none⟩ k cc ((List.range (k * j.size)).map fun q => cur.getD q undef) (by simp [u3]) holds ad m c ((List.range (m * j.size)).map u) hn1 (range_map_cells s1) (by omega) (by simp only [maxLen] at e9; omega) (growslice_fits (by omega) (by rw [← u4]; exact e10))
              refine ⟨_, _, hexec _ _ hr, upd gs o (some (w.heap.size, grownCap w (k + m) cc el)), ?_⟩
              have hG := grown_block R o k m cc j.size el ((List.range (k * j.size)).map fun q => cur.getD q undef) ((List.range (m * j.size)).map u) zv.cells f g (by omega) e4 (by simp) (by simp) e9 (fun q hq => by rw [range_map_getD hq]; exact r7 q hq) (fun q hq => by rw [range_map_getD hq]; exact s2 q hq) r6 s3 (fun p q hp hq => by
                have : p * j.size + j.size ≤ k * j.size := by rw [← Nat.succ_mul]; exact Nat.mul_le_mul_right _ hp
                rw [range_map_getD (by omega)]; exact r8 p q hp hq) (fun p q hp hq => by
                have : p * j.size + j.size ≤ m * j.size := by rw [← Nat.succ_mul]; exact Nat.mul_le_mul_right _ hp
                rw [range_map_getD (by omega)]; exact s4 p q hp hq) (fun ty2 sz2 n2 f2 e => by rw [ho] at e; injection e with e1 e2 e3 e4; subst e1; subst e2; subst e3; exact ⟨by rw [e7, t6], rfl, rfl, h0⟩) (fun ty cells e => by rw [ho] at e; cases e)
              simp only at hG
              rw [e7, t6]
              exact hG.putO hd (by
                refine .own _ _ _ o (k + m) el j.size (k + m) _ (upd_same _ _ _) (Nat.le_refl _) fun _ => .inl ⟨w.heap.size, _, upd_same _ _ _, rfl, rfl, rfl⟩)
          · -- it has no block yet
            have hn0 : n = 0 := by
              rcases hob with ⟨r1, r2⟩ | ⟨b', K', cur, r1, _⟩
              · exact r2
              · rw [q1] at r1; cases r1
            subst hn0
            have hr : (Builtin.append_ #[t, t] ty #[.slice B 0 0, .slice (some ad) m c]).run P w = .ok (.slice (some ⟨w.heap.size, 0, none⟩) (0 + m) (grownCap w (0 + m) 0 el)) (w.drew.alloc (.cells (([] : List Value).toArray ++ ((List.range (m * j.size)).map u).toArray ++ Builtin.zeroCells zv.cells (grownCap w (0 + m) 0 el - (0 + m))) el)) := by
              cases B with
              | none =>
                have := run_append_nil (P := P) w t ty el j' zv t2 u1 hzz ad m c ((List.range (m * j.size)).map u) hn1 (range_map_cells s1) h0 (by simp only [maxLen] at e9; omega) (by rw [← u4]; simp only [Nat.zero_add] at e10; omega)
                simp only [Nat.zero_add]
                rw [this]
                simp
              | some bb => exact run_append_grow (P := P) w t ty el j' zv t2 u1 hzz bb 0 0 [] (by simp) (fun q v hq => by simp at hq) ad m c ((List.range (m * j.size)).map u) hn1 (range_map_cells s1) (by omega) (by simp only [maxLen] at e9; omega) (growslice_fits (by omega) (by rw [← u4]; exact e10))
            refine ⟨_, _, hexec _ _ hr, upd gs o (some (w.heap.size, grownCap w (0 + m) 0 el)), ?_⟩
            have hG := grown_block R o 0 m 0 j.size el [] ((List.range (m * j.size)).map u) zv.cells f g (by omega) e4 (by simp) (by simp) e9 (fun q hq => by omega) (fun q hq => by rw [range_map_getD hq]; exact s2 q hq) (fun q hq => by omega) s3 (fun p q hp hq => by omega) (fun p q hp hq => by
                have : p * j.size + j.size ≤ m * j.size := by rw [← Nat.succ_mul]; exact Nat.mul_le_mul_right _ hp
                rw [range_map_getD (by omega)]; exact s4 p q hp hq) (fun ty2 sz2 n2 f2 e => by rw [ho] at e; injection e with e1 e2 e3 e4; subst e1; subst e2; subst e3; exact ⟨by rw [e7, t6], rfl, rfl, h0⟩) (fun ty cells e => by rw [ho] at e; cases e)
            simp only at hG
            rw [e7, t6]
            exact hG.putO hd (by
              refine .own _ _ _ o (0 + m) el j.size (0 + m) _ (upd_same _ _ _) (Nat.le_refl _) fun _ => .inl ⟨w.heap.size, _, upd_same _ _ _, rfl, rfl, rfl⟩)
      | emp B =>
        obtain ⟨rfl, ho, e9, e10, rfl, rfl⟩ := hm
        rcases Nat.eq_zero_or_pos m with h0 | h0
        · subst h0
          refine ⟨_, w, hexec _ _ (run_append_zero t2 u1 B A 0 0 c (Nat.le_refl _)), upd gs o none, ?_⟩
          have R' := R.eff (w' := w) o (.row i.elem j.size 0 g) none rfl rfl rfl (Nat.le_refl _) (fun _ _ _ => rfl) (.inl (by have := R.objs o; rw [ho] at this; exact this.symm)) (fun ty cells e => by rw [ho] at e; cases e) (fun ty sz n f e => by rw [ho] at e; cases e) fun _ _ => .inl ⟨upd_same _ _ _, rfl⟩
          exact R'.putO hd (.own B 0 0 o 0 i.elem j.size 0 g (upd_same _ _ _) (Nat.le_refl _) fun _ => .inr ⟨upd_same _ _ _, rfl, rfl⟩)
        · obtain ⟨ad, u, rfl, s1, s2, s3, s4⟩ := hpos h0
          have hsz : sz = j.size := hszm.resolve_left (by omega)
          subst hsz
          have hn1 : ((List.range (m * j.size)).map u).length = m * j'.size := by simp [u3]
          have hr : (Builtin.append_ #[t, t] ty #[.slice B 0 0, .slice (some ad) m c]).run P w = .ok (.slice (some ⟨w.heap.size, 0, none⟩) (0 + m) (grownCap w (0 + m) 0 el)) (w.drew.alloc (.cells (([] : List Value).toArray ++ ((List.range (m * j.size)).map u).toArray ++ Builtin.zeroCells zv.cells (grownCap w (0 + m) 0 el - (0 + m))) el)) := by
            cases B with
            | none =>
              have := run_append_nil (P := P) w t ty el j' zv t2 u1 hzz ad m c ((List.range (m * j.size)).map u) hn1 (range_map_cells s1) h0 (by simp only [maxLen] at e9; omega) (by rw [← u4]; omega)
              simp only [Nat.zero_add]
              rw [this]
              simp
            | some bb => exact run_append_grow (P := P) w t ty el j' zv t2 u1 hzz bb 0 0 [] (by simp) (fun q v hq => by simp at hq) ad m c ((List.range (m * j.size)).map u) hn1 (range_map_cells s1) (by omega) (by simp only [maxLen] at e9; omega) (growslice_fits (by omega) (by rw [Nat.zero_add, ← u4]; exact e10))
          refine ⟨_, _, hexec _ _ hr, upd gs o (some (w.heap.size, grownCap w (0 + m) 0 el)), ?_⟩
          have hG := grown_block R o 0 m 0 j.size el [] ((List.range (m * j.size)).map u) zv.cells (fun _ => []) g (by omega) e4 (by simp) (by simp) (by omega) (fun q hq => by omega) (fun q hq => by rw [range_map_getD hq]; exact s2 q hq) (fun q hq => by omega) s3 (fun p q hp hq => by omega) (fun p q hp hq => by
                have : p * j.size + j.size ≤ m * j.size := by rw [← Nat.succ_mul]; exact Nat.mul_le_mul_right _ hp
                rw [range_map_getD (by omega)]; exact s4 p q hp hq) (fun ty2 sz2 n2 f2 e => by rw [ho] at e; cases e) (fun ty cells e => by rw [ho] at e; cases e)
          simp only [Nat.zero_add, Nat.not_lt_zero, if_false, Nat.sub_zero] at hG ⊢
          rw [t6]
          exact hG.putO hd (.own _ _ _ o m el j.size m g (upd_same _ _ _) (Nat.le_refl _) fun _ => .inl ⟨w.heap.size, _, upd_same _ _ _, rfl, rfl, rfl⟩)
      | _ => exact hm.elim
  | _ => simp_all

theorem run_copyN {dT sT ty el : TypeId} {j : TypeInfo} (g o dLen dCap : Nat) (A : Option Addr) (sLen sCap : Nat) (cur : Array Value) (t : TypeId) (cs : List Value)
    (hu : P.underlying dT = some (.slice el)) (hj : P.info? el = some j) (hg : w.heap[g]? = some (.cells cur t (0, 0))) (hn : cs.length = Nat.min sLen dLen * j.size)
    (hA : 0 < Nat.min sLen dLen → ∃ ad, A = some ad ∧ ∀ (q : Nat) (v : Value), cs[q]? = some v → w.cell? (ad.add q) = some v) (hfit : o + cs.length ≤ cur.size) (h1 : ∀ v ∈ cs, v.oneCell' = true) :
    (Builtin.copy_ #[dT, sT] ty #[.slice (some ⟨g, o, none⟩) dLen dCap, .slice A sLen sCap]).run P w = .ok (goInt (Nat.min sLen dLen : Nat)) (w.setRow g (cur.toList.take o ++ cs ++ cur.toList.drop (o + cs.length)).toArray) := by
  have hf : (Builtin.firstCells j.size (Nat.min sLen dLen) (.slice A sLen sCap)).run P w = .ok cs.toArray w := by
    rcases Nat.eq_zero_or_pos (Nat.min sLen dLen) with h0 | h0
    · rw [h0] at hn ⊢
      have : cs = [] := List.eq_nil_of_length_eq_zero (by simpa using hn)
      subst this
      cases A <;> simp [Builtin.firstCells, loadCells, loadCellsFrom]
    · obtain ⟨ad, rfl, hc⟩ := hA h0
      exact run_firstCells_some (P := P) w j.size _ ad sLen sCap cs hn hc
  have hst := run_storeCells_at P g o t cs 0 cur w hg (by simpa using hfit) h1
  simp only [Nat.add_zero] at hst
  simp only [Builtin.copy_, Sem.run_bind, run_underlying hu, Result.andThen_ok, Builtin.lenOf, Sem.run_pure, sizeOf, typeInfo, run_program, hj, List.getElem?_toArray, List.getElem?_cons_zero, List.getElem?_cons_succ, hf, hst]

theorem run_copy0 {dT sT ty el : TypeId} {j : TypeInfo} (hu : P.underlying dT = some (.slice el)) (hj : P.info? el = some j) (B A : Option Addr) (dLen dCap sLen sCap : Nat) (hn : Nat.min sLen dLen = 0) :
    (Builtin.copy_ #[dT, sT] ty #[.slice B dLen dCap, .slice A sLen sCap]).run P w = .ok (goInt 0) w := by
  cases A <;> cases B <;> simp [Builtin.copy_, run_underlying hu, sizeOf, typeInfo, hj, Builtin.lenOf, hn, Builtin.firstCells, loadCells, loadCellsFrom, storeCells]

theorem aop2_copy (R : RelG w0 Z nt s h gs a w) {ty : TypeId} {pos : String} {af : Array Edge} {gd : Option (Nat × Bool)} {d : Option Tmp} (hd : ∀ t, d = some t → t < nt) {o : Nat} {x' : AObj} {x : AV} (args : Array Operand) (ats : Array TypeId)
    (hx : aop2 P (.call ⟨.builtin .copy, args, ats⟩) (ev s) h d o x' x) :
    ∃ v w', (execOp a.eval ⟨d, .call ⟨.builtin .copy, args, ats⟩, ty, pos, af, gd⟩).run P w = .ok (.value v) w' ∧ Rel w0 Z nt (updO s d x) (upd h o x') (a.put d v) w' := by
  obtain ⟨y, z, t, tz, i, j, sz, m, g, rfl, rfl, e1, e2, e3, hwy, hwz, hsrc, hszm, hm⟩ := hx
  have c1 := (ev_ok R y).strip hwy
  have c2 := (ev_ok R z).strip hwz
  obtain ⟨A, c, hvz, hpos⟩ := src_ok R c2 hsrc
  generalize hvy : a.eval y = vy at c1
  generalize (ev s y).strip = xy at c1 hm
  obtain ⟨i', dd, t1, t2, -, -, -, t6, t7, -, -⟩ := tinfo_some e1
  obtain ⟨j', dj, u1, u2, u3, u4, -, -, -, -, u9⟩ := tinfo_some e3
  cases dd with
  | slice el =>
    simp only at t6
    rw [t6] at u1
    have hexec : ∀ v w', (Builtin.copy_ #[t, tz] ty #[vy, .slice A m c]).run P w = .ok v w' → (execOp a.eval ⟨d, .call ⟨.builtin .copy, #[y, z], #[t, tz]⟩, ty, pos, af, gd⟩).run P w = .ok (.value v) w' := by
      intro v w' hr
      simp [execOp, resolve, invoke, builtin, hvy, hvz, hr]
    -- one road for both kinds of destination
    have road : ∀ (B : Option Addr) (k cc off : Nat) (ty' : TypeId) (n : Nat) (f : Nat → List CV), vy = .slice B k cc → h o = .row ty' j.size n f → off + k ≤ n → (0 < k → ∃ b K, gs o = some (b, K) ∧ B = some ⟨b, off * j.size, none⟩) →
        ∃ v w', (execOp a.eval ⟨d, .call ⟨.builtin .copy, #[y, z], #[t, tz]⟩, ty, pos, af, gd⟩).run P w = .ok (.value v) w' ∧
          Rel w0 Z nt (updO s d (.int (Nat.min m k : Nat))) (upd h o (.row ty' j.size n (fun q => if off ≤ q ∧ q < off + Nat.min m k then g (q - off) else f q))) (a.put d v) w' := by
      intro B k cc off ty' n f hv ho hok hB
      subst hv
      have hob := R.objs o
      rw [ho] at hob
      by_cases hp : 0 < Nat.min m k
      · have hk : 0 < k := Nat.lt_of_lt_of_le hp (Nat.min_le_right _ _)
        have hm0 : 0 < m := Nat.lt_of_lt_of_le hp (Nat.min_le_left _ _)
        obtain ⟨b, K, q1, rfl⟩ := hB hk
        obtain ⟨ad, u, rfl, s1, s2, s3, s4⟩ := hpos hm0
        have hsz : sz = j.size := hszm.resolve_left (by omega)
        subst hsz
        rcases hob with ⟨r1, r2⟩ | ⟨b', K', cur, r1, r2, r3, r4, r5, r6, r7, r8⟩
        · omega
        rw [q1] at r1
        simp only [Option.some.injEq, Prod.mk.injEq] at r1
        obtain ⟨rfl, rfl⟩ := r1
        have hnK : n * j.size ≤ K * j.size := Nat.mul_le_mul_right _ r4
        have hmk : Nat.min m k ≤ k := Nat.min_le_right _ _
        have hmm : Nat.min m k ≤ m := Nat.min_le_left _ _
        generalize hl : Nat.min m k = l at *
        have hlm : l * j.size ≤ m * j.size := Nat.mul_le_mul_right _ hmm
        have hfit : off * j.size + l * j.size ≤ n * j.size := by rw [← Nat.add_mul]; exact Nat.mul_le_mul_right _ (by omega)
        have hlen : ((List.range (l * j.size)).map u).length = l * j.size := by simp
        have hcp := run_copyN (P := P) (w := w) (dT := t) (sT := tz) (ty := ty) b (off * j.size) k cc (some ad) m c cur ty' ((List.range (l * j.size)).map u) t2 u1 r2 (by rw [hlen, hl, u3]) (fun _ => ⟨ad, rfl, range_map_cells fun q hq => s1 q (by omega)⟩) (by rw [hlen, r3]; omega) (range_map_one fun q hq => s2 q (by omega))
        rw [hl] at hcp
        refine ⟨_, _, hexec _ _ hcp, gs, RelG.putO ?_ hd (.c _ _ (.raw _))⟩
        refine R.write o b K q1 cur _ ty' r2 _ (fun ty cells e => by rw [ho] at e; cases e) (fun ty2 sz2 n2 f2 e => by rw [ho] at e; injection e with e1 e2 e3 e4; subst e1; subst e2; subst e3; exact ⟨_, _, rfl, Nat.le_refl _⟩) fun hL _ => ?_
        refine .inr ⟨b, K, _, q1, setRow_heap w b cur _ ty' _ r2, by rw [size_splice (by rw [hlen]; omega), r3], r4, r5, fun q hq => ?_, fun q hq => ?_, fun q r hq hr' => ?_⟩
        · show (if off ≤ q ∧ q < off + l then g (q - off) else f q).length = j.size
          split
          · exact s3 _ (by omega)
          · exact r6 q hq
        · rw [getD_splice (by rw [hlen]; omega), hlen]
          split
          · rw [range_map_getD (by omega)]; exact s2 _ (by omega)
          · exact r7 q hq
        · have hqr : q * j.size + j.size ≤ n * j.size := by rw [← Nat.succ_mul]; exact Nat.mul_le_mul_right _ hq
          rw [getD_splice (by rw [hlen]; omega)]
          show RC _ _ _ ((if off ≤ q ∧ q < off + l then g (q - off) else f q).getD r .any)
          by_cases h1 : off ≤ q ∧ q < off + l
          · have h2 : off * j.size ≤ q * j.size := Nat.mul_le_mul_right _ h1.1
            have h3 : q * j.size + j.size ≤ (off + l) * j.size := by rw [← Nat.succ_mul]; exact Nat.mul_le_mul_right _ h1.2
            rw [Nat.add_mul] at h3
            rw [if_pos (by rw [hlen]; omega), if_pos h1, range_map_getD (by omega)]
            have := s4 (q - off) r (by omega) hr'
            rw [Nat.sub_mul] at this
            rw [show q * j.size + r - off * j.size = q * j.size - off * j.size + r by omega]
            exact this.later hL
          · have h2 : q < off ∨ off + l ≤ q := by omega
            rw [if_neg, if_neg h1]
            · exact (r8 q r hq hr').later hL
            · rw [hlen]
              rcases h2 with h2 | h2
              · have : q * j.size + j.size ≤ off * j.size := by rw [← Nat.succ_mul]; exact Nat.mul_le_mul_right _ h2
                omega
              · have : (off + l) * j.size ≤ q * j.size := Nat.mul_le_mul_right _ h2
                rw [Nat.add_mul] at this
                omega
      · have h0 : Nat.min m k = 0 := by omega
        refine ⟨_, w, hexec _ _ (run_copy0 t2 u1 B A k cc m c h0), gs, ?_⟩
        rw [h0]
        exact (R.same_row o ty' j.size n f _ ho fun q hq => if_neg (by omega)).putO hd (.c _ _ (.raw _))
    cases c1 with
    | own B k cc o' L ty' sz' n f ho hL hv =>
      obtain ⟨rfl, ty2, n2, f2, e6, e8, rfl, rfl⟩ := hm
      rw [ho] at e6
      injection e6 with f1 f2' f3 f4
      subst f1; subst f2'; subst f3; subst f4
      have hob := R.objs o
      rw [ho] at hob
      have hkn : k = n := by
        rcases hv e8 with ⟨b, K, q1, q2, q3, q4⟩ | ⟨q1, q2, q3⟩
        · exact q3
        · rcases hob with ⟨r1, r2⟩ | ⟨b', K', cur, r1, _⟩
          · omega
          · rw [q1] at r1; cases r1
      subst hkn
      obtain ⟨v, w', h1, h2⟩ := road B k cc 0 ty' k f rfl ho (by omega) (fun hk => by
        rcases hv e8 with ⟨b, K, q1, q2, q3, q4⟩ | ⟨q1, q2, q3⟩
        · exact ⟨b, K, q1, by rw [q2]; simp⟩
        · omega)
      refine ⟨v, w', h1, ?_⟩
      simp only [Nat.zero_le, true_and, Nat.zero_add, Nat.sub_zero] at h2
      exact h2
    | osub B k' cc o' L off k ty' sz' n f ho hL hv =>
      obtain ⟨rfl, ty2, n2, f2, e6, e8, rfl, rfl⟩ := hm
      rw [ho] at e6
      injection e6 with f1 f2' f3 f4
      subst f1; subst f2'; subst f3; subst f4
      obtain ⟨v1, rfl, v3, v4⟩ := hv e8
      exact road B k' cc off ty' n f rfl ho v1 v4
    | _ => exact hm.elim
  | _ => simp_all
end

end Go.Am
