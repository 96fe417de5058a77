/- Texts of the proof: Lay. No condition. -/
import Derived.Test.YtgbeghjnllfdjaaGreatDoorM3
import Derived.Test.YtgbeghjnllfdjaaGreatDoorS3
import Derived.Test.YtgbeghjnllfdjaaGreatDoorRows
import Derived.Lib.LaidTab
import Derived.Stop.LaidErr
import Derived.Shelf.Vars
import Derived.Handed
import Derived.MakeChecks
import Derived.ProofKit
import Derived.OpenShut
set_option linter.unusedVariables false
set_option linter.unusedSimpArgs false
namespace Go.Am
open Go.Proofs Go.RowKit Go.WideShapes Go.ChangeShapes
set_option maxHeartbeats 1000000
set_option linter.unusedSimpArgs false
theorem gPow : Tryz.prog.globalNamed "internal/strconv.uint64pow10" = some 2 := by kernel_rfl
theorem gErrS : Tryz.prog.globalNamed "strconv.ErrSyntax" = some 3 := by kernel_rfl
theorem gErrR : Tryz.prog.globalNamed "strconv.ErrRange" = some 4 := by kernel_rfl
theorem star : "*" ++ "errors.errorString" = "*errors.errorString" := by decide
theorem rowErrP (u : TypeId) (h : Tryz.prog.typeName? 3 u = some "*errors.errorString") : u = 620 :=
 typeName_ptr_named (nm := "errors.errorString") (by rw [star]; kernel_rfl) (by kernel_rfl) (by decide) u (by rw [star]; exact h)
@[reducible] def glbOf (W : World) : Glb := ⟨fun b => b < W.heap.size ∧ (b = 2 ∨ b = 3 ∨ b = 4 ∨ b = 0), fun b => W.heap[b]?, False⟩
theorem noDr_of (W : World) : @NoDr (glbOf W) := by
 letI := glbOf W
 exact ⟨fun h => h⟩
abbrev LAID : List (String × DataW Unit) := YtgbeghjnllfdjaaGreatDoor.Rows.profileChecksRow.laid
theorem powD : (YtgbeghjnllfdjaaGreatDoor.Rows.laid_internal_strconv_uint64pow10 : DataW Unit) = Lib.tabData .u64 Lib.pow10Tab := by rfl
structure LaidF (W : World) : Prop where
 pow : Lib.TabIs Tryz.prog W "internal/strconv.uint64pow10" .u64 Lib.pow10Tab
 errS : ∃ x y, W.var? Tryz.prog "strconv.ErrSyntax" = some #[.iface x y]
 errR : ∃ x y, W.var? Tryz.prog "strconv.ErrRange" = some #[.iface x y]
 maxl : ∃ m t, W.heap[0]? = some (.cells #[.int .i64 m] t)
theorem max_row : ((begin Tryz.prog (fun _ _ => 0) default).world.heap[0]?).bind Obj.row? = some (#[.int .i64 0], 3) := by kernel_rfl
theorem max_of {W : World} (h : W.ShapedOpen Tryz.prog) : ∃ m t, W.heap[0]? = some (.cells #[.int .i64 m] t) := by
 have hg : 0 < Tryz.prog.globals.size := of_decide_eq_true (by kernel_rfl)
 obtain ⟨cs, hh, hs, _⟩ := h.1 0 _ 3 hg max_row
 obtain ⟨m, hm⟩ := cell_of_shapedOpen_int h hg max_row rfl (by kernel_rfl) (by kernel_rfl) Tryz.underlying3
 have hs' : cs.size = 1 := hs
 clear hs
 obtain ⟨l⟩ := cs
 match l, hs' with
 | [v], _ =>
   have hv : W.cell? ⟨0, 0, none⟩ = some v := by rw [Lib.cell_of_heap hh]; rfl
   rw [hm, Option.some.injEq] at hv
   subst hv
   exact ⟨m, 3, hh⟩
theorem laid_facts {W : World} (h : laidMetH Tryz.prog LAID W) (hsh : W.ShapedOpen Tryz.prog) : LaidF W := by
 rw [MakeChecks.laidMetH_plain _ _ _ (by kernel_rfl)] at h
 have hp : laidMet Tryz.prog (("internal/strconv.uint64pow10", Lib.tabData .u64 Lib.pow10Tab) :: _) W := powD ▸ h.tail.tail.tail.tail
 have c65 : Tryz.prog.cellsOf 622 = 1 := by kernel_rfl
 have c9 : Tryz.prog.cellsOf 9 = 1 := by kernel_rfl
 have tR : (Tryz.prog.globals[4]?).map (·.type) = some 87 := by kernel_rfl
 have tS : (Tryz.prog.globals[3]?).map (·.type) = some 87 := by kernel_rfl
 obtain ⟨a1, _, hR, _⟩ := laid_sentinel h.tail.tail.tail gErrR tR Tryz.underlying87 rowErrP Tryz.underlying620 Tryz.underlying622 rfl rfl Tryz.underlying9 c65 c9
 obtain ⟨a2, _, hS, _⟩ := laid_sentinel h.tail.tail gErrS tS Tryz.underlying87 rowErrP Tryz.underlying620 Tryz.underlying622 rfl rfl Tryz.underlying9 c65 c9
 exact ⟨Lib.tabIs_of_head (t := 544) (e := 71) (n := 20) gPow (by kernel_rfl) (by kernel_rfl) (by kernel_rfl) (by kernel_rfl) (by kernel_rfl) hp, ⟨_, _, hS⟩, ⟨_, _, hR⟩, max_of hsh⟩
theorem var_block {P : Program} {W : World} {n : String} {g : Nat} {cs : Array Value} (hg : P.globalNamed n = some g) (h : W.var? P n = some cs) : ∃ t fz, W.heap[g]? = some (.cells cs t fz) := by
 unfold World.var? at h
 rw [hg] at h
 simp only [Option.bind_some] at h
 split at h
 · rename_i cs' t fz e
   injection h with h
   subst h
   exact ⟨t, fz, e⟩
 · cases h
theorem var_congr {P : Program} {W w : World} {n : String} {g : Nat} {cs : Array Value} (hg : P.globalNamed n = some g) (h : W.var? P n = some cs) (he : w.heap[g]? = W.heap[g]?) : w.var? P n = some cs := by
 unfold World.var? at h ⊢
 rw [hg] at h ⊢
 simp only [Option.bind_some] at h ⊢
 rw [he]
 exact h
theorem heap_lt {W : World} {g : Nat} {o : Obj} (h : W.heap[g]? = some o) : g < W.heap.size := by
 rcases Nat.lt_or_ge g W.heap.size with q | q
 · exact q
 · rw [Array.getElem?_eq_none q] at h; cases h
theorem tabs_of {W : World} (F : LaidF W) : @Tabs (glbOf W) := by
 letI := glbOf W
 refine ⟨fun w hw => ?_⟩
 obtain ⟨xs, ys, hS⟩ := F.errS
 obtain ⟨xr, yr, hR⟩ := F.errR
 obtain ⟨_, _, b0⟩ := var_block gPow F.pow
 obtain ⟨_, _, b1⟩ := var_block gErrS hS
 obtain ⟨_, _, b2⟩ := var_block gErrR hR
 have e0 : w.heap[2]? = W.heap[2]? := hw _ ⟨heap_lt b0, .inl rfl⟩
 have e1 : w.heap[3]? = W.heap[3]? := hw _ ⟨heap_lt b1, .inr (.inl rfl)⟩
 have e2 : w.heap[4]? = W.heap[4]? := hw _ ⟨heap_lt b2, .inr (.inr (.inl rfl))⟩
 refine ⟨var_congr gPow F.pow e0, ⟨xs, ys, ?_⟩, ⟨xr, yr, ?_⟩⟩
 · simpa using World.var?_cell gErrS (var_congr gErrS hS e1) 0
 · simpa using World.var?_cell gErrR (var_congr gErrR hR e2) 0
theorem tabM_of {W : World} (F : LaidF W) : @TabM (glbOf W) := by
 letI := glbOf W
 refine ⟨fun w hw => ?_⟩
 obtain ⟨m, t, b3⟩ := F.maxl
 have e3 : w.heap[0]? = W.heap[0]? := hw _ ⟨heap_lt b3, .inr (.inr (.inr rfl))⟩
 exact ⟨m, by rw [Lib.cell_of_heap (e3.trans b3)]; rfl⟩
theorem glb_not {W : World} (F : LaidF W) {a : Addr} {n : ByteArray} (hz : (glbOf W).A a.block) (hc : W.cell? a = some (.string n)) : False := by
 obtain ⟨xs, ys, hS⟩ := F.errS
 obtain ⟨xr, yr, hR⟩ := F.errR
 obtain ⟨m, t, b3⟩ := F.maxl
 obtain ⟨_, _, b0⟩ := var_block gPow F.pow
 obtain ⟨_, _, b1⟩ := var_block gErrS hS
 obtain ⟨_, _, b2⟩ := var_block gErrR hR
 unfold World.cell? at hc
 have one : ∀ (v : Value) (i : Nat) (n : ByteArray), #[v][i]? = some (.string n) → v = .string n := by
   intro v i n h
   match i, h with
   | 0, h => simpa using h
   | i + 1, h => simp at h
 rcases hz.2 with e | e | e | e
 · rw [e, b0] at hc
   simp only at hc
   split at hc
   · cases hc
   · simp only [List.getElem?_toArray, List.getElem?_map, Option.map_eq_some_iff] at hc
     obtain ⟨z, _, hz⟩ := hc
     cases hz
 · rw [e, b1] at hc
   simp only at hc
   split at hc
   · cases hc
   · exact absurd (one _ _ _ hc) (by simp)
 · rw [e, b2] at hc
   simp only at hc
   split at hc
   · cases hc
   · exact absurd (one _ _ _ hc) (by simp)
 · rw [e, b3] at hc
   simp only at hc
   split at hc
   · cases hc
   · exact absurd (one _ _ _ hc) (by simp)
theorem agg_avoid {W : World} (F : LaidF W) {r : Rn} {v : Value} (h : RC W (fun _ => False) v (.agg (rnC r))) : RC W (glbOf W).A v (.agg (rnC r)) := by
 cases h with
 | agg cs _ hl ho hh =>
   refine .agg cs _ hl ho fun i hi => ?_
   match i, hi with
   | 0, hi => exact (hh 0 hi).flat1 rfl
   | 1, hi =>
     have q : RC W (fun _ => False) (cs.getD 1 undef) (itL r.items) := hh 1 hi
     show RC W _ _ (itL r.items)
     rcases Nat.eq_zero_or_pos r.items.length with h0 | h0
     · obtain ⟨A, c, e, _⟩ := q.im_inv
       rw [e]
       unfold itL
       rw [h0]
       exact .nul _ _ _ _
     · obtain ⟨A, c, e, hx⟩ := q.im_inv
       obtain ⟨a, g, e2, _, hlt, hnc, hc, ho, hf, hh⟩ := hx h0
       rw [e, e2]
       refine .im a _ c 5 _ g (fun hz => ?_) hlt hnc hc ho hf fun i j hi hj => ?_
       · have h1 := hh 0 0 h0 (by decide)
         rw [itL_get h0] at h1
         have h2 : g (0 * 5 + 0) = .string (r.items.getD 0 default).id := h1.raw_inv
         have h3 := hc 0 (by omega)
         rw [show (0 * 5 + 0) = 0 from rfl] at h2
         rw [h2] at h3
         exact glb_not F (by rw [block_add]; exact hz) h3
       · have h1 := hh i j hi hj
         rw [itL_get hi] at h1 ⊢
         match j, hj with
         | 0, _ => exact h1.flat1 rfl
         | 1, _ => exact h1.flat1 rfl
         | 2, _ => exact h1.flat1 rfl
         | 3, _ => exact h1.flat1 rfl
         | 4, _ => exact h1.flat1 rfl
section
variable {H : Type} {enc : TypeId × Value → H} {w : World} {base : Nat} {spare : Nat → Bool} {held : Bool}
theorem c3 : Tryz.prog.cellsOf 3 = 1 := by kernel_rfl
theorem c4 : Tryz.prog.cellsOf 4 = 1 := by kernel_rfl
theorem c9 : Tryz.prog.cellsOf 9 = 1 := by kernel_rfl
theorem cIt : Tryz.prog.cellsOf 47 = 5 := by kernel_rfl
theorem cRun : Tryz.prog.cellsOf 24 = 2 := by kernel_rfl
theorem cItems : Tryz.prog.cellsOf 22 = 1 := by kernel_rfl
theorem o_int {fuel : Nat} {t : TypeId} {cs : List Value} {x : DataW H × List MemPlace} (hu : Tryz.prog.underlying t = some (.int .i64)) (h : DataW.trod enc Tryz.prog w base spare held fuel t cs = some x) : ∃ n : Int, RCs w (fun _ => False) cs [.int n] := by
 obtain ⟨n, rfl, hn⟩ := trod_int h hu
 exact ⟨n, .one rfl (.raw _)⟩
theorem o_str {fuel : Nat} {t : TypeId} {cs : List Value} {x : DataW H × List MemPlace} (hu : Tryz.prog.underlying t = some .string) (h : DataW.trod enc Tryz.prog w base spare held fuel t cs = some x) : ∃ n : ByteArray, RCs w (fun _ => False) cs [.str n] := by
 obtain ⟨n, rfl, _⟩ := trod_str h hu
 exact ⟨n, .one rfl (.raw _)⟩
theorem o_bool {fuel : Nat} {t : TypeId} {cs : List Value} {x : DataW H × List MemPlace} (hu : Tryz.prog.underlying t = some .bool) (h : DataW.trod enc Tryz.prog w base spare held fuel t cs = some x) : ∃ b : Bool, RCs w (fun _ => False) cs [.bool b] := by
 obtain ⟨n, rfl⟩ := trod_bool h hu
 exact ⟨n, .one rfl (.raw _)⟩
theorem RCs.step {Z : Nat → Prop} {cs : List Value} {xs ys : List CV} (o n m : Nat) (h1 : RCs w Z ((cs.drop o).take n) xs) (hm : m = o + n) (h2 : RCs w Z (cs.drop m) ys) : RCs w Z (cs.drop o) (xs ++ ys) := by
 subst hm
 have := h1.append h2
 rwa [← List.drop_drop, List.take_append_drop] at this
theorem RCs.last {Z : Nat → Prop} {cs : List Value} (m : Nat) (h : cs.length = m) : RCs w Z (cs.drop m) [] := by
 rw [List.drop_of_length_le (by omega)]
 exact RCs.nil
theorem RCs.sub1 {Z : Nat → Prop} {cs : List Value} {x y : CV} (h : RCs w Z cs [x]) (hs : CV.Sub x y) : RCs w Z cs [y] := by
 refine ⟨h.1, fun i hi => ?_⟩
 have hx := h.2 i hi
 have : i = 0 := by simpa using hi
 subst this
 exact ⟨hx.1, hs _ _ _ hx.2⟩
theorem o_it {fuel : Nat} {cs : List Value} {x : DataW H × List MemPlace} (h : DataW.trod enc Tryz.prog w base spare held fuel 47 cs = some x) : ∃ d : It, RCs w (fun _ => False) cs (itC d) := by
 obtain ⟨n, rfl, hl, hf⟩ := trod_struct h Tryz.underlying47
 rw [cIt] at hl
 simp only [List.mem_cons, List.not_mem_nil, or_false, forall_eq_or_imp, forall_eq, c3, c4, c9] at hf
 obtain ⟨⟨_, f0⟩, ⟨_, f1⟩, ⟨_, f2⟩, ⟨_, f3⟩, ⟨_, f4⟩⟩ := hf
 obtain ⟨id, r0⟩ := o_str Tryz.underlying9 f0
 obtain ⟨rd, r1⟩ := o_int Tryz.underlying3 f1
 obtain ⟨ed, r2⟩ := o_int Tryz.underlying3 f2
 obtain ⟨tk, r3⟩ := o_int Tryz.underlying3 f3
 obtain ⟨pt, r4⟩ := o_bool Tryz.underlying4 f4
 have := (RCs.step 0 1 1 r0 rfl (RCs.step 1 1 2 r1 rfl (RCs.step 2 1 3 r2 rfl (RCs.step 3 1 4 r3 rfl (RCs.step 4 1 5 r4 rfl (RCs.last 5 hl))))))
 exact ⟨⟨id, rd, ed, tk, pt⟩, this⟩
theorem o_run {fuel : Nat} {cs : List Value} {x : DataW H × List MemPlace} (h : DataW.trod enc Tryz.prog w base spare held fuel 24 cs = some x) : ∃ d : Rn, RCs w (fun _ => False) cs (rnC d) ∧ d.items.length ≤ 9223372036854775807 := by
 obtain ⟨n, rfl, hl, hf⟩ := trod_struct h Tryz.underlying24
 rw [cRun] at hl
 simp only [List.mem_cons, List.not_mem_nil, or_false, forall_eq_or_imp, forall_eq, c9, cItems] at hf
 obtain ⟨⟨_, f0⟩, ⟨_, f1⟩⟩ := hf
 obtain ⟨nm, r0⟩ := o_str Tryz.underlying9 f0
 obtain ⟨l, r1, hm⟩ := open_slice itC 5 (fun _ => rfl) f1 Tryz.underlying22 cIt (by decide) (fun m hm vs y hy => o_it hy)
 have r1' := r1.sub1 (y := itL l) (CV.Sub.im rfl fun i hi => by rw [itL_get hi])
 have := RCs.step 0 1 1 r0 rfl (RCs.step 1 1 2 r1' rfl (RCs.last 2 hl))
 exact ⟨⟨nm, l⟩, this, by unfold maxLen at hm; omega⟩
set_option maxRecDepth 100000
theorem p_run {r : Reach} {b0 : Nat} {v : Value} {d : DataW H} {ps : List MemPlace} (hval : Value.okWide Tryz.prog w r b0 24 v) (hd : DataW.Trod enc Tryz.prog w base spare held 24 v d ps) : ∃ d : Rn, RC w (fun _ => False) v (.agg (rnC d)) ∧ d.items.length ≤ 9223372036854775807 := by
 obtain ⟨cs, rfl, hs⟩ := okWide_struct Tryz.underlying24 hval
 obtain ⟨fuel, hf⟩ := hd
 obtain ⟨x, h, hm⟩ := o_run hf
 rw [cRun] at hs
 refine ⟨x, .agg cs _ hs (fun i hi => ?_) fun i hi => ?_, hm⟩
 · have := (h.2 i hi).1
   simpa [Value.cells, Array.getD_eq_getD_getElem?, List.getD_eq_getElem?_getD] using this
 · have := (h.2 i hi).2
   simpa [Value.cells, Array.getD_eq_getD_getElem?, List.getD_eq_getElem?_getD] using this
theorem p_str {r : Reach} {b0 : Nat} {v : Value} (hval : Value.okWide Tryz.prog w r b0 9 v) : ∃ s : ByteArray, v = .string s := okWide_string Tryz.underlying9 hval
theorem handed_at {a : Assume} {C : Checked} {os : Os} {f : FuncId} {fn : Func} {s : ChangeSpec} {conds : List PathCond} {apart fresh handsOn again : Bool} {X : World → Array Value → Prop}
   (hX : ∀ (w w' : World) (args : Array Value), w.heap = w'.heap → X w args → X w' args) (own : ownKnob C.prog.godebug = none) (started : os.Started) (noInit : C.prog.inits.idxOf? f = none) (hfn : C.prog.funcs[f]? = some fn)
   (wit : ∃ (w : World) (tape : Tape) (i : Input), w.os = os ∧ (w.forCall tape i).Shaped C.prog ∧ i.vars = [] ∧ Input.okWide C.prog (w.forCall tape i) .any w.heap.size f i ∧
     ((s.pre enc C.prog fn conds apart (w.forCall tape i).memory i.args ∧ X (w.forCall tape i).memory i.args) ∧ sizedMet enc C.prog fn (OpenSpec.ofChange s) apart (w.forCall tape i).memory i.args) ∧ a.holds C.prog (lone (Frame.enter C.prog f i.args .normal) [] (w.forCall tape i)))
   (go : ∀ (W : World) (base : Nat) (args : Array Value) (ds gs : List (DataW H)) (before : List MemPlace), (∀ (j : Nat) t v, fn.params[j]? = some t → args[j]? = some v → Value.okWide C.prog W .any base t v) →
     DataW.Whole enc C.prog fn.params.toList s.vars apart W args.toList ds gs before → X W args → W.ShapedOpen C.prog → Calls C.prog f args W fun e W' => ∃ v, e = .returned v ∧ s.post enc C.prog fn apart fresh handsOn again W args v W') :
   ReturnsInHanded a C os f .any (fun w args => (s.pre enc C.prog fn conds apart w args ∧ X w args) ∧ sizedMet enc C.prog fn (OpenSpec.ofChange s) apart w args) (s.post enc C.prog fn apart fresh handsOn again) := by
 refine returnsInHanded_of_calls own started noInit wit fun w tape i _ hsh _ hok hpre _ => ?_
 have hval : ∀ (j : Nat) t v, fn.params[j]? = some t → i.args[j]? = some v → Value.okWide C.prog (w.forCall tape i) .any w.heap.size t v := by
   obtain ⟨_, _, _, fn', hfn', _, _, _, _, hv⟩ := hok
   obtain rfl : fn' = fn := Option.some.inj (hfn'.symm.trans hfn)
   exact hv
 obtain ⟨⟨⟨ds, gs, before, hw, _⟩, hx⟩, _⟩ := hpre
 refine (go (w.forCall tape i) w.heap.size i.args ds gs before hval (DataW.Whole.of_heap (by rfl) hw) (hX _ _ _ (by rfl) hx) hsh).mono fun e W' ⟨v, he, hp⟩ => ?_
 subst he
 exact ChangeSpec.post_blind hp
end
end Go.Am
