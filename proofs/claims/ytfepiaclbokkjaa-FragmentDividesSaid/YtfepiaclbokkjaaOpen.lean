/- What comes in at the laws' parameters: numbers, lists of numbers, derivations, edges. No condition. -/
import Derived.Test.YtfepiaclbokkjaaAmF
import Derived.Test.YtfepiaclbokkjaaBase
import Derived.Test.YtfepiaclbokkjaaData
namespace Go.Am
open Go.Proofs Go.RowKit Go.WideShapes Go.ChangeShapes
set_option maxHeartbeats 1000000
set_option linter.unusedSimpArgs false

section
variable {H : Type} {enc : TypeId × Value → H} {w : World} {base : Nat} {spare : Nat → Bool} {held : Bool}

theorem c3 : Try.prog.cellsOf 3 = 1 := by kernel_rfl
theorem c9 : Try.prog.cellsOf 9 = 1 := by kernel_rfl
theorem c38 : Try.prog.cellsOf 38 = 5 := by kernel_rfl
theorem c43 : Try.prog.cellsOf 43 = 12 := by kernel_rfl

theorem o_int {fuel : Nat} {t : TypeId} {cs : List Value} {x : DataW H × List MemPlace} (hu : Try.prog.underlying t = some (.int .i64)) (h : DataW.trod enc Try.prog w base spare held fuel t cs = some x) : ∃ n : Int, RCs w (fun _ => False) cs [.int n] := by
  obtain ⟨n, rfl, _⟩ := trod_int h hu
  exact ⟨n, .one rfl (.raw _)⟩
theorem o_str {fuel : Nat} {t : TypeId} {cs : List Value} {x : DataW H × List MemPlace} (hu : Try.prog.underlying t = some .string) (h : DataW.trod enc Try.prog w base spare held fuel t cs = some x) : ∃ n : ByteArray, RCs w (fun _ => False) cs [.str n] := by
  obtain ⟨n, rfl, _⟩ := trod_str h hu
  exact ⟨n, .one rfl (.raw _)⟩
theorem o_ints {fuel : Nat} {cs : List Value} {x : DataW H × List MemPlace} (h : DataW.trod enc Try.prog w base spare held fuel 29 cs = some x) : ∃ l : List Int, RCs w (fun _ => False) cs [encInts l] := by
  obtain ⟨l, h1, _⟩ := open_slice (fun n : Int => [CV.int n]) 1 (fun _ => rfl) h Try.underlying29 c3 (by decide) (fun n _ vs y hy => o_int Try.underlying3 hy)
  exact ⟨l, h1⟩

theorem RCs.step {Z : Nat → Prop} {cs : List Value} {xs ys : List CV} (o n m : Nat) (h1 : RCs w Z ((cs.drop o).take n) xs) (hm : m = o + n) (h2 : RCs w Z (cs.drop m) ys) : RCs w Z (cs.drop o) (xs ++ ys) := by
  subst hm
  have := h1.append h2
  rwa [← List.drop_drop, List.take_append_drop] at this
theorem RCs.last {Z : Nat → Prop} {cs : List Value} (m : Nat) (h : cs.length = m) : RCs w Z (cs.drop m) [] := by
  rw [List.drop_of_length_le (by omega)]
  exact RCs.nil
theorem RCs.sub1 {Z : Nat → Prop} {cs : List Value} {x y : CV} (h : RCs w Z cs [x]) (hs : CV.Sub x y) : RCs w Z cs [y] := by
  refine ⟨h.1, fun i hi => ?_⟩
  have hx := h.2 i hi
  have : i = 0 := by simpa using hi
  subst this
  exact ⟨hx.1, hs _ _ _ hx.2⟩

theorem o_dv : ∀ (fuel : Nat) (cs : List Value) (x : DataW H × List MemPlace), DataW.trod enc Try.prog w base spare held fuel 38 cs = some x → ∃ d : Dv, RCs w (fun _ => False) cs (cellsD d) := by
  intro fuel
  induction fuel using Nat.strongRecOn with
  | ind fuel ih =>
    intro cs x h
    obtain ⟨n, rfl, hl, hf⟩ := trod_struct h Try.underlying38
    rw [c38] at hl
    simp only [List.mem_cons, List.not_mem_nil, or_false, forall_eq_or_imp, forall_eq, c3, c9] at hf
    obtain ⟨⟨_, f0⟩, ⟨_, f1⟩, ⟨_, f2⟩, ⟨_, f3⟩, ⟨_, f4⟩⟩ := hf
    obtain ⟨k, r0⟩ := o_int Try.underlying3 f0
    obtain ⟨nm, r1⟩ := o_str Try.underlying9 f1
    obtain ⟨fr, r2⟩ := o_int Try.underlying3 f2
    obtain ⟨to, r3⟩ := o_int Try.underlying3 f3
    obtain ⟨ks, r4, _⟩ := open_slice cellsD 5 (fun d => rfl) f4 Try.underlying36 c38 (by decide) (fun m hm vs y hy => ih m (by omega) vs y hy)
    have r4' := r4.sub1 (y := encKids ks) (CV.Sub.im rfl fun i hi => (encDs_getD hi).symm)
    have c36 : Try.prog.cellsOf 36 = 1 := by kernel_rfl
    rw [c36] at r4'
    have := (RCs.step 0 1 1 r0 rfl (RCs.step 1 1 2 r1 rfl (RCs.step 2 1 3 r2 rfl (RCs.step 3 1 4 r3 rfl (RCs.step 4 1 5 r4' rfl (RCs.last 5 hl))))))
    exact ⟨.mk k nm fr to ks, this⟩

theorem o_arc {fuel : Nat} {cs : List Value} {x : DataW H × List MemPlace} (h : DataW.trod enc Try.prog w base spare held fuel 95 cs = some x) : ∃ p : Int × Int, RCs w (fun _ => False) cs [.int p.1, .int p.2] := by
  obtain ⟨n, rfl, hl, hf⟩ := trod_struct h Try.underlying95
  have c95 : Try.prog.cellsOf 95 = 2 := by kernel_rfl
  rw [c95] at hl
  simp only [List.mem_cons, List.not_mem_nil, or_false, forall_eq_or_imp, forall_eq, c3, c9] at hf
  obtain ⟨⟨_, f0⟩, ⟨_, f1⟩⟩ := hf
  obtain ⟨a, r0⟩ := o_int Try.underlying3 f0
  obtain ⟨b, r1⟩ := o_int Try.underlying3 f1
  have := RCs.step 0 1 1 r0 rfl (RCs.step 1 1 2 r1 rfl (RCs.last 2 hl))
  exact ⟨(a, b), this⟩

theorem o_node {fuel : Nat} {cs : List Value} {x : DataW H × List MemPlace} (h : DataW.trod enc Try.prog w base spare held fuel 65 cs = some x) : ∃ p : Int × List (Int × Int), RCs w (fun _ => False) cs [.int p.1, encArcs p.2] := by
  obtain ⟨n, rfl, hl, hf⟩ := trod_struct h Try.underlying65
  have c65 : Try.prog.cellsOf 65 = 2 := by kernel_rfl
  have c63 : Try.prog.cellsOf 63 = 1 := by kernel_rfl
  rw [c65] at hl
  simp only [List.mem_cons, List.not_mem_nil, or_false, forall_eq_or_imp, forall_eq, c3, c9, c63] at hf
  obtain ⟨⟨_, f0⟩, ⟨_, f1⟩⟩ := hf
  obtain ⟨a, r0⟩ := o_int Try.underlying3 f0
  obtain ⟨l, r1, _⟩ := open_slice (fun p : Int × Int => [CV.int p.1, CV.int p.2]) 2 (fun d => rfl) f1 Try.underlying63 (by kernel_rfl) (by decide) (fun m hm vs y hy => o_arc hy)
  have := RCs.step 0 1 1 r0 rfl (RCs.step 1 1 2 r1 rfl (RCs.last 2 hl))
  exact ⟨(a, l), this⟩

theorem o_fs {fuel : Nat} {cs : List Value} {x : DataW H × List MemPlace} (h : DataW.trod enc Try.prog w base spare held fuel 41 cs = some x) : ∃ l : List (Int × List (Int × Int)), RCs w (fun _ => False) cs [encFS l] := by
  obtain ⟨n, rfl, hl, hf⟩ := trod_struct h Try.underlying41
  have c41 : Try.prog.cellsOf 41 = 1 := by kernel_rfl
  have c39 : Try.prog.cellsOf 39 = 1 := by kernel_rfl
  rw [c41] at hl
  simp only [List.mem_cons, List.not_mem_nil, or_false, forall_eq_or_imp, forall_eq, c3, c9, c39] at hf
  obtain ⟨_, f0⟩ := hf
  obtain ⟨l, r1, _⟩ := open_slice (fun p : Int × List (Int × Int) => [CV.int p.1, encArcs p.2]) 2 (fun d => rfl) f0 Try.underlying39 (by kernel_rfl) (by decide) (fun m hm vs y hy => o_node hy)
  have := RCs.step 0 1 1 r1 rfl (RCs.last 1 hl)
  exact ⟨l, this⟩

theorem o_edge {fuel : Nat} {cs : List Value} {x : DataW H × List MemPlace} (h : DataW.trod enc Try.prog w base spare held fuel 43 cs = some x) : ∃ e : Ed, RCs w (fun _ => False) cs (cellsE e) := by
  obtain ⟨n, rfl, hl, hf⟩ := trod_struct h Try.underlying43
  have c29 : Try.prog.cellsOf 29 = 1 := by kernel_rfl
  have c41 : Try.prog.cellsOf 41 = 1 := by kernel_rfl
  rw [c43] at hl
  simp only [List.mem_cons, List.not_mem_nil, or_false, forall_eq_or_imp, forall_eq, c3, c9, c29, c38, c41] at hf
  obtain ⟨⟨_, f0⟩, ⟨_, f1⟩, ⟨_, f2⟩, ⟨_, f3⟩, ⟨_, f4⟩, ⟨_, f5⟩, ⟨_, f6⟩, ⟨_, f7⟩⟩ := hf
  obtain ⟨a0, r0⟩ := o_int Try.underlying3 f0
  obtain ⟨a1, r1⟩ := o_int Try.underlying3 f1
  obtain ⟨a2, r2⟩ := o_int Try.underlying3 f2
  obtain ⟨a3, r3⟩ := o_int Try.underlying3 f3
  obtain ⟨a4, r4⟩ := o_str Try.underlying9 f4
  obtain ⟨a5, r5⟩ := o_ints f5
  obtain ⟨a6, r6⟩ := o_dv _ _ _ f6
  obtain ⟨a7, r7⟩ := o_fs f7
  have := RCs.step 0 1 1 r0 rfl (RCs.step 1 1 2 r1 rfl (RCs.step 2 1 3 r2 rfl (RCs.step 3 1 4 r3 rfl (RCs.step 4 1 5 r4 rfl (RCs.step 5 1 6 r5 rfl (RCs.step 6 5 11 r6 rfl (RCs.step 11 1 12 r7 rfl (RCs.last 12 hl))))))))
  exact ⟨⟨a0, a1, a2, a3, a4, a5, a6, a7⟩, this⟩

theorem o_edges {fuel : Nat} {cs : List Value} {x : DataW H × List MemPlace} (h : DataW.trod enc Try.prog w base spare held fuel 22 cs = some x) : ∃ l : List Ed, RCs w (fun _ => False) cs [encEs l] := by
  obtain ⟨l, h1, _⟩ := open_slice cellsE 12 (fun _ => rfl) h Try.underlying22 c43 (by decide) (fun n _ vs y hy => o_edge hy)
  exact ⟨l, h1⟩

/-- One value of one cell. -/
theorem rcs_one {v : Value} {x : CV} {Z : Nat → Prop} (h : RCs w Z v.cells.toList [x]) (hv : v.cells = #[v]) : RC w Z v x := by
  rw [hv] at h
  exact (h.2 0 (Nat.zero_lt_one)).2

theorem p_edges {r : Reach} {b0 : Nat} {v : Value} {d : DataW H} {ps : List MemPlace} (hval : Value.okWide Try.prog w r b0 22 v) (hd : DataW.Trod enc Try.prog w base spare held 22 v d ps) : ∃ l : List Ed, RC w (fun _ => False) v (encEs l) := by
  obtain ⟨a, n, c, rfl⟩ := okWide_slice Try.underlying22 hval
  obtain ⟨fuel, hf⟩ := hd
  obtain ⟨l, h⟩ := o_edges hf
  exact ⟨l, rcs_one h rfl⟩
theorem p_ints {r : Reach} {b0 : Nat} {v : Value} {d : DataW H} {ps : List MemPlace} (hval : Value.okWide Try.prog w r b0 29 v) (hd : DataW.Trod enc Try.prog w base spare held 29 v d ps) : ∃ l : List Int, RC w (fun _ => False) v (encInts l) := by
  obtain ⟨a, n, c, rfl⟩ := okWide_slice Try.underlying29 hval
  obtain ⟨fuel, hf⟩ := hd
  obtain ⟨l, h⟩ := o_ints hf
  exact ⟨l, rcs_one h rfl⟩
theorem p_u8 {r : Reach} {b0 : Nat} {v : Value} {d : DataW H} {ps : List MemPlace} (hval : Value.okWide Try.prog w r b0 5 v) (hd : DataW.Trod enc Try.prog w base spare held 5 v d ps) : ∃ n : Int, RC w (fun _ => False) v (.raw (.int .u8 n)) ∧ 0 ≤ n ∧ n ≤ 255 := by
  obtain ⟨n, rfl, _, _, hw⟩ := open_int Try.underlying5 hval hd
  exact ⟨n, .raw _, wf_u8 hw⟩
end
end Go.Am
