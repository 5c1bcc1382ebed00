/- Arguments of the exact laws on graphs: how they read. -/
import Derived.Test.YtkclhekkcffpoaaRows
import Derived.Test.YtkclhekkcffpoaaZR
import Derived.Test.YtkclhekkcffpoaaU23
namespace Go.Proofs.Ytkclhekkcffpoaa.Am
set_option linter.unusedSimpArgs false
set_option linter.unusedVariables false
open Go Go.RowKit Go.ChangeShapes Go.WideShapes Go.ChangeAt

theorem own1 : ownKnob Try.prog.godebug = none := by kernel_rfl
theorem lay1 : laidOutB Try.prog = true := by kernel_rfl
theorem cells_int : Try.prog.cellsOf 3 = 1 := by kernel_rfl
set_option maxRecDepth 100000 in
theorem ints_arg {H : Type} {enc : TypeId × Value → H} {W : World} {sp : Nat → Bool} {hd : Bool} {v : Value} {d : DataW H} {p : List MemPlace} {base : Nat} (hv : Value.okWide Try.prog W .any base 22 v) (h : DataW.Trod enc Try.prog W 0 sp hd 22 v d p) :
    ∃ l : List Int, Rep (fun k => k < W.heap.size) W (V.lst (.int .i64) l).toD v := by
  obtain ⟨a0, l0, c0, rfl⟩ := okWide_slice Try.underlying22 hv
  obtain ⟨fuel, h⟩ := h
  obtain ⟨l, v', e, hr⟩ := ints_cells Try.underlying22 Try.underlying3 cells_int h
  have e : [Value.slice a0 l0 c0] = [v'] := e
  cases e
  exact ⟨l, hr⟩
set_option maxRecDepth 100000 in
theorem int_arg {H : Type} {enc : TypeId × Value → H} {W : World} {sp : Nat → Bool} {hd : Bool} {v : Value} {d : DataW H} {p : List MemPlace} {base : Nat} (hv : Value.okWide Try.prog W .any base 3 v) (h : DataW.Trod enc Try.prog W 0 sp hd 3 v d p) :
    ∃ n : Int, v = .int .i64 n := by
  obtain ⟨n, rfl⟩ := okWide_int Try.underlying3 hv
  exact ⟨n, rfl⟩

set_option maxRecDepth 100000 in
theorem vtx_cells {H : Type} {enc : TypeId × Value → H} {W : World} {sp : Nat → Bool} {hd : Bool} {cs : List Value} {fuel : Nat} {x : DataW H × List MemPlace} (h : DataW.trod enc Try.prog W 0 sp hd fuel 61 cs = some x) : ∃ d : Vtx, Reads W .vtx d cs := by
  obtain ⟨hl, hf⟩ := struct_cells Try.underlying61 (by kernel_rfl) (by kernel_rfl) h
  obtain ⟨n0, y0, h0⟩ := hf 0 _ rfl
  obtain ⟨n1, y1, h1⟩ := hf 1 _ rfl
  obtain ⟨n2, y2, h2⟩ := hf 2 _ rfl
  obtain ⟨n3, y3, h3⟩ := hf 3 _ rfl
  obtain ⟨r, e0⟩ := int_cells Try.underlying3 h0
  obtain ⟨a, e1⟩ := int_cells Try.underlying3 h1
  obtain ⟨ps, v2, e2, r2⟩ := ints_cells Try.underlying22 Try.underlying3 cells_int h2
  obtain ⟨d, e3⟩ := int_cells Try.underlying3 h3
  simp only [List.cons.injEq, and_true] at e2
  refine ⟨⟨r, a, ps, d⟩, hl, fun j hj => ?_⟩
  match j, hj with
  | 0, _ => rw [e0]; exact .int _ _
  | 1, _ => rw [e1]; exact .int _ _
  | 2, _ => rw [e2]; exact r2
  | 3, _ => rw [e3]; exact .int _ _
set_option maxRecDepth 100000 in
theorem vtxs_arg {H : Type} {enc : TypeId × Value → H} {W : World} {sp : Nat → Bool} {hd : Bool} {v : Value} {d : DataW H} {p : List MemPlace} {base : Nat} (hv : Value.okWide Try.prog W .any base 23 v) (h : DataW.Trod enc Try.prog W 0 sp hd 23 v d p) :
    ∃ l : List Vtx, Rep (fun k => k < W.heap.size) W (V.lst .vtx l).toD v := by
  obtain ⟨a0, l0, c0, rfl⟩ := okWide_slice Try.underlying23 hv
  obtain ⟨fuel, h⟩ := h
  obtain ⟨l, v', e, hr⟩ := row_cells (T := .vtx) rfl Try.underlying23 (by kernel_rfl) (fun fuel cs x hx => vtx_cells hx) h
  have e : [Value.slice a0 l0 c0] = [v'] := e
  cases e
  exact ⟨l, hr⟩
end Go.Proofs.Ytkclhekkcffpoaa.Am
