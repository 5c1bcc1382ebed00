/- FnExactLedgerRun's law holds: it returns true for every ledger and all transactions, and leaves its arguments as they were. -/
import Derived.Test.YtdecnnhcbjhfgaaRows
import Derived.Test.YtdecnnhcbjhfgaaZR
import Derived.Test.YtdecnnhcbjhfgaaZM
namespace Go.Proofs.Ytdecnnhcbjhfgaa.rowExRun
set_option linter.unusedSimpArgs false
set_option linter.unusedVariables false
open Go Go.RowKit Go.ChangeShapes Go.WideShapes Go.ChangeAt Go.Proofs.Ytdecnnhcbjhfgaa.Am

theorem own : ownKnob Try.prog.godebug = none := by kernel_rfl
theorem lay : laidOutB Try.prog = true := by kernel_rfl
theorem cells3 : Try.prog.cellsOf 3 = 1 := by kernel_rfl

set_option maxRecDepth 100000 in
theorem led_arg {H : Type} {enc : TypeId × Value → H} {W : World} {sp : Nat → Bool} {hd : Bool} {v : Value} {d : DataW H} {p : List MemPlace} {base : Nat} (hv : Value.okWide Try.prog W .any base 24 v) (h : DataW.Trod enc Try.prog W 0 sp hd 24 v d p) :
    ∃ (b : List Int) (f : Int), Rep (fun k => k < W.heap.size) W (V.agg [.lst (.int .i64) b, .int .i64 f]).toD v := by
  obtain ⟨vs, rfl, hs, hf⟩ := struct1 Try.underlying24 (by kernel_rfl) (by kernel_rfl) hv h
  obtain ⟨n0, y0, h0⟩ := hf 0 _ rfl
  obtain ⟨n1, y1, h1⟩ := hf 1 _ rfl
  obtain ⟨b, v0, e0, r0⟩ := ints_cells Try.underlying22 Try.underlying3 cells3 h0
  obtain ⟨f, e1⟩ := int_cells Try.underlying3 h1
  simp only [List.cons.injEq, and_true] at e0
  refine ⟨b, f, rep_agg hs.symm fun i hi => ?_⟩
  match i, hi with
  | 0, _ => rw [e0]; exact r0
  | 1, _ => rw [e1]; exact .int _ _
set_option maxRecDepth 100000 in
theorem txns_arg {H : Type} {enc : TypeId × Value → H} {W : World} {sp : Nat → Bool} {hd : Bool} {v : Value} {d : DataW H} {p : List MemPlace} {base : Nat} (hv : Value.okWide Try.prog W .any base 49 v) (h : DataW.Trod enc Try.prog W 0 sp hd 49 v d p) :
    ∃ l : List Txn, Rep (fun k => k < W.heap.size) W (V.lst .txn l).toD v := by
  obtain ⟨a0, l0, c0, rfl⟩ := okWide_slice Try.underlying49 hv
  obtain ⟨fuel, h⟩ := h
  have hel : ∀ fuel cs x, DataW.trod enc Try.prog W 0 sp hd fuel 26 cs = some x → ∃ d : Txn, Reads W .txn d cs := by
    intro fuel cs x hx
    obtain ⟨hl, hf⟩ := struct_cells Try.underlying26 (by kernel_rfl) (by kernel_rfl) hx
    obtain ⟨n0, y0, h0⟩ := hf 0 _ rfl
    obtain ⟨n1, y1, h1⟩ := hf 1 _ rfl
    obtain ⟨n2, y2, h2⟩ := hf 2 _ rfl
    obtain ⟨n3, y3, h3⟩ := hf 3 _ rfl
    obtain ⟨x, e0⟩ := int_cells Try.underlying3 h0
    obtain ⟨y, e1⟩ := int_cells Try.underlying3 h1
    obtain ⟨s, e2⟩ := int_cells Try.underlying3 h2
    obtain ⟨e, e3⟩ := int_cells Try.underlying3 h3
    refine ⟨⟨x, y, s, e⟩, hl, fun j hj => ?_⟩
    match j, hj with
    | 0, _ => rw [e0]; exact .int _ _
    | 1, _ => rw [e1]; exact .int _ _
    | 2, _ => rw [e2]; exact .int _ _
    | 3, _ => rw [e3]; exact .int _ _
  obtain ⟨l, v', e, hr⟩ := row_cells (T := .txn) rfl Try.underlying49 (by kernel_rfl) hel h
  have e : [Value.slice a0 l0 c0] = [v'] := e
  cases e
  exact ⟨l, hr⟩

set_option maxRecDepth 100000 in
theorem lifted (os : Os) (started : os.Started) (H : Type) (enc : TypeId × Value → H) :
    ReturnsInHanded {} Try.checked os 8 .any (Rows.fnExactLedgerRunSpec.pre6 enc Try.prog Try.f8 Rows.fnExactLedgerRunRow.domain false) (Rows.fnExactLedgerRunSpec.post enc Try.prog Try.f8 false true false false) := by
  refine returnsInHanded_of_change (C := Try.checked) own started (by kernel_rfl) Try.func8
    (ChangeSpec.witness6 (enc := enc) (C := Try.checked) false ⟨#[], #[.agg #[.slice none 0 0, .int .i64 0], .slice none 0 0], []⟩ 8 (by kernel_rfl) (by kernel_rfl) (by kernel_rfl) (by kernel_rfl)) ?_
  intro W base args ds gs before hval hW _ _
  have hW' := hW
  obtain ⟨p, q, hA0, hV, rfl, hfz, hnd⟩ := hW
  have hA : DataW.TrodAll enc Try.prog W 0 (fun _ => true) true Try.f8.params.toList args.toList ds p := hA0
  rw [Try.params8] at hA hval
  obtain ⟨v0, vs0, d0, ds0, p0, q0, hargs, rfl, rfl, h0, r0⟩ := trodAll_cons hA
  obtain ⟨v1, vs1, d1, ds1, p1, q1, rfl, rfl, rfl, h1, r1⟩ := trodAll_cons r0
  obtain ⟨rfl, rfl, rfl⟩ := trodAll_nil r1
  obtain rfl : args = #[v0, v1] := by cases args; simp_all
  obtain ⟨rfl, rfl⟩ := trodVars_none hV
  obtain ⟨b, f, hr⟩ := led_arg (hval 0 _ v0 rfl rfl) h0
  obtain ⟨ts, hr1⟩ := txns_arg (hval 1 _ v1 rfl rfl) h1
  clear hA0
  simp only [List.append_nil] at hW'
  refine (law_calls (lawExRun_c b f ts) rfl (fun i hi => ?_)).mono fun e W' ⟨he, hb⟩ => ?_
  · match i, hi with
    | 0, _ => exact hr
    | 1, _ => exact hr1
  subst he
  have hlt : ∀ x ∈ p0 ++ p1, x.block < W.heap.size := fun x hx => hW'.lt x hx
  exact ⟨_, rfl, post_below (pa := p0 ++ p1) (pv := []) hW' (fun _ _ _ => trodAll_cons_mk (shut_bool Try.underlying4 _) trodAll_mk0)
    (fun sp hsp => trodAll_cons_mk (WideElems.Trod_stays lay (by kernel_rfl) (of_decide_eq_true (by kernel_rfl)) h0 (fun x hx => hb.same (hlt x (List.mem_append_left _ hx))) (fun x hx => hsp x (List.mem_append_left _ hx)))
      (trodAll_mk1 (WideElems.Trod_stays lay (by kernel_rfl) (of_decide_eq_true (by kernel_rfl)) h1 (fun x hx => hb.same (hlt x (List.mem_append_right _ hx))) (fun x hx => hsp x (List.mem_append_right _ hx)))))
    (fun _ _ => rfl) (by simp) hb (ok_one (by kernel_rfl) rfl (okWide_bool_mk Try.underlying4 _))⟩
theorem holds : Rows.FnExactLedgerRunSaid :=
  OpenClaim.holds_of_wide 8 Try.f8 rfl rfl rfl rfl rfl rfl rfl ⟨rfl, rfl, rfl, rfl, rfl⟩ rfl rfl rfl rfl rfl (by kernel_rfl) Try.func8 (by kernel_rfl)
    (of_decide_eq_true (by kernel_rfl)) (by unfold Func.isWrapper; first | (rw [if_pos (by decide +kernel)]; kernel_rfl) | (rw [if_neg (by decide +kernel)]; exact ⟨rfl, rfl⟩))
    (fun os started H enc _ => lifted os started H enc)
#print axioms holds
end Go.Proofs.Ytdecnnhcbjhfgaa.rowExRun
