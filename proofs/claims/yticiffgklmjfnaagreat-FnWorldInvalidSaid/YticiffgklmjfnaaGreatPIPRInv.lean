/- Quiet periods: the reference's WorldCalm, what is drawn; the law of invalid runs. FnWorldInvalid's law holds: it returns true for all bytes, and leaves its argument as it was. -/
import Derived.Test.YticiffgklmjfnaaGreatRows
import Derived.Test.YticiffgklmjfnaaGreatPI10
set_option linter.unusedSimpArgs false
set_option linter.unusedVariables false
namespace Go.Proofs.YticiffgklmjfnaaGreat.Am
open Go
attribute [local irreducible] Mk Need Ari Get Idx Cnd CallM CallA Opt Unch At ConV
set_option maxRecDepth 10000
theorem dval_c (c : List Int) (hc : ∀ x ∈ c, 0 ≤ x ∧ x ≤ 255) : ∃ w : Wrl, WSm w ∧ ConV Tryz.prog 31 [.lst (.int .u8) c] [] (wrlA w) [] := by
  have h := rd0w hc
  obtain ⟨⟨w, q⟩, ⟨h1, h2, h3⟩, hw⟩ := dwrg_c _ 0 h (by omega)
  dsimp only at h1 h2 h3 hw
  refine ⟨w, h3, ?_⟩
  refine con_eq Θ_ok Tryz.func31 rfl rfl true 0 4 rfl rfl rfl rfl fun K hK hb1 hb2 => ?_; simp only [argsV, enc, Nat.reduceAdd]
  clear hb1 hb2
  (repeat (any_goals (first | refine st ?_ | ((first | refine go2 fun xe hxe => ?_ | with_reducible refine cnd_d (fun hq => ?_) fun hq => ?_) <;> conv => whnf) | ((with_reducible refine cnd_i (fun hq => ?_) fun hq => ?_) <;> ((try simp only [hqs] at hq) <;> (first | omega | conv => whnf))) | refine cr (open_c _) ?_ | refine cr (hw) ?_)))
  exact ⟨rfl, rfl⟩
theorem lawInv_c (c : List Int) (hc : ∀ x ∈ c, 0 ≤ x ∧ x ≤ 255) : ConV Tryz.prog 14 [.lst (.int .u8) c] [] (.bool true) [] := by
  obtain ⟨w, hw, hd⟩ := dval_c c hc
  have hV1 := iwV_c w (fun g hg => by have := hw.2 g hg; omega)
  have hV2 := swV_c w (by have := hw.1; omega)
  have hI := ido_c w ⟨0, 0, 0, v0⟩ (fun g hg => by have := hw.2 g hg; omega)
  have hA := icalm_c w 1 (fun g hg => by have := hw.2 g hg; omega) (by omega)
  have hC := icer_c w hw
  refine con_eq Θ_ok Tryz.func14 rfl rfl false 0 4 rfl rfl rfl rfl fun K hK hb1 hb2 => ?_; simp only [argsV, enc, Nat.reduceAdd]
  clear hb1 hb2
  by_cases hl : 1048576 < (c.length : Int)
  · (repeat (any_goals (first | refine st ?_ | ((first | refine go2 fun xe hxe => ?_ | with_reducible refine cnd_d (fun hq => ?_) fun hq => ?_) <;> conv => whnf) | ((with_reducible refine cnd_i (fun hq => ?_) fun hq => ?_) <;> ((try simp only [hqs] at hq) <;> (first | omega | conv => whnf))))))
    (try any_goals (first | exact absurd trivial hq | exact absurd rfl hq | exact absurd hq (by omega) | (exfalso; simp at hq; done)))
    exact ⟨rfl, rfl⟩
  cases hs : wrlS w
  · have hce : cert w = [] := by simp [cert, hs]
    rw [hs, Bool.and_false] at hA
    simp only [hs, Bool.false_eq_true, if_false] at hV1 hV2 hI hA
    rw [hce] at hC
    have hI : ConV Tryz.prog 25 [wrlA w, .agg [.int .i64 0, .int .i64 0, .int .i64 0, .int .i64 0, .int .i64 0, .lst (.int .i64) [], .int .i64 0]] [] wrlZ [] := hI
    (repeat (any_goals (first | refine st ?_ | ((first | refine go2 fun xe hxe => ?_ | with_reducible refine cnd_d (fun hq => ?_) fun hq => ?_) <;> conv => whnf) | ((with_reducible refine cnd_i (fun hq => ?_) fun hq => ?_) <;> ((try simp only [hqs] at hq) <;> (first | omega | conv => whnf))) | refine cr (hd) ?_ | refine cr (hV1) ?_ | refine cr (hV2) ?_ | refine cr (hI) ?_ | refine cr (hA) ?_ | refine cr (hC) ?_ | refine cr (sWrl_z) ?_)))
    (try any_goals (first | exact absurd trivial hq | exact absurd rfl hq | exact absurd hq (by omega) | (exfalso; simp at hq; done)))
    exact ⟨rfl, rfl⟩
  · rw [hs] at hV1 hV2
    (repeat (any_goals (first | refine st ?_ | ((first | refine go2 fun xe hxe => ?_ | with_reducible refine cnd_d (fun hq => ?_) fun hq => ?_) <;> conv => whnf) | ((with_reducible refine cnd_i (fun hq => ?_) fun hq => ?_) <;> ((try simp only [hqs] at hq) <;> (first | omega | conv => whnf))) | refine cr (hd) ?_ | refine cr (hV1) ?_ | refine cr (hV2) ?_)))
    (try any_goals (first | exact absurd trivial hq | exact absurd rfl hq | exact absurd hq (by omega) | (exfalso; simp at hq; done)))
    exact ⟨rfl, rfl⟩
end Go.Proofs.YticiffgklmjfnaaGreat.Am
namespace Go.Proofs.YticiffgklmjfnaaGreat.rowInv
open Go Go.RowKit Go.ChangeShapes Go.WideShapes Go.ChangeAt Go.Proofs.YticiffgklmjfnaaGreat.Am
theorem own : ownKnob Tryz.prog.godebug = none := by kernel_rfl
theorem lay : laidOutB Tryz.prog = true := by kernel_rfl
theorem cells5 : Tryz.prog.cellsOf 5 = 1 := by kernel_rfl
set_option maxRecDepth 100000 in
theorem lifted (os : Os) (started : os.Started) (H : Type) (enc : TypeId × Value → H) :
    ReturnsInHanded {} Tryz.checked os 14 .any (Rows.fnWorldInvalidSpec.pre6 enc Tryz.prog Tryz.f14 Rows.fnWorldInvalidRow.domain false) (Rows.fnWorldInvalidSpec.post enc Tryz.prog Tryz.f14 false true false false) := by
  refine returnsInHanded_of_change (C := Tryz.checked) own started (by kernel_rfl) Tryz.func14
    (ChangeSpec.witness6 (enc := enc) (C := Tryz.checked) false ⟨#[], #[.slice none 0 0], []⟩ 8 (by kernel_rfl) (by kernel_rfl) (by kernel_rfl) (by kernel_rfl)) ?_
  intro W base args ds gs before hval hW _ _
  have hW' := hW
  obtain ⟨p, q, hA0, hV, rfl, hfz, hnd⟩ := hW
  have hA : DataW.TrodAll enc Tryz.prog W 0 (fun _ => true) true Tryz.f14.params.toList args.toList ds p := hA0
  rw [Tryz.params14] at hA hval
  obtain ⟨v0, vs0, d0, ds0, p0, q0, hargs, rfl, rfl, h0, r0⟩ := trodAll_cons hA
  obtain ⟨rfl, rfl, rfl⟩ := trodAll_nil r0
  obtain rfl : args = #[v0] := by cases args; simp_all
  obtain ⟨rfl, rfl⟩ := trodVars_none hV
  obtain ⟨c0, hc0, hr0⟩ := bytes_arg Tryz.underlying22 Tryz.underlying5 cells5 (hval 0 _ v0 rfl rfl) h0
  clear hA0
  simp only [List.append_nil] at hW'
  refine (law_calls (lawInv_c c0 hc0) rfl (fun i hi => ?_)).mono fun e W' ⟨he, hb⟩ => ?_
  · obtain rfl : i = 0 := by simp [toDL] at hi; omega
    exact hr0
  subst he
  have hlt : ∀ x ∈ p0, x.block < W.heap.size := fun x hx => hW'.lt x hx
  exact ⟨_, rfl, post_below (pa := p0) (pv := []) hW' (fun _ _ _ => trodAll_cons_mk (shut_bool Tryz.underlying4 _) trodAll_mk0)
    (fun sp hsp => trodAll_mk1 (WideElems.Trod_stays lay (by kernel_rfl) (of_decide_eq_true (by kernel_rfl)) h0 (fun x hx => hb.same (hlt x hx)) (fun x hx => hsp x hx)))
    (fun _ _ => rfl) (by simp) hb (ok_one (by kernel_rfl) rfl (okWide_bool_mk Tryz.underlying4 _))⟩
theorem jA : (Rows.fnWorldInvalidRow.inPlace == Tryz.pinned.checked.prog.inPlace 14) = true := by kernel_rfl
theorem jB : (Rows.fnWorldInvalidRow.unfollowed == Tryz.pinned.checked.prog.unfollowed 14) = true := by kernel_rfl
theorem jC : (Rows.fnWorldInvalidRow.recurses == Tryz.pinned.checked.prog.recurses 14) = true := by kernel_rfl
theorem jD : (Rows.fnWorldInvalidRow.named == Tryz.pinned.checked.prog.varsNamed 14) = true := by kernel_rfl
theorem jE : Tryz.pinned.checked.prog.mayEnter = true := by kernel_rfl
theorem jF : (Rows.fnWorldInvalidRow.lifted == Tryz.pinned.checked.prog.liftsFinal) = true := by kernel_rfl
theorem jG : (Tryz.pinned.checked.prog.make == some Rows.fnWorldInvalidRow.make) = true := by kernel_rfl
theorem closed : joinedFacts Tryz.pinned.checked.prog 14 Tryz.f14 Rows.fnWorldInvalidSpec Rows.fnWorldInvalidRow = true := by
  unfold joinedFacts
  rw [jA, jB, jC, jD, jE, jF, jG]
  exact of_decide_eq_true (by kernel_rfl)
theorem holds : Rows.FnWorldInvalidSaid :=
  OpenClaim.holds_of_wide 14 Tryz.f14 rfl rfl rfl rfl rfl rfl rfl ⟨rfl, rfl, rfl, rfl, rfl⟩ rfl rfl rfl rfl rfl (by kernel_rfl) Tryz.func14 closed
    (of_decide_eq_true (by kernel_rfl)) (by unfold Func.isWrapper; first | (rw [if_pos (by decide +kernel)]; kernel_rfl) | (rw [if_neg (by decide +kernel)]; exact ⟨rfl, rfl⟩))
    (fun os started H enc _ => lifted os started H enc)
#print axioms holds
end Go.Proofs.YticiffgklmjfnaaGreat.rowInv
