/- Runs: quorums meet; what is held of valid runs. The laws of runs: single events. Runs: what single events leave (plain laws). The laws of runs: what is proposed, voted for, certified. The laws of runs: single events, repeated, unknown, and what they keep. The laws of runs: nobody proposes in the name of a correct member. FnWorldForge's law holds: it returns true for all bytes, and leaves its argument as it was. -/
import Derived.Test.YticiffgklmjfnaaGreatRows
import Derived.Test.YticiffgklmjfnaaGreatPX10
namespace Go.Proofs.YticiffgklmjfnaaGreat.Am
set_option linter.unusedSimpArgs false
set_option linter.unusedVariables false
open Go
end Go.Proofs.YticiffgklmjfnaaGreat.Am
namespace Go.Proofs.YticiffgklmjfnaaGreat.Am
set_option linter.unusedSimpArgs false
set_option linter.unusedVariables false
open Go
attribute [local irreducible] Mk Need Ari Get Idx Cnd CallM CallA Opt Unch At ConV
set_option maxRecDepth 10000
theorem frg_facts {w : Wrl} {e : Evt} (h4 : e.kind = 4) : (frgB w e.v = false ∧ (sDo w e).props.length = w.props.length) ∨ (frgB w e.v = true ∧ (sDo w e).props[w.props.length]? = some ⟨e.v, []⟩ ∧ (sDo w e).props.length = w.props.length + 1 ∧ e.v.author = w.bad ∧ vtxS w.com e.v = true) := by
  have hd : sDo w e = sFrg w e.v := by unfold sDo; rw [if_neg (by omega), if_neg (by omega), if_neg (by omega), if_pos h4]
  rw [hd]
  cases h : frgB w e.v
  · exact .inl ⟨rfl, by unfold sFrg; rw [h]; rfl⟩
  · refine .inr ⟨rfl, ?_⟩
    have : sFrg w e.v = addP w e.v := by unfold sFrg; rw [h]; rfl
    rw [this]
    unfold frgB at h
    simp only [Bool.and_eq_true, beq_iff_eq] at h
    exact ⟨by simp [addP], by simp [addP], h.2.1, h.2.2.1⟩
end Go.Proofs.YticiffgklmjfnaaGreat.Am
namespace Go.Proofs.YticiffgklmjfnaaGreat.Am
set_option linter.unusedSimpArgs false
set_option linter.unusedVariables false
open Go
end Go.Proofs.YticiffgklmjfnaaGreat.Am
namespace Go.Proofs.YticiffgklmjfnaaGreat.Am
set_option linter.unusedSimpArgs false
set_option linter.unusedVariables false
open Go
attribute [local irreducible] Mk Need Ari Get Idx Cnd CallM CallA Opt Unch At ConV
set_option maxRecDepth 10000
end Go.Proofs.YticiffgklmjfnaaGreat.Am
namespace Go.Proofs.YticiffgklmjfnaaGreat.Am
set_option linter.unusedSimpArgs false
set_option linter.unusedVariables false
open Go
attribute [local irreducible] Mk Need Ari Get Idx Cnd CallM CallA Opt Unch At ConV
set_option maxRecDepth 10000
theorem ddp_c (c : List Int) (hc : ∀ x ∈ c, 0 ≤ x ∧ x ≤ 255) : ∃ (w : Wrl) (kd a b rd au dg : Int) (ps : List Int) (pz : V), WSm w ∧ ps.length ≤ 30 ∧ (pz = .lst (.int .i64) ps ∨ (pz = .nils ∧ ps = [])) ∧ ConV Tryz.prog 24 [.lst (.int .u8) c] [] (.tup [wrlA w, .agg [.int .i64 kd, .int .i64 a, .int .i64 b, .int .i64 rd, .int .i64 au, pz, .int .i64 dg]]) [] := by
  obtain ⟨⟨w, z, ⟨kd, a, b, ⟨rd, au, ps, dg⟩⟩⟩, ⟨hw, he1, he2⟩, hd⟩ := ddo_c c hc
  dsimp only at hw he1 he2 hd
  cases z with
  | false => exact ⟨w, kd, a, b, rd, au, dg, ps, _, hw, he1, .inl rfl, hd⟩
  | true => exact ⟨w, kd, a, b, rd, au, dg, ps, _, hw, he1, .inr ⟨rfl, he2 rfl⟩, hd⟩
theorem idp_c {w : Wrl} (hw : WSm w) (kd a b rd au dg : Int) (ps : List Int) : ConV Tryz.prog 25 [wrlA w, .agg [.int .i64 kd, .int .i64 a, .int .i64 b, .int .i64 rd, .int .i64 au, .lst (.int .i64) ps, .int .i64 dg]] [] (if wrlS w then wrlA (sDo w ⟨kd, a, b, ⟨rd, au, ps, dg⟩⟩) else wrlZ) [] :=
  ido_c w ⟨kd, a, b, ⟨rd, au, ps, dg⟩⟩ (fun g hg => by have := hw.2 g hg; omega)
theorem sdp_c {w : Wrl} (hw : WSm w) (kd a b rd au dg : Int) {ps : List Int} (hl : ps.length ≤ 30) : ConV Tryz.prog 26 [wrlA w, .agg [.int .i64 kd, .int .i64 a, .int .i64 b, .int .i64 rd, .int .i64 au, .lst (.int .i64) ps, .int .i64 dg]] [] (if wrlS w then wrlA (sDo w ⟨kd, a, b, ⟨rd, au, ps, dg⟩⟩) else wrlZ) [] :=
  swdo_c w ⟨kd, a, b, ⟨rd, au, ps, dg⟩⟩ (by have := hw.1; omega) (by dsimp only; omega)
end Go.Proofs.YticiffgklmjfnaaGreat.Am
namespace Go.Proofs.YticiffgklmjfnaaGreat.Am
set_option linter.unusedSimpArgs false
set_option linter.unusedVariables false
open Go
attribute [local irreducible] Mk Need Ari Get Idx Cnd CallM CallA Opt Unch At ConV
set_option maxRecDepth 10000
theorem lawFrg_c (c : List Int) (hc : ∀ x ∈ c, 0 ≤ x ∧ x ≤ 255) : ConV Tryz.prog 7 [.lst (.int .u8) c] [] (.bool true) [] := by
  obtain ⟨w, kd, a, b, rd, au, dg, ps, pz, hw, hpl, hpz, hd⟩ := ddp_c c hc
  have hI := idp_c hw kd a b rd au dg ps
  have hS := sdp_c hw kd a b rd au dg hpl
  have hV := swV_c w (by have := hw.1; omega)
  refine con_eq Θ_ok Tryz.func7 rfl rfl false 0 4 rfl rfl rfl rfl fun K hK hb1 hb2 => ?_; simp only [argsV, enc, Nat.reduceAdd]
  clear hb1 hb2
  by_cases hl : 1048576 < (c.length : Int)
  · (repeat (any_goals (first | refine st ?_ | ((first | refine go2 fun xe hxe => ?_ | with_reducible refine cnd_d (fun hq => ?_) fun hq => ?_) <;> conv => whnf) | ((with_reducible refine cnd_i (fun hq => ?_) fun hq => ?_) <;> ((try simp only [hqs] at hq) <;> (first | omega | conv => whnf))))))
    exact ⟨rfl, rfl⟩
  cases hs : wrlS w
  · simp only [hs, Bool.false_eq_true, if_false] at hI hS
    rw [hs] at hV
    rcases hpz with rfl | ⟨rfl, rfl⟩ <;> ((repeat (any_goals (first | refine st ?_ | ((first | refine go2 fun xe hxe => ?_ | with_reducible refine cnd_d (fun hq => ?_) fun hq => ?_) <;> conv => whnf) | ((with_reducible refine cnd_i (fun hq => ?_) fun hq => ?_) <;> ((try simp only [hqs] at hq) <;> (first | omega | conv => whnf))) | refine cr (hd) ?_ | refine cr (hI) ?_ | refine cr (hS) ?_ | refine cr (hV) ?_ | refine cr (sWrl_z) ?_))); exact ⟨rfl, rfl⟩)
  · simp only [hs, if_true] at hI hS
    rw [hs] at hV
    have hok := wok_iff.1 hs
    have hE := sWrl_e (sDo w ⟨kd, a, b, ⟨rd, au, ps, dg⟩⟩)
    have hpn := hok.plen
    by_cases h4 : kd = 4
    · rcases frg_facts (w := w) (e := ⟨kd, a, b, ⟨rd, au, ps, dg⟩⟩) h4 with ⟨f1, f2⟩ | ⟨f1, f2, f3, f4, f5⟩
      · generalize sDo w _ = u at *
        rcases hpz with rfl | ⟨rfl, rfl⟩ <;> ((repeat (any_goals (first | refine st ?_ | ((first | refine go2 fun xe hxe => ?_ | with_reducible refine cnd_d (fun hq => ?_) fun hq => ?_) <;> conv => whnf) | ((with_reducible refine cnd_i (fun hq => ?_) fun hq => ?_) <;> ((try simp only [hqs] at hq) <;> (first | omega | conv => whnf))) | refine cr (hd) ?_ | refine cr (hI) ?_ | refine cr (hS) ?_ | refine cr (hV) ?_ | refine cr (hE) ?_))); (try any_goals (first | exact absurd trivial hq | exact absurd rfl hq | exact absurd hq (by omega) | (exfalso; simp at hq; done))); exact ⟨rfl, rfl⟩)
      · obtain ⟨q, hq2, hqv⟩ : ∃ q, (sDo w ⟨kd, a, b, ⟨rd, au, ps, dg⟩⟩).props[w.props.length]? = some q ∧ q.v = ⟨rd, au, ps, dg⟩ := ⟨_, f2, rfl⟩
        have hX0 := ivtx_c w.com ⟨rd, au, ps, dg⟩
        have hQ0 := sVtx_e ⟨rd, au, ps, dg⟩
        dsimp only at f4 f5 hX0 hQ0
        rw [hok.com, f5, show (true && true) = true from rfl] at hX0
        have hX : ConV Tryz.prog 28 [.lst (.int .i64) w.com, vtxA q.v] [] (.bool true) [] := by rw [hqv]; exact hX0
        have hQ : ConV Tryz.prog 20 [vtxA q.v, .agg [.int .i64 rd, .int .i64 au, .lst (.int .i64) ps, .int .i64 dg]] [] (.bool true) [] := by rw [hqv]; exact hQ0
        have hqa : q.v.author = w.bad := by rw [hqv]; exact f4
        clear f2 hqv hX0 hQ0
        generalize sDo w _ = u at *
        rcases hpz with rfl | ⟨rfl, rfl⟩ <;> ((repeat (any_goals (first | refine st ?_ | ((first | refine go2 fun xe hxe => ?_ | with_reducible refine cnd_d (fun hq => ?_) fun hq => ?_) <;> conv => whnf) | ((with_reducible refine cnd_i (fun hq => ?_) fun hq => ?_) <;> ((try simp only [hqs] at hq) <;> (first | omega | conv => whnf))) | refine cr (hd) ?_ | refine cr (hI) ?_ | refine cr (hS) ?_ | refine cr (hV) ?_ | refine cr (hE) ?_ | refine cr (hX) ?_ | refine cr (hQ) ?_))); (try any_goals (first | exact absurd trivial hq | exact absurd rfl hq | exact absurd hq (by omega) | (exfalso; simp at hq; done))); exact ⟨rfl, rfl⟩)
    · generalize sDo w _ = u at *
      rcases hpz with rfl | ⟨rfl, rfl⟩ <;> ((repeat (any_goals (first | refine st ?_ | ((first | refine go2 fun xe hxe => ?_ | with_reducible refine cnd_d (fun hq => ?_) fun hq => ?_) <;> conv => whnf) | ((with_reducible refine cnd_i (fun hq => ?_) fun hq => ?_) <;> ((try simp only [hqs] at hq) <;> (first | omega | conv => whnf))) | refine cr (hd) ?_ | refine cr (hI) ?_ | refine cr (hS) ?_ | refine cr (hV) ?_ | refine cr (hE) ?_))); (try any_goals (first | exact absurd trivial hq | exact absurd rfl hq | exact absurd hq (by omega) | (exfalso; simp at hq; done))); exact ⟨rfl, rfl⟩)
end Go.Proofs.YticiffgklmjfnaaGreat.Am
namespace Go.Proofs.YticiffgklmjfnaaGreat.rowFrg
set_option linter.unusedSimpArgs false
set_option linter.unusedVariables false
open Go Go.RowKit Go.ChangeShapes Go.WideShapes Go.ChangeAt Go.Proofs.YticiffgklmjfnaaGreat.Am
theorem own : ownKnob Tryz.prog.godebug = none := by kernel_rfl
theorem lay : laidOutB Tryz.prog = true := by kernel_rfl
theorem cells5 : Tryz.prog.cellsOf 5 = 1 := by kernel_rfl
set_option maxRecDepth 100000 in
theorem lifted (os : Os) (started : os.Started) (H : Type) (enc : TypeId × Value → H) :
    ReturnsInHanded {} Tryz.checked os 7 .any (Rows.fnWorldForgeSpec.pre6 enc Tryz.prog Tryz.f7 Rows.fnWorldForgeRow.domain false) (Rows.fnWorldForgeSpec.post enc Tryz.prog Tryz.f7 false true false false) := by
  refine returnsInHanded_of_change (C := Tryz.checked) own started (by kernel_rfl) Tryz.func7
    (ChangeSpec.witness6 (enc := enc) (C := Tryz.checked) false ⟨#[], #[.slice none 0 0], []⟩ 8 (by kernel_rfl) (by kernel_rfl) (by kernel_rfl) (by kernel_rfl)) ?_
  intro W base args ds gs before hval hW _ _
  have hW' := hW
  obtain ⟨p, q, hA0, hV, rfl, hfz, hnd⟩ := hW
  have hA : DataW.TrodAll enc Tryz.prog W 0 (fun _ => true) true Tryz.f7.params.toList args.toList ds p := hA0
  rw [Tryz.params7] at hA hval
  obtain ⟨v0, vs0, d0, ds0, p0, q0, hargs, rfl, rfl, h0, r0⟩ := trodAll_cons hA
  obtain ⟨rfl, rfl, rfl⟩ := trodAll_nil r0
  obtain rfl : args = #[v0] := by cases args; simp_all
  obtain ⟨rfl, rfl⟩ := trodVars_none hV
  obtain ⟨c0, hc0, hr0⟩ := bytes_arg Tryz.underlying22 Tryz.underlying5 cells5 (hval 0 _ v0 rfl rfl) h0
  clear hA0
  simp only [List.append_nil] at hW'
  refine (law_calls (lawFrg_c c0 hc0) rfl (fun i hi => ?_)).mono fun e W' ⟨he, hb⟩ => ?_
  · obtain rfl : i = 0 := by simp [toDL] at hi; omega
    exact hr0
  subst he
  have hlt : ∀ x ∈ p0, x.block < W.heap.size := fun x hx => hW'.lt x hx
  exact ⟨_, rfl, post_below (pa := p0) (pv := []) hW' (fun _ _ _ => trodAll_cons_mk (shut_bool Tryz.underlying4 _) trodAll_mk0)
    (fun sp hsp => trodAll_mk1 (WideElems.Trod_stays lay (by kernel_rfl) (of_decide_eq_true (by kernel_rfl)) h0 (fun x hx => hb.same (hlt x hx)) (fun x hx => hsp x hx)))
    (fun _ _ => rfl) (by simp) hb (ok_one (by kernel_rfl) rfl (okWide_bool_mk Tryz.underlying4 _))⟩
theorem jA : (Rows.fnWorldForgeRow.inPlace == Tryz.pinned.checked.prog.inPlace 7) = true := by kernel_rfl
theorem jB : (Rows.fnWorldForgeRow.unfollowed == Tryz.pinned.checked.prog.unfollowed 7) = true := by kernel_rfl
theorem jC : (Rows.fnWorldForgeRow.recurses == Tryz.pinned.checked.prog.recurses 7) = true := by kernel_rfl
theorem jD : (Rows.fnWorldForgeRow.named == Tryz.pinned.checked.prog.varsNamed 7) = true := by kernel_rfl
theorem jE : Tryz.pinned.checked.prog.mayEnter = true := by kernel_rfl
theorem jF : (Rows.fnWorldForgeRow.lifted == Tryz.pinned.checked.prog.liftsFinal) = true := by kernel_rfl
theorem jG : (Tryz.pinned.checked.prog.make == some Rows.fnWorldForgeRow.make) = true := by kernel_rfl
theorem closed : joinedFacts Tryz.pinned.checked.prog 7 Tryz.f7 Rows.fnWorldForgeSpec Rows.fnWorldForgeRow = true := by
  unfold joinedFacts
  rw [jA, jB, jC, jD, jE, jF, jG]
  exact of_decide_eq_true (by kernel_rfl)
theorem holds : Rows.FnWorldForgeSaid :=
  OpenClaim.holds_of_wide 7 Tryz.f7 rfl rfl rfl rfl rfl rfl rfl ⟨rfl, rfl, rfl, rfl, rfl⟩ rfl rfl rfl rfl rfl (by kernel_rfl) Tryz.func7 closed
    (of_decide_eq_true (by kernel_rfl)) (by unfold Func.isWrapper; first | (rw [if_pos (by decide +kernel)]; kernel_rfl) | (rw [if_neg (by decide +kernel)]; exact ⟨rfl, rfl⟩))
    (fun os started H enc _ => lifted os started H enc)
#print axioms holds
end Go.Proofs.YticiffgklmjfnaaGreat.rowFrg
