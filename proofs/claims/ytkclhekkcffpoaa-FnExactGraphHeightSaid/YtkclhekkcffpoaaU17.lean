/- The plain machine with types: one operation is sound. -/
import Derived.Test.YtkclhekkcffpoaaU16
namespace Go.Proofs.Ytkclhekkcffpoaa.Am
set_option linter.unusedSimpArgs false
set_option linter.unusedVariables false
open Go Go.RowKit

variable {P : Program} {N : Nat} {Θ : TT} {t : VT} {h : VH} {n : Nat}

set_option maxHeartbeats 1600000 in
theorem stepK_ok (hΘ : Θ.ok P) {o : Oper} (hn : ∀ c : Id, n ≤ c.1 → look (toH h) c = none) {K : V → VH → List Nat → Prop} (hk : stepK P Θ o.op t h n K) : Steps' P N o t h K := by
  obtain ⟨dst, op, ty, pos, after, guard⟩ := o
  simp only at hk
  unfold stepK at hk
  split at hk
  -- move, assign
  · obtain ⟨v, h1, h2⟩ := evO_ok hk
    exact st0 (m := false) (fun n => by simp only [aop, h1, Option.map_some]) upd_nil (seeG_n rfl _) h2
  · obtain ⟨v, h1, h2⟩ := evO_ok hk
    exact st0 (m := false) (fun n => by simp only [aop, h1, Option.map_some]) upd_nil (seeG_n rfl _) h2
  -- load
  · obtain ⟨v, h1, h2⟩ := evF_ok hk
    obtain ⟨ti, l1, h2⟩ := lookK_ok h2
    obtain ⟨r, h3, h4⟩ := loadK_ok (hΘ _ _ l1) h2
    exact st0 (m := false) (fun n => by simp only [aop, h1, Option.bind_some, h3, Option.map_some]) upd_nil (seeG_l rfl (by simp [Op.operands])) h4
  -- store
  · rename_i T x y
    obtain ⟨d, h1, h2⟩ := evF_ok hk
    obtain ⟨v, h3, h2⟩ := evF_ok h2
    obtain ⟨ti, l1, h2⟩ := lookK_ok h2
    obtain ⟨tg, h2⟩ := tgtK_ok h2
    split at h2
    · obtain ⟨u, vu, h5, h6, h7⟩ := storeRK_ok (hΘ _ _ l1) h2
      exact st0 (m := false) (fun n => by
        simp only [aop, h1, h3, Option.bind_some, Bool.not_false, nzM, if_true, h5, Option.map_some]; rfl) h6 (seeG_l rfl (by simp [Op.operands])) h7
    · obtain ⟨u1, v1, g1, p1, h2⟩ := fitKs_ok (P := P) (N := N) h2
      obtain ⟨d, h1, h2⟩ := evF_ok h2
      obtain ⟨v, h3, h2⟩ := evF_ok h2
      obtain ⟨u, vu, h5, h6, h7⟩ := storeTK_ok (hΘ _ _ l1) h2
      refine ⟨.undef, _, _, step_pre p1 (step_mono (step0 (m := true) (fun n => ?_) h6) (seeG_l rfl (by simp [Op.operands]))), h7⟩
      simp only [aop, h1, h3, Option.bind_some, Bool.not_true, nzM, Bool.false_eq_true, if_false, h5, Option.map_some]; rfl
  -- fieldAddr
  · rename_i T x f
    obtain ⟨v, h1, h2⟩ := evO_ok hk
    obtain ⟨ti, l1, h2⟩ := lookK_ok h2
    have hu := (hΘ _ _ l1).und
    split at h2
    · rename_i fs e
      rw [e] at hu
      obtain ⟨g, g1, h2⟩ := nthK_ok h2
      obtain ⟨c, h2⟩ := h2.ok
      simp only [decide_eq_true_eq] at c
      obtain ⟨r, h3, h4⟩ := faK_ok (P := P) (T := T) (i := f) ((hu.1 f g.1 g.2.1 g.2.2 g1).2 c) h2
      exact st0 (m := false) (fun n => by simp only [aop, h1, Option.bind_some, h3, Option.map_some]) upd_nil (seeG_n rfl _) h4
    · exact h2.elim
  -- indexAddr
  · obtain ⟨v, h1, h2⟩ := evF_ok hk
    obtain ⟨i, h3, h4⟩ := evO_ok h2
    obtain ⟨ti, l1, h4⟩ := lookK_ok h4
    split at h4
    · rename_i k j _
      obtain ⟨r, h5, h6⟩ := iaK_ok hΘ (hΘ _ _ l1) (k := k) h4
      exact st0 (m := false) (fun n => by
        have h3' : evalD (toT t) _ = some (.int k j) := h3
        simp only [aop, h1, h3', Option.bind_some, h5, Option.map_some]) upd_nil (seeG_l rfl (by simp [Op.operands])) h6
    · exact h4.elim
  -- binOp
  · obtain ⟨d, h1, h2⟩ := evF_ok hk
    obtain ⟨e, h3, h4⟩ := evF_ok h2
    obtain ⟨ti, l1, h4⟩ := lookK_ok h4
    obtain ⟨r, h5, h6⟩ := binK_ok (P := P) (hΘ _ _ l1).und h4
    refine st0 (m := false) (u := []) (fun n => ?_) upd_nil (seeG_l rfl (by simp [Op.operands])) h6
    simp only [aop, h1, h3, Option.bind_some]
    unfold aBinA at h5
    split at h5
    · rename_i r' hr
      rw [hr]
      simp only [Option.some.injEq] at h5
      rw [h5]
    · rename_i hr
      rw [hr]
      split at h5
      · rename_i r' hr'
        simp only [Option.some.injEq] at h5
        simp only [hr', h5]
      · rename_i hr'
        simp only [hr', h5, Option.map_some]
  -- unOp
  · obtain ⟨d, h1, h2⟩ := evO_ok hk
    obtain ⟨r, h5, h6⟩ := unK_ok h2
    exact st0 (m := false) (fun n => by simp only [aop, h1, Option.bind_some, h5, Option.map_some]) upd_nil (seeG_n rfl _) h6
  -- builtins
  · rename_i b args Ts
    split at hk
    · obtain ⟨vs, h1, h2⟩ := evFs_ok hk
      split at h2
      · rename_i d e T T' eT
        obtain ⟨c, h3⟩ := h2.ok
        obtain rfl := Nat.eq_of_beq_eq_true c
        obtain ⟨ti, l1, h3⟩ := lookK_ok h3
        split at h3
        · obtain ⟨r, u, vu, h5, h6, h7⟩ := appendK_ok hΘ (hΘ _ _ l1) hn h3
          refine stN (m := false) hn ?_ h6 (fun k hk => ?_) h7
          · simp only [aop, h1, Option.bind_some, eT, toDL, aBuiltin, if_true, h5]
          · rcases List.mem_cons.1 hk with rfl | hk
            · exact List.mem_cons_self ..
            · refine List.mem_cons_of_mem _ (seeG_l (l := args.toList) rfl (by simp [Op.operands, Call.operands]) k hk)
        · split at h3
          · obtain ⟨ei, l2, h3⟩ := lookK_ok h3
            obtain ⟨τ, h3⟩ := kindK_ok h3
            obtain ⟨u1, v1, g1, p1, h3⟩ := tameLK_ok (P := P) (N := N) h3
            obtain ⟨cl, h3⟩ := h3.ok
            obtain ⟨vs, h1, h3⟩ := evFs_ok h3
            split at h3
            · rename_i d e
              have p0 := (p1 g1 fun k hk => hk).1
              have hn' := fresh_upd hn p0 cl
              obtain ⟨r, u, vu, h5, h6, h7⟩ := appendK_ok hΘ (hΘ _ _ l1) hn' h3
              refine ⟨r, _, _, step_pre p1 (step_mono (stepN (m := false) hn' ?_ h6) (fun k hk => ?_)), h7⟩
              · simp only [aop, h1, Option.bind_some, eT, toDL, aBuiltin, if_true, h5]
              · rcases List.mem_cons.1 hk with rfl | hk
                · exact List.mem_cons_self ..
                · refine List.mem_cons_of_mem _ (seeG_l (l := args.toList) rfl (by simp [Op.operands, Call.operands]) k hk)
            · exact h3.elim
          · exact h3.elim
      · exact h2.elim
    · obtain ⟨vs, h1, h2⟩ := evFs_ok hk
      obtain ⟨r, u, vu, h5, h6, h7⟩ := builtin0K_ok (m := false) hΘ h2
      exact st0 (m := false) (fun n => by simp only [aop, h1, Option.bind_some, h5]) h6 (seeG_l rfl (by simp [Op.operands, Call.operands])) h7
  -- calls
  · rename_i f args Ts
    obtain ⟨vs, h1, h2⟩ := evFs_ok hk
    obtain ⟨os, fs, h2⟩ := h2
    obtain ⟨r, vu, gl, h3, h4⟩ := step_call (N := N) (o := ⟨dst, .call ⟨.value (.func f), args, Ts⟩, ty, pos, after, guard⟩) hn ⟨args, Ts, .inl ⟨rfl, h1⟩⟩ h2
    refine ⟨r, vu, _, step_mono h3 (fun k hk => ?_), h4⟩
    simpa [Op.operands, Call.operands] using hk
  · rename_i k args Ts
    obtain ⟨c, h1, h2⟩ := evF_ok hk
    split at h2
    · rename_i f cs
      obtain ⟨vs, h3, h2⟩ := evFs_ok h2
      obtain ⟨os, fs, h2⟩ := h2
      obtain ⟨r, vu, gl, h3, h4⟩ := step_call (N := N) (o := ⟨dst, .call ⟨.value (.tmp k), args, Ts⟩, ty, pos, after, guard⟩) hn ⟨args, Ts, .inr ⟨k, toDL cs, toDL vs, rfl, h1, h3, by simp [toDL_eq]⟩⟩ h2
      refine ⟨r, vu, _, step_mono h3 (fun k hk => ?_), h4⟩
      simpa [Op.operands, Call.operands] using hk
    · exact h2.elim
  -- pick
  · obtain ⟨b, h1, h2⟩ := evO_ok hk
    split at h2
    · obtain ⟨r, h3, h4⟩ := evO_ok h2
      have h1' : evalD (toT t) _ = some (.bool true) := h1
      exact st0 (m := false) (fun n => by simp only [aop, h1', h3, Option.map_some]) upd_nil (seeG_n rfl _) h4
    · obtain ⟨r, h3, h4⟩ := evO_ok h2
      have h1' : evalD (toT t) _ = some (.bool false) := h1
      exact st0 (m := false) (fun n => by simp only [aop, h1', h3, Option.map_some]) upd_nil (seeG_n rfl _) h4
    · rename_i b
      cases b with
      | true =>
        obtain ⟨r, h3, h4⟩ := evO_ok (h2.1 rfl)
        have h1' : evalD (toT t) _ = some (.bool true) := h1
        exact st0 (m := false) (fun n => by simp only [aop, h1', h3, Option.map_some]) upd_nil (seeG_n rfl _) h4
      | false =>
        obtain ⟨r, h3, h4⟩ := evO_ok (h2.2 rfl)
        have h1' : evalD (toT t) _ = some (.bool false) := h1
        exact st0 (m := false) (fun n => by simp only [aop, h1', h3, Option.map_some]) upd_nil (seeG_n rfl _) h4
    · exact h2.elim
  -- alloc
  · obtain ⟨ti, l1, h2⟩ := lookK_ok hk
    split at h2
    · rename_i z hz
      refine stN (m := false) (u := [((n, 0), .var _ (toDL z.cells))]) hn ?_ (upd_new hn rfl) (fun k hk => ?_) h2
      · simp only [aop, (hΘ _ _ l1).zero z hz, Option.map_some, toD_cells]; rfl
      · rcases List.mem_cons.1 hk with rfl | hk
        · exact List.mem_cons_self ..
        · exact seeG_n rfl _ k hk
    · exact h2.elim
  -- box
  · obtain ⟨v, h1, h2⟩ := evO_ok hk
    obtain ⟨c, h3⟩ := h2.ok
    refine stN (m := false) (u := [((n, 0), .var _ (toDL v.cells))]) hn ?_ (upd_new hn rfl) (fun k hk => ?_) h3
    · simp only [aop, h1, Option.bind_some, whole_toD, c, if_true, toD_cells]; rfl
    · rcases List.mem_cons.1 hk with rfl | hk
      · exact List.mem_cons_self ..
      · exact seeG_n rfl _ k hk
  -- build
  · rename_i T ps
    obtain ⟨vs, h1, h2⟩ := evPs_ok hk
    obtain ⟨ti, l1, h2⟩ := lookK_ok h2
    have hu := (hΘ _ _ l1).und
    have hz := (hΘ _ _ l1).zero
    split at h2
    · rename_i fs zs e ez
      rw [e] at hu
      obtain ⟨cs, h3, h4⟩ := fillK_ok h2
      have hz' := hz _ ez
      simp only [V.toD] at hz'
      exact st0 (m := false) (fun n => by simp only [aop, h1, Option.bind_some, aBuild, hu.2, hz', h3, Option.map_some]; rfl) upd_nil (seeG_n rfl _) h4
    · exact h2.elim
  -- buildSlice
  · rename_i T len ps
    obtain ⟨vs, h1, h2⟩ := evFPs_ok hk
    obtain ⟨ti, l1, h2⟩ := lookK_ok h2
    have hu := (hΘ _ _ l1).und
    split at h2
    · rename_i E e
      rw [e] at hu
      obtain ⟨ei, l2, h2⟩ := lookK_ok h2
      have hei := hΘ _ _ l2
      obtain ⟨c, h2⟩ := h2.ok
      simp only [Bool.and_eq_true, decide_eq_true_eq] at c
      obtain ⟨⟨⟨⟨c1, c2⟩, c3⟩, c4⟩, c5⟩ := c
      obtain ⟨r, u, vu, h5, h6, h7⟩ := buildSK_ok (show P.underlying T = some (.slice E) from hu) (hei.elem c1 c2) c3 c4 c5 hn h2
      refine stN (m := false) hn (by simp only [aop, h1, Option.bind_some, h5]) h6 (fun k hk => ?_) h7
      rcases List.mem_cons.1 hk with rfl | hk
      · exact List.mem_cons_self ..
      · exact List.mem_cons_of_mem _ (seeG_l rfl (by simp [Op.operands]) k hk)
    · exact h2.elim
  -- nilCheck
  · obtain ⟨v, h1, h2⟩ := evO_ok hk
    obtain ⟨r, h3, h4, h5⟩ := ptrK_ok h2
    exact st0 (m := false) (fun n => by simp only [aop, h1, Option.bind_some, h3, if_true, h4]) upd_nil (seeG_n rfl _) h5
  -- convert
  · obtain ⟨v, h1, h2⟩ := evF_ok hk
    obtain ⟨ti, l1, h2⟩ := lookK_ok h2
    obtain ⟨si, l2, h2⟩ := lookK_ok h2
    obtain ⟨r, h3, h4⟩ := convK_ok hΘ (hΘ _ _ l1) (hΘ _ _ l2) h2
    exact st0 (m := false) (fun n => by simp only [aop, h1, Option.bind_some, h3, Option.map_some]) upd_nil (seeG_l rfl (by simp [Op.operands])) h4
  -- makeInterface
  · obtain ⟨v, h1, h2⟩ := evO_ok hk
    obtain ⟨ti, l1, h2⟩ := lookK_ok h2
    obtain ⟨c, h2⟩ := h2.ok
    exact st0 (m := false) (fun n => by simp only [aop, h1, Option.bind_some, solid_ok (hΘ _ _ l1).und c, if_true]; rfl) upd_nil (seeG_n rfl _) h2
  -- makeFunc
  · rename_i f first captured
    obtain ⟨c, h2⟩ := hk.ok
    obtain ⟨vs, h1, h2⟩ := evOs_ok h2
    exact st0 (m := false) (fun n => by simp only [aop, Nat.eq_of_beq_eq_true c, if_true, h1, Option.map_some]; rfl) upd_nil (seeG_n rfl _) h2
  -- typeAssert
  · obtain ⟨v, h1, h2⟩ := evO_ok hk
    obtain ⟨ti, l1, h2⟩ := lookK_ok h2
    obtain ⟨r, h3, h4⟩ := assertK_ok (hΘ _ _ l1) h2
    exact st0 (m := false) (fun n => by simp only [aop, h1, Option.bind_some, h3, Option.map_some]) upd_nil (seeG_n rfl _) h4
  -- makeSlice
  · obtain ⟨a, h1, h2⟩ := evO_ok hk
    obtain ⟨b, h3, h4⟩ := evO_ok h2
    obtain ⟨ti, l1, h4⟩ := lookK_ok h4
    have hu := (hΘ _ _ l1).und
    split at h4
    · rename_i E k1 a k2 b e _
      rw [e] at hu
      obtain ⟨ei, l2, h4⟩ := lookK_ok h4
      have hei := hΘ _ _ l2
      split at h4
      · rename_i z τ hz hτ
        obtain ⟨c, h4⟩ := h4.ok
        simp only [Bool.and_eq_true, beq_iff_eq, decide_eq_true_eq] at c
        obtain ⟨⟨c1, c2⟩, c3⟩ := c
        obtain ⟨x, hx, h5⟩ := nzK_ok h4
        obtain ⟨h6, h7, h8⟩ := h5
        refine stN (m := false) (u := [((n, 0), .row E ((List.replicate a.toNat x).map (encD τ)))]) hn ?_ (upd_new hn rfl) (fun k hk => ?_) h8
        · have h1' : evalD (toT t) _ = some (.int k1 a) := h1
          have h3' : evalD (toT t) _ = some (.int k2 b) := h3
          simp only [aop, h1', h3', Option.bind_some, aMake, show P.underlying _ = some (.slice E) from hu, hei.elem (by rw [hz]; rfl) c1, hei.zero z hz]
          rw [if_pos]
          · simp only [nzM, Bool.false_eq_true, if_false, hx, List.map_replicate]; rfl
          · refine ⟨h6.1, h6.2, h7, ?_⟩
            simp only [wfB, Bool.and_eq_true, beq_iff_eq]
            refine ⟨?_, by rw [toD_cells]; exact all_pure0 _ c3⟩
            have h9 := congrArg (fun d : D => d.cells.length) hx
            simp only [nzE_cells, List.length_map, (encD_wf τ x).1] at h9
            omega
        · rcases List.mem_cons.1 hk with rfl | hk
          · exact List.mem_cons_self ..
          · exact seeG_n rfl _ k hk
      · exact h4.elim
    · exact h4.elim
  -- slice
  · rename_i T x lo hi
    obtain ⟨v, h1, h2⟩ := evF_ok hk
    obtain ⟨lo', h3, h4⟩ := evOpt_ok h2
    obtain ⟨hi', h5, h6⟩ := evOpt_ok h4
    obtain ⟨ti, l1, h6⟩ := lookK_ok h6
    obtain ⟨q, r, u, vu, h7, h8, h9⟩ := sliceK_ok hΘ (hΘ _ _ l1) hn h6
    cases q with
    | true =>
      exact stN (m := true) hn (by simp only [aop, h1, h3, h5, Option.bind_some, h7]) h8 (fun k hk => hk) h9
    | false =>
      exact st0 (m := false) (fun n' => by
        simp only [aop, h1, h3, h5, Option.bind_some]
        rw [aSlice_n rfl (m' := (n, 0))]
        exact h7) h8 (fun k hk => hk) h9
  -- field
  · rename_i T x f
    obtain ⟨v, h1, h2⟩ := evO_ok hk
    obtain ⟨ti, l1, h2⟩ := lookK_ok h2
    have hu := (hΘ _ _ l1).und
    split at h2
    · rename_i fs cs e _
      rw [e] at hu
      obtain ⟨g, g1, h2⟩ := nthK_ok h2
      obtain ⟨gi, l2, h2⟩ := lookK_ok h2
      obtain ⟨r, h3, h4⟩ := takeK_ok (hΘ _ _ l2) h2
      exact st0 (m := false) (fun n => by
        have h1' : evalD (toT t) _ = some (.agg (toDL cs)) := h1
        simp only [aop, h1', Option.bind_some, aPart, (hu.1 f g.1 g.2.1 g.2.2 g1).1, h3, Option.map_some]) upd_nil (seeG_n rfl _) h4
    · exact h2.elim
  -- index
  · obtain ⟨v, h1, h2⟩ := evO_ok hk
    obtain ⟨i, h3, h4⟩ := evO_ok h2
    obtain ⟨ti, l1, h4⟩ := lookK_ok h4
    have hu := (hΘ _ _ l1).und
    split at h4
    · rename_i s k i e _
      rw [e] at hu
      refine st0 (m := false) (u := []) (fun n => ?_) upd_nil (seeG_n rfl _) h4.2
      have h1' : evalD (toT t) _ = some (.str s) := h1
      have h3' : evalD (toT t) _ = some (.int k i) := h3
      simp only [aop, h1', h3', Option.bind_some, aIndex, show P.underlying _ = some .string from hu]
      rw [if_pos h4.1]
      rfl
    · exact h4.elim
  -- extract
  · obtain ⟨v, h1, h2⟩ := evO_ok hk
    split at h2
    · rename_i cs
      obtain ⟨r, h3, h4⟩ := nthK_ok h2
      exact st0 (m := false) (fun n => by
        have h1' : evalD (toT t) _ = some (.tup (toDL cs)) := h1
        simp only [aop, h1', Option.bind_some, aExtract, toDL_eq, List.getElem?_map, h3, Option.map_some]) upd_nil (seeG_n rfl _) h4
    · exact h2.elim
  · exact hk.elim
end Go.Proofs.Ytkclhekkcffpoaa.Am
