/- What is drawn for runs: whole runs, runs that are often invalid. Certified proposals: the law FnWorldCertified. Runs: the reference's WorldDo and WorldPlay; what is drawn for them. Runs: quorums meet; what is held of valid runs. -/
import Derived.Test.YtapkflbaenbgiaaGreatPP9
namespace Go.Proofs.YtapkflbaenbgiaaGreat.Am
set_option linter.unusedSimpArgs false
set_option linter.unusedVariables false
open Go
attribute [local irreducible] Mk Need Ari Get Idx Cnd CallM CallA Opt Unch At ConV
set_option maxRecDepth 10000
theorem scpo_c (w : Wrl) (h : WOK w) : ConV Tryz.prog 32 [wrlA w] [] (.agg [.ref 4, .ref 5, .int .i64 w.bad, .ref 6, .ref 7]) [(4, .row 3 (.int .i64) w.com), (5, .row 3 (.int .i64) w.lead), (6, .row 40 (.lst .vtx) w.views), (7, .row 37 .ppl w.props)] := by
  have h7 := h.len
  have hvl := h.vlen
  have hpl := h.plen
  have hll := (leaS_iff.1 h.lead).2
  refine con_eq Θ_ok Tryz.func32 rfl rfl false 0 4 rfl rfl rfl rfl fun K hK hb1 hb2 => ?_; simp only [argsV, enc, Nat.reduceAdd]
  clear hb1 hb2
  (repeat (any_goals (first | refine st ?_ | ((first | refine go2 fun xe hxe => ?_ | with_reducible refine cnd_d (fun hq => ?_) fun hq => ?_) <;> conv => whnf) | ((with_reducible refine cnd_i (fun hq => ?_) fun hq => ?_) <;> ((try simp only [hqs] at hq) <;> (first | omega | conv => whnf))))))
  refine at_loop hK [] [1, 2, 3, 4] (fun i : Nat => ⟨[(1, .ptr 4 0), (2, .ptr 5 0), (3, .ptr 6 0), (4, .int .i64 (i : Int))], [(4, .var 27 (wrlA w).cells), (5, .var 27 wZv), (6, .var 27 [.ref 7, .ref 8, .int .i64 w.bad, .ref 9, .ref 10]), (7, .row 3 (.int .i64) w.com), (8, .row 3 (.int .i64) w.lead), (9, .row 40 (.lst .vtx) (w.views.take i)), (10, .row 37 .ppl [])], 11⟩) (fun i => i ≤ w.views.length) (fun i => w.views.length - i) 0 (by omega) rfl ?_
  intro i hi
  by_cases hlt : i < w.views.length
  · have hxe : w.views[i]? = some w.views[i] := List.getElem?_eq_getElem hlt
    have hsn : w.views.take (i + 1) = w.views.take i ++ [w.views[i]] := List.take_succ_eq_append_getElem hlt
    have hgm := List.getElem_mem hlt
    have hC := scopy_c w.views[i] (by have := h.vl _ hgm; omega) fun v hv => by have := h.par (h.vv _ hgm v hv); omega
    have hl1 : (w.views.take i).length = i := by rw [List.length_take]; omega
    generalize w.views[i] = g at *
    generalize w.views.take i = l at *
    (repeat (any_goals (first | refine st ?_ | ((first | refine go2 fun xe hxe => ?_ | with_reducible refine cnd_d (fun hq => ?_) fun hq => ?_) <;> conv => whnf) | ((with_reducible refine cnd_i (fun hq => ?_) fun hq => ?_) <;> ((try simp only [hqs] at hq) <;> (first | omega | conv => whnf))) | refine cr (hC) ?_)))
    exact ⟨i + 1, by omega, by omega, by rw [hsn]; rfl⟩
  rw [List.take_of_length_le (by omega)]
  (repeat (any_goals (first | refine st ?_ | ((first | refine go2 fun xe hxe => ?_ | with_reducible refine cnd_d (fun hq => ?_) fun hq => ?_) <;> conv => whnf) | ((with_reducible refine cnd_i (fun hq => ?_) fun hq => ?_) <;> ((try simp only [hqs] at hq) <;> (first | omega | conv => whnf))))))
  refine at_loop hK [] [1, 2, 3, 5] (fun i : Nat => ⟨[(1, .ptr 4 0), (2, .ptr 5 0), (3, .ptr 6 0), (5, .int .i64 (i : Int))], [(4, .var 27 (wrlA w).cells), (5, .var 27 wZv), (6, .var 27 [.ref 7, .ref 8, .int .i64 w.bad, .ref 9, .ref 10]), (7, .row 3 (.int .i64) w.com), (8, .row 3 (.int .i64) w.lead), (9, .row 40 (.lst .vtx) w.views), (10, .row 37 .ppl (w.props.take i))], 11⟩) (fun i => i ≤ w.props.length) (fun i => w.props.length - i) 0 (by omega) rfl ?_
  intro k hk
  by_cases hkl : k < w.props.length
  · have hxe : w.props[k]? = some w.props[k] := List.getElem?_eq_getElem hkl
    have hsn : w.props.take (k + 1) = w.props.take k ++ [w.props[k]] := List.take_succ_eq_append_getElem hkl
    have hpm := List.getElem_mem hkl
    have hC := sone_c w.props[k].v (by have := h.par (h.pv _ hpm).1; omega)
    have hm := h.mem _ hpm
    have hl1 : (w.props.take k).length = k := by rw [List.length_take]; omega
    generalize w.props[k] = p at *
    generalize w.props.take k = l at *
    (repeat (any_goals (first | refine st ?_ | ((first | refine go2 fun xe hxe => ?_ | with_reducible refine cnd_d (fun hq => ?_) fun hq => ?_) <;> conv => whnf) | ((with_reducible refine cnd_i (fun hq => ?_) fun hq => ?_) <;> ((try simp only [hqs] at hq) <;> (first | omega | conv => whnf))) | refine cr (hC) ?_)))
    exact ⟨k + 1, by omega, by omega, by rw [hsn]; rfl⟩
  · (repeat (any_goals (first | refine st ?_ | ((first | refine go2 fun xe hxe => ?_ | with_reducible refine cnd_d (fun hq => ?_) fun hq => ?_) <;> conv => whnf) | ((with_reducible refine cnd_i (fun hq => ?_) fun hq => ?_) <;> ((try simp only [hqs] at hq) <;> (first | omega | conv => whnf))))))
    rw [List.take_of_length_le (by omega)]
    exact ⟨rfl, rfl⟩
theorem evtZ_do (w : Wrl) (z : Bool) (e : Evt) (h : WOK w) (hvl : e.v.parents.length ≤ 30) (hz : z = true → e.v.parents = []) : ConV Tryz.prog 28 [wrlA w, .agg [.int .i64 e.kind, .int .i64 e.a, .int .i64 e.b, .int .i64 e.v.round, .int .i64 e.v.author, .lst (.int .i64) e.v.parents, .int .i64 e.v.digest]] [] (wrlA (sDo w e)) [] :=
  sdo_c w e h (by omega)
set_option maxHeartbeats 1000000 in
theorem dwld_c (b : List Int) (p : Int) (h : rdOK b 0) (hp : 0 ≤ p ∧ p ≤ 500000) : ∃ x : Wrl × Int, (p ≤ x.2 ∧ x.2 ≤ p + 6000 ∧ WOK x.1) ∧ ConV Tryz.prog 42 [.ptr 4 0] [(4, rdB b p)] (wrlA x.1) [(4, rdB b x.2)] := by
  obtain ⟨⟨w0, q⟩, ⟨h1, h2, h3⟩, hB⟩ := dbeg_c b p h (by omega)
  dsimp only at h1 h2 h3 hB
  obtain ⟨m, hm, hmc⟩ := pk_c b q 3 h (by omega) (by omega)
  obtain ⟨r, hr, hrc⟩ := pk_c b (q + 1) 5 h (by omega) (by omega)
  obtain ⟨r, rfl⟩ : ∃ k : Nat, (k : Int) = r := ⟨r.toNat, by omega⟩
  have hC := scalm_c w0 r h3 (by omega)
  have hco := calmTo_ok h3 r
  suffices hs : ∃ r hout, (∃ x : Wrl × Int, (p ≤ x.2 ∧ x.2 ≤ p + 6000 ∧ WOK x.1) ∧ r = wrlA x.1 ∧ hout = [(4, rdB b x.2)]) ∧ ConV Tryz.prog 42 [.ptr 4 0] [(4, rdB b p)] r hout by
    obtain ⟨r, hout, ⟨v, hv, rfl, rfl⟩, h⟩ := hs
    exact ⟨v, hv, h⟩
  refine con_ex Θ_ok Tryz.func42 rfl rfl true 1 5 rfl rfl rfl rfl (R := fun r hout => ∃ x : Wrl × Int, (p ≤ x.2 ∧ x.2 ≤ p + 6000 ∧ WOK x.1) ∧ r = wrlA x.1 ∧ hout = [(4, rdB b x.2)]) (r0 := wrlA w0) (hout0 := [(4, rdB b p)]) (⟨(w0, p), ⟨by dsimp only; omega, by dsimp only; omega, h3⟩, rfl, rfl⟩) fun K hK hb1 hb2 => ?_; simp only [argsV, enc, Nat.reduceAdd]
  clear hb1 hb2
  generalize calmTo w0 r = w1 at *
  have body : ∀ (K : Id → Prop) (c : Code) (i : Nat) (w : Wrl) (q2 : Int), True := fun _ _ _ _ _ => trivial
  by_cases hm0 : 0 < m
  · (repeat (any_goals (first | refine st ?_ | ((first | refine go2 fun xe hxe => ?_ | with_reducible refine cnd_d (fun hq => ?_) fun hq => ?_) <;> conv => whnf) | ((with_reducible refine cnd_i (fun hq => ?_) fun hq => ?_) <;> ((try simp only [hqs] at hq) <;> (first | omega | conv => whnf))) | refine cr (hmc) ?_ | refine cr (hrc) ?_ | refine cr (hC) ?_ | refine co (hB) ?_)))
    refine at_loop hK [] [0, 2, 3, 4] (fun x : Nat × Wrl × Int => ⟨[(0, .ptr 4 0), (2, .ptr 5 0), (3, .ptr 6 0), (4, .int .i64 x.1)], [(4, rdB b x.2.2), (5, .var 27 wZv), (6, .var 27 (wrlA x.2.1).cells)], 7⟩)
      (fun x => x.1 ≤ 69 ∧ WOK x.2.1 ∧ p ≤ x.2.2 ∧ x.2.2 ≤ p + 100 + 61 * x.1) (fun x => 70 - x.1) (0, w1, q + 1 + 1) ⟨by dsimp only; omega, hco, by dsimp only; omega, by dsimp only; omega⟩ rfl ?_
    rintro ⟨i, w, q2⟩ ⟨hi1, hi2, hi3, hi4⟩
    dsimp only at hi1 hi2 hi3 hi4 ⊢
    obtain ⟨n, hn, hnc⟩ := pk_c b q2 70 h (by omega) (by omega)
    obtain ⟨⟨⟨z, e⟩, q3⟩, ⟨e1, e2, e3, e4⟩, hE⟩ := devt_c b (q2 + 1) w h (by omega) hi2
    dsimp only at e1 e2 e3 e4 hE
    have hD := evtZ_do w z e hi2 e3 e4
    have hdo := sDo_ok hi2 e
    by_cases hlt : (i : Int) < n
    · cases z with
      | false =>
        have hE : ConV Tryz.prog 27 [.ptr 4 0, wrlA w] [(4, rdB b (q2 + 1))] (evtA e) [(4, rdB b q3)] := hE
        generalize sDo w e = w2 at *
        (repeat (any_goals (first | refine st ?_ | ((first | refine go2 fun xe hxe => ?_ | with_reducible refine cnd_d (fun hq => ?_) fun hq => ?_) <;> conv => whnf) | ((with_reducible refine cnd_i (fun hq => ?_) fun hq => ?_) <;> ((try simp only [hqs] at hq) <;> (first | omega | conv => whnf))) | refine cr (hnc) ?_ | refine cr (hD) ?_ | refine co (hE) ?_)))
        exact ⟨(i + 1, w2, q3), ⟨by dsimp only; omega, hdo, by dsimp only; omega, by dsimp only; omega⟩, by dsimp only; omega, rfl⟩
      | true =>
        have hE : ConV Tryz.prog 27 [.ptr 4 0, wrlA w] [(4, rdB b (q2 + 1))] (.agg [.int .i64 e.kind, .int .i64 e.a, .int .i64 e.b, .int .i64 e.v.round, .int .i64 e.v.author, .nils, .int .i64 e.v.digest]) [(4, rdB b q3)] := hE
        rw [e4 rfl] at hD
        generalize sDo w e = w2 at *
        (repeat (any_goals (first | refine st ?_ | ((first | refine go2 fun xe hxe => ?_ | with_reducible refine cnd_d (fun hq => ?_) fun hq => ?_) <;> conv => whnf) | ((with_reducible refine cnd_i (fun hq => ?_) fun hq => ?_) <;> ((try simp only [hqs] at hq) <;> (first | omega | conv => whnf))) | refine cr (hnc) ?_ | refine cr (hD) ?_ | refine co (hE) ?_)))
        exact ⟨(i + 1, w2, q3), ⟨by dsimp only; omega, hdo, by dsimp only; omega, by dsimp only; omega⟩, by dsimp only; omega, rfl⟩
    · (repeat (any_goals (first | refine st ?_ | ((first | refine go2 fun xe hxe => ?_ | with_reducible refine cnd_d (fun hq => ?_) fun hq => ?_) <;> conv => whnf) | ((with_reducible refine cnd_i (fun hq => ?_) fun hq => ?_) <;> ((try simp only [hqs] at hq) <;> (first | omega | conv => whnf))) | refine cr (hnc) ?_)))
      exact ⟨(w, q2 + 1), ⟨by dsimp only; omega, by dsimp only; omega, hi2⟩, rfl, rfl⟩
  · (repeat (any_goals (first | refine st ?_ | ((first | refine go2 fun xe hxe => ?_ | with_reducible refine cnd_d (fun hq => ?_) fun hq => ?_) <;> conv => whnf) | ((with_reducible refine cnd_i (fun hq => ?_) fun hq => ?_) <;> ((try simp only [hqs] at hq) <;> (first | omega | conv => whnf))) | refine cr (hmc) ?_ | refine co (hB) ?_)))
    refine at_loop hK [] [0, 2, 3, 4] (fun x : Nat × Wrl × Int => ⟨[(0, .ptr 4 0), (2, .ptr 5 0), (3, .ptr 6 0), (4, .int .i64 x.1)], [(4, rdB b x.2.2), (5, .var 27 wZv), (6, .var 27 (wrlA x.2.1).cells)], 7⟩)
      (fun x => x.1 ≤ 69 ∧ WOK x.2.1 ∧ p ≤ x.2.2 ∧ x.2.2 ≤ p + 100 + 61 * x.1) (fun x => 70 - x.1) (0, w0, q + 1) ⟨by dsimp only; omega, h3, by dsimp only; omega, by dsimp only; omega⟩ rfl ?_
    rintro ⟨i, w, q2⟩ ⟨hi1, hi2, hi3, hi4⟩
    dsimp only at hi1 hi2 hi3 hi4 ⊢
    obtain ⟨n, hn, hnc⟩ := pk_c b q2 70 h (by omega) (by omega)
    obtain ⟨⟨⟨z, e⟩, q3⟩, ⟨e1, e2, e3, e4⟩, hE⟩ := devt_c b (q2 + 1) w h (by omega) hi2
    dsimp only at e1 e2 e3 e4 hE
    have hD := evtZ_do w z e hi2 e3 e4
    have hdo := sDo_ok hi2 e
    by_cases hlt : (i : Int) < n
    · cases z with
      | false =>
        have hE : ConV Tryz.prog 27 [.ptr 4 0, wrlA w] [(4, rdB b (q2 + 1))] (evtA e) [(4, rdB b q3)] := hE
        generalize sDo w e = w2 at *
        (repeat (any_goals (first | refine st ?_ | ((first | refine go2 fun xe hxe => ?_ | with_reducible refine cnd_d (fun hq => ?_) fun hq => ?_) <;> conv => whnf) | ((with_reducible refine cnd_i (fun hq => ?_) fun hq => ?_) <;> ((try simp only [hqs] at hq) <;> (first | omega | conv => whnf))) | refine cr (hnc) ?_ | refine cr (hD) ?_ | refine co (hE) ?_)))
        exact ⟨(i + 1, w2, q3), ⟨by dsimp only; omega, hdo, by dsimp only; omega, by dsimp only; omega⟩, by dsimp only; omega, rfl⟩
      | true =>
        have hE : ConV Tryz.prog 27 [.ptr 4 0, wrlA w] [(4, rdB b (q2 + 1))] (.agg [.int .i64 e.kind, .int .i64 e.a, .int .i64 e.b, .int .i64 e.v.round, .int .i64 e.v.author, .nils, .int .i64 e.v.digest]) [(4, rdB b q3)] := hE
        rw [e4 rfl] at hD
        generalize sDo w e = w2 at *
        (repeat (any_goals (first | refine st ?_ | ((first | refine go2 fun xe hxe => ?_ | with_reducible refine cnd_d (fun hq => ?_) fun hq => ?_) <;> conv => whnf) | ((with_reducible refine cnd_i (fun hq => ?_) fun hq => ?_) <;> ((try simp only [hqs] at hq) <;> (first | omega | conv => whnf))) | refine cr (hnc) ?_ | refine cr (hD) ?_ | refine co (hE) ?_)))
        exact ⟨(i + 1, w2, q3), ⟨by dsimp only; omega, hdo, by dsimp only; omega, by dsimp only; omega⟩, by dsimp only; omega, rfl⟩
    · (repeat (any_goals (first | refine st ?_ | ((first | refine go2 fun xe hxe => ?_ | with_reducible refine cnd_d (fun hq => ?_) fun hq => ?_) <;> conv => whnf) | ((with_reducible refine cnd_i (fun hq => ?_) fun hq => ?_) <;> ((try simp only [hqs] at hq) <;> (first | omega | conv => whnf))) | refine cr (hnc) ?_)))
      exact ⟨(w, q2 + 1), ⟨by dsimp only; omega, by dsimp only; omega, hi2⟩, rfl, rfl⟩
/-- small enough to be looked at -/
def WSm (w : Wrl) : Prop := w.com.length ≤ 1000 ∧ ∀ g ∈ w.views, g.length ≤ 1000
theorem WOK.sm {w : Wrl} (h : WOK w) : WSm w := ⟨by have := h.len; omega, fun g hg => by have := h.vl g hg; omega⟩
theorem cut_mem {α : Type} {xs : List α} {lo hi : Option V} {a b : Nat} {x : α} (h : x ∈ cutL xs lo hi a b) : x ∈ xs := by
  unfold cutL at h
  split at h
  · exact h
  · exact List.mem_of_mem_take h
  · exact List.mem_of_mem_drop h
  · exact List.mem_of_mem_take (List.mem_of_mem_drop h)
theorem cut_len {α : Type} (xs : List α) (lo hi : Option V) (a b : Nat) : (cutL xs lo hi a b).length ≤ xs.length := by
  unfold cutL
  split
  · omega
  · rw [List.length_take]; omega
  · rw [List.length_drop]; omega
  · rw [List.length_drop, List.length_take]; omega
theorem wsm_cut {vs : List (List Vtx)} {lo hi : Option V} {a b : Nat} (h : ∀ g ∈ vs, g.length ≤ 1000) : ∀ g ∈ cutL vs lo hi a b, g.length ≤ 1000 := fun g hg => h g (cut_mem hg)
theorem wsm_set {vs : List (List Vtx)} {k k2 : Nat} {g0 : List Vtx} {lo hi : Option V} {a b : Nat} (h : ∀ g ∈ vs, g.length ≤ 1000) (hx : vs[k2]? = some g0) : ∀ g ∈ vs.set k (cutL g0 lo hi a b), g.length ≤ 1000 := fun g hg => by
  rcases mem_set hg with rfl | hg
  · have h1 := cut_len g0 lo hi a b
    have h2 := h g0 (List.mem_of_getElem? hx)
    omega
  · exact h g hg
theorem wrg_i {b : List Int} {p q : Int} {c l : List Int} {bd : Int} {vs : List (List Vtx)} {ps : List Ppl} (h1 : p ≤ q ∧ q ≤ p + 6100) (h2 : c.length ≤ 1000) (h3 : ∀ g ∈ vs, g.length ≤ 1000) : ∃ x : Wrl × Int, (p ≤ x.2 ∧ x.2 ≤ p + 6100 ∧ WSm x.1) ∧ V.agg [.lst (.int .i64) c, .lst (.int .i64) l, .int .i64 bd, .lst (.lst .vtx) vs, .lst .ppl ps] = wrlA x.1 ∧ ([(4, rdB b q)] : VH) = [(4, rdB b x.2)] := ⟨(⟨c, l, bd, vs, ps⟩, q), ⟨h1.1, h1.2, h2, h3⟩, rfl, rfl⟩
set_option maxHeartbeats 1000000 in
theorem dwrg_c (b : List Int) (p : Int) (h : rdOK b 0) (hp : 0 ≤ p ∧ p ≤ 400000) : ∃ x : Wrl × Int, (p ≤ x.2 ∧ x.2 ≤ p + 6100 ∧ WSm x.1) ∧ ConV Tryz.prog 43 [.ptr 4 0] [(4, rdB b p)] (wrlA x.1) [(4, rdB b x.2)] := by
  obtain ⟨⟨w, q⟩, ⟨h1, h2, h3⟩, hB⟩ := dwld_c b p h (by omega)
  dsimp only at h1 h2 h3 hB
  have hC := scpo_c w h3
  have h7 := h3.len
  have hvl := h3.vlen
  have hpl := h3.plen
  have hll := (leaS_iff.1 h3.lead).2
  have hsm := h3.sm
  suffices hs : ∃ r hout, (∃ x : Wrl × Int, (p ≤ x.2 ∧ x.2 ≤ p + 6100 ∧ WSm x.1) ∧ r = wrlA x.1 ∧ hout = [(4, rdB b x.2)]) ∧ ConV Tryz.prog 43 [.ptr 4 0] [(4, rdB b p)] r hout by
    obtain ⟨r, hout, ⟨v, hv, rfl, rfl⟩, h⟩ := hs
    exact ⟨v, hv, h⟩
  refine con_ex Θ_ok Tryz.func43 rfl rfl true 1 5 rfl rfl rfl rfl (R := fun r hout => ∃ x : Wrl × Int, (p ≤ x.2 ∧ x.2 ≤ p + 6100 ∧ WSm x.1) ∧ r = wrlA x.1 ∧ hout = [(4, rdB b x.2)]) (r0 := wrlA w) (hout0 := [(4, rdB b p)]) (⟨(w, p), ⟨by dsimp only; omega, by dsimp only; omega, hsm⟩, rfl, rfl⟩) fun K hK hb1 hb2 => ?_; simp only [argsV, enc, Nat.reduceAdd]
  clear hb1 hb2
  (repeat (any_goals (first | refine st ?_ | ((first | refine go2 fun xe hxe => ?_ | with_reducible refine cnd_d (fun hq => ?_) fun hq => ?_) <;> conv => whnf) | ((with_reducible refine cnd_i (fun hq => ?_) fun hq => ?_) <;> ((try simp only [hqs] at hq) <;> (first | omega | conv => whnf))) | refine cr (hC) ?_ | ((with_reducible refine call_r ?_); (conv => whnf); (first | refine call_ex (pk_c b _ _ h (by omega) (by omega)) fun xv hxv => ?_ | refine call_ex (ddig_c b _ h (by omega)) fun xv hxv => ?_ | refine call_ex (dmem_c b _ _ h (by omega) (by omega)) fun xv hxv => ?_); conv => whnf) | refine co (hB) ?_)))
  all_goals refine wrg_i ?_ ?_ ?_
  all_goals first | omega | (rw [List.length_set]; omega) | omega | exact hsm.2 | exact wsm_cut hsm.2 | exact wsm_set hsm.2 hxe | (exact wsm_set hsm.2 (by assumption))
end Go.Proofs.YtapkflbaenbgiaaGreat.Am
namespace Go.Proofs.YtapkflbaenbgiaaGreat.Am
set_option linter.unusedSimpArgs false
set_option linter.unusedVariables false
open Go
attribute [local irreducible] Mk Need Ari Get Idx Cnd CallM CallA Opt Unch At ConV
set_option maxRecDepth 10000
/-- the places of what is certified -/
def cerL (c : List Int) (ps : List Ppl) : Nat → List Int
  | 0 => []
  | n + 1 => if don c (ps.getD n p0) then cerL c ps n ++ [(n : Int)] else cerL c ps n
def cert (w : Wrl) : List Int := if wrlS w then cerL w.com w.props w.props.length else []
theorem cerL_mem {c : List Int} {ps : List Ppl} : ∀ {n : Nat} {x : Int}, x ∈ cerL c ps n ↔ 0 ≤ x ∧ x < n ∧ don c (ps.getD x.toNat p0) = true
  | 0, x => by simp [cerL]; omega
  | n + 1, x => by
    have ih := cerL_mem (c := c) (ps := ps) (n := n) (x := x)
    unfold cerL
    split
    · rename_i h
      rw [List.mem_append, List.mem_singleton, ih]
      constructor
      · rintro (⟨h1, h2, h3⟩ | rfl)
        · exact ⟨h1, by omega, h3⟩
        · exact ⟨by omega, by omega, by rw [Int.toNat_natCast]; exact h⟩
      · rintro ⟨h1, h2, h3⟩
        by_cases e : x = n
        · exact .inr e
        · exact .inl ⟨h1, by omega, h3⟩
    · rename_i h
      rw [ih]
      constructor
      · rintro ⟨h1, h2, h3⟩
        exact ⟨h1, by omega, h3⟩
      · rintro ⟨h1, h2, h3⟩
        refine ⟨h1, ?_, h3⟩
        by_cases e : x = n
        · subst e
          rw [Int.toNat_natCast] at h3
          exact absurd h3 h
        · omega
theorem cerL_asc (c : List Int) (ps : List Ppl) : ∀ n, (cerL c ps n).Pairwise (· < ·)
  | 0 => List.Pairwise.nil
  | n + 1 => by
    have ih := cerL_asc c ps n
    unfold cerL
    split
    · refine List.pairwise_append.2 ⟨ih, by simp, fun a ha b hb => ?_⟩
      obtain rfl := List.mem_singleton.1 hb
      exact (cerL_mem.1 ha).2.1
    · exact ih
theorem cerL_len (c : List Int) (ps : List Ppl) : ∀ n, (cerL c ps n).length ≤ n
  | 0 => Nat.le_refl _
  | n + 1 => by
    have ih := cerL_len c ps n
    unfold cerL
    split
    · simp; omega
    · omega
theorem icer_c (w : Wrl) (hw : WSm w) : ConV Tryz.prog 13 [wrlA w] [] (.lst (.int .i64) (cert w)) [] := by
  have hV := iwV_c w fun g hg => by have := hw.2 g hg; omega
  refine con_eq Θ_ok Tryz.func13 rfl rfl true 0 4 rfl rfl rfl rfl fun K hK hb1 hb2 => ?_; simp only [argsV, enc, Nat.reduceAdd]
  clear hb1 hb2
  cases hv : wrlS w
  · have : cert w = [] := by simp [cert, hv]
    rw [this]
    rw [hv] at hV
    (repeat (any_goals (first | refine st ?_ | ((first | refine go2 fun xe hxe => ?_ | with_reducible refine cnd_d (fun hq => ?_) fun hq => ?_) <;> conv => whnf) | ((with_reducible refine cnd_i (fun hq => ?_) fun hq => ?_) <;> ((try simp only [hqs] at hq) <;> (first | omega | conv => whnf))) | refine cr (hV) ?_)))
    exact ⟨rfl, rfl⟩
  · have hok := wok_iff.1 hv
    have hce : cert w = cerL w.com w.props w.props.length := by simp [cert, hv]
    have hpl := hok.plen
    rw [hce]
    rw [hv] at hV
    (repeat (any_goals (first | refine st ?_ | ((first | refine go2 fun xe hxe => ?_ | with_reducible refine cnd_d (fun hq => ?_) fun hq => ?_) <;> conv => whnf) | ((with_reducible refine cnd_i (fun hq => ?_) fun hq => ?_) <;> ((try simp only [hqs] at hq) <;> (first | omega | conv => whnf))) | refine cr (hV) ?_)))
    refine at_loop hK [] [1, 3, 12, 13, 14] (fun i : Nat => ⟨[(1, .ptr 4 0), (3, .ref 5), (12, .lst .ppl w.props), (13, .int .i64 w.props.length), (14, .int .i64 (i : Int))], [(4, .var 27 (wrlA w).cells), (5, .row 3 (.int .i64) (cerL w.com w.props i))], 6⟩) (fun i => i ≤ w.props.length) (fun i => w.props.length - i) 0 (by simp) rfl ?_
    intro i hi
    have hll := cerL_len w.com w.props i
    have hs : cerL w.com w.props (i + 1) = if don w.com (w.props.getD i p0) then cerL w.com w.props i ++ [(i : Int)] else cerL w.com w.props i := rfl
    by_cases hlt : i < w.props.length
    · have hxe : w.props[i]? = some (w.props.getD i p0) := by rw [List.getD_eq_getElem?_getD, List.getElem?_eq_getElem hlt]; rfl
      have hC := icert_c w.com (w.props.getD i p0) hok.com (hok.pv _ (gd_mem hlt)).2
      generalize w.props.getD i p0 = p at *
      generalize cerL w.com w.props i = l at *
      cases hd : don w.com p
      · rw [hd] at hC hs
        (repeat (any_goals (first | refine st ?_ | ((first | refine go2 fun xe hxe => ?_ | with_reducible refine cnd_d (fun hq => ?_) fun hq => ?_) <;> conv => whnf) | ((with_reducible refine cnd_i (fun hq => ?_) fun hq => ?_) <;> ((try simp only [hqs] at hq) <;> (first | omega | conv => whnf))) | refine cr (hC) ?_)))
        exact ⟨i + 1, by omega, by omega, by rw [hs]; rfl⟩
      · rw [hd] at hC hs
        (repeat (any_goals (first | refine st ?_ | ((first | refine go2 fun xe hxe => ?_ | with_reducible refine cnd_d (fun hq => ?_) fun hq => ?_) <;> conv => whnf) | ((with_reducible refine cnd_i (fun hq => ?_) fun hq => ?_) <;> ((try simp only [hqs] at hq) <;> (first | omega | conv => whnf))) | refine cr (hC) ?_)))
        exact ⟨i + 1, by omega, by omega, by rw [hs]; rfl⟩
    · obtain rfl : i = w.props.length := by omega
      (repeat (any_goals (first | refine st ?_ | ((first | refine go2 fun xe hxe => ?_ | with_reducible refine cnd_d (fun hq => ?_) fun hq => ?_) <;> conv => whnf) | ((with_reducible refine cnd_i (fun hq => ?_) fun hq => ?_) <;> ((try simp only [hqs] at hq) <;> (first | omega | conv => whnf))))))
      exact ⟨rfl, rfl⟩
theorem hasI_c (l : List Int) (n : Int) : ConV Tryz.prog 38 [.lst (.int .i64) l, .int .i64 n] [] (.bool (l.contains n)) [] := by
  refine con_eq Θ_ok Tryz.func38 rfl rfl false 0 4 rfl rfl rfl rfl fun K hK hb1 hb2 => ?_; simp only [argsV, enc, Nat.reduceAdd]
  simp [toDL, V.toD, bnd, encD, D.cells] at hb1
  (repeat (any_goals (first | refine st ?_ | ((first | refine go2 fun xe hxe => ?_ | with_reducible refine cnd_d (fun hq => ?_) fun hq => ?_) <;> conv => whnf) | ((with_reducible refine cnd_i (fun hq => ?_) fun hq => ?_) <;> ((try simp only [hqs] at hq) <;> (first | omega | conv => whnf))))))
  refine at_loop hK [] [0, 1, 5] (fun i : Nat => ⟨[(0, .lst (.int .i64) l), (1, .int .i64 n), (5, .int .i64 i)], [], 4⟩) (fun i => i ≤ l.length ∧ ∀ y ∈ l.take i, (y == n) = false) (fun i => l.length - i) 0 ⟨by simp, by simp⟩ rfl ?_
  rintro i ⟨hi, hall⟩
  by_cases hlt : i < l.length
  · have hxe : l[i]? = some l[i] := List.getElem?_eq_getElem hlt
    have hsn : l.take (i + 1) = l.take i ++ [l[i]] := List.take_succ_eq_append_getElem hlt
    have hm : l[i] ∈ l := List.getElem_mem hlt
    generalize l[i] = x at *
    by_cases h : x = n
    · subst h
      (repeat (any_goals (first | refine st ?_ | ((first | refine go2 fun xe hxe => ?_ | with_reducible refine cnd_d (fun hq => ?_) fun hq => ?_) <;> conv => whnf) | ((with_reducible refine cnd_i (fun hq => ?_) fun hq => ?_) <;> ((try simp only [hqs] at hq) <;> (first | omega | conv => whnf))))))
      · rw [List.contains_iff_mem.2 hm]
        exact ⟨rfl, rfl⟩
      · exact absurd trivial hq
    · (repeat (any_goals (first | refine st ?_ | ((first | refine go2 fun xe hxe => ?_ | with_reducible refine cnd_d (fun hq => ?_) fun hq => ?_) <;> conv => whnf) | ((with_reducible refine cnd_i (fun hq => ?_) fun hq => ?_) <;> ((try simp only [hqs] at hq) <;> (first | omega | conv => whnf))))))
      exact ⟨i + 1, ⟨by omega, by rw [hsn]; exact tk_snoc hall (by simpa using h)⟩, by omega, rfl⟩
  · (repeat (any_goals (first | refine st ?_ | ((first | refine go2 fun xe hxe => ?_ | with_reducible refine cnd_d (fun hq => ?_) fun hq => ?_) <;> conv => whnf) | ((with_reducible refine cnd_i (fun hq => ?_) fun hq => ?_) <;> ((try simp only [hqs] at hq) <;> (first | omega | conv => whnf))))))
    rw [List.take_of_length_le (by omega)] at hall
    have : l.contains n = false := by
      rw [Bool.eq_false_iff]
      intro h
      have := hall _ (List.contains_iff_mem.1 h)
      simp at this
    rw [this]
    exact ⟨rfl, rfl⟩
end Go.Proofs.YtapkflbaenbgiaaGreat.Am
namespace Go.Proofs.YtapkflbaenbgiaaGreat.Am
set_option linter.unusedSimpArgs false
set_option linter.unusedVariables false
open Go
attribute [local irreducible] Mk Need Ari Get Idx Cnd CallM CallA Opt Unch At ConV
set_option maxRecDepth 10000
theorem swdo_c (w : Wrl) (e : Evt) (hl : w.com.length ≤ 2000000) (hvl : e.v.parents.length ≤ 1000000) : ConV Tryz.prog 20 [wrlA w, evtA e] [] (if wrlS w then wrlA (sDo w e) else wrlZ) [] := by
  have hV := swV_c w hl
  refine con_eq Θ_ok Tryz.func20 rfl rfl true 0 4 rfl rfl rfl rfl fun K hK hb1 hb2 => ?_; simp only [argsV, enc, Nat.reduceAdd]
  clear hb1 hb2
  cases hs : wrlS w
  · rw [hs] at hV
    (repeat (any_goals (first | refine st ?_ | ((first | refine go2 fun xe hxe => ?_ | with_reducible refine cnd_d (fun hq => ?_) fun hq => ?_) <;> conv => whnf) | ((with_reducible refine cnd_i (fun hq => ?_) fun hq => ?_) <;> ((try simp only [hqs] at hq) <;> (first | omega | conv => whnf))) | refine cr (hV) ?_)))
    exact ⟨rfl, rfl⟩
  · rw [hs] at hV
    have hw := wok_iff.1 hs
    have hD := sdo_c w e hw hvl
    have hC := scpy_c _ (sDo_ok hw e)
    generalize sDo w e = u at *
    (repeat (any_goals (first | refine st ?_ | ((first | refine go2 fun xe hxe => ?_ | with_reducible refine cnd_d (fun hq => ?_) fun hq => ?_) <;> conv => whnf) | ((with_reducible refine cnd_i (fun hq => ?_) fun hq => ?_) <;> ((try simp only [hqs] at hq) <;> (first | omega | conv => whnf))) | refine cr (hV) ?_ | refine cr (hD) ?_ | refine cr (hC) ?_)))
    exact ⟨rfl, rfl⟩
theorem swpl_c (w : Wrl) (es : List Evt) (hl : w.com.length ≤ 2000000) (hel : es.length ≤ 1000000) (hvl : ∀ e ∈ es, e.v.parents.length ≤ 1000000) : ConV Tryz.prog 11 [wrlA w, .lst .evt es] [] (if decide (es.length ≤ 80) && wrlS w then .tup [wrlA (sPlay w es), .bool true] else .tup [wrlZ, .bool false]) [] := by
  have hV := swV_c w hl
  refine con_eq Θ_ok Tryz.func11 rfl rfl true 0 4 rfl rfl rfl rfl fun K hK hb1 hb2 => ?_; simp only [argsV, enc, Nat.reduceAdd]
  clear hb1 hb2
  cases hs : wrlS w
  · rw [hs] at hV
    (repeat (any_goals (first | refine st ?_ | ((first | refine go2 fun xe hxe => ?_ | with_reducible refine cnd_d (fun hq => ?_) fun hq => ?_) <;> conv => whnf) | ((with_reducible refine cnd_i (fun hq => ?_) fun hq => ?_) <;> ((try simp only [hqs] at hq) <;> (first | omega | conv => whnf))) | refine cr (hV) ?_)))
    rw [Bool.and_false]
    exact ⟨rfl, rfl⟩
  · rw [hs] at hV
    have hw := wok_iff.1 hs
    by_cases h80 : 80 < (es.length : Int)
    · (repeat (any_goals (first | refine st ?_ | ((first | refine go2 fun xe hxe => ?_ | with_reducible refine cnd_d (fun hq => ?_) fun hq => ?_) <;> conv => whnf) | ((with_reducible refine cnd_i (fun hq => ?_) fun hq => ?_) <;> ((try simp only [hqs] at hq) <;> (first | omega | conv => whnf))) | refine cr (hV) ?_)))
      rw [decide_eq_false (p := es.length ≤ 80) (by omega)]
      exact ⟨rfl, rfl⟩
    · rw [decide_eq_true (p := es.length ≤ 80) (by omega), Bool.true_and]
      (repeat (any_goals (first | refine st ?_ | ((first | refine go2 fun xe hxe => ?_ | with_reducible refine cnd_d (fun hq => ?_) fun hq => ?_) <;> conv => whnf) | ((with_reducible refine cnd_i (fun hq => ?_) fun hq => ?_) <;> ((try simp only [hqs] at hq) <;> (first | omega | conv => whnf))) | refine cr (hV) ?_)))
      refine at_loop hK [] [1, 2, 4, 6] (fun i : Nat => ⟨[(1, .lst .evt es), (2, .ptr 4 0), (4, .ptr 5 0), (6, .int .i64 (i : Int))], [(4, .var 27 (wrlA (sPlay w (es.take i))).cells), (5, .var 27 wZv)], 6⟩) (fun i => i ≤ es.length) (fun i => es.length - i) 0 (by simp) rfl ?_
      intro i hi
      have hwi := sPlay_ok hw (es.take i)
      by_cases hlt : i < es.length
      · have hxe : es[i]? = some es[i] := List.getElem?_eq_getElem hlt
        have hsn := sPlay_snoc w (es.take i) es[i]
        rw [← List.take_succ_eq_append_getElem hlt] at hsn
        have hD := sdo_c _ es[i] hwi (hvl _ (List.getElem_mem hlt))
        generalize es[i] = e at *
        generalize sPlay w (es.take i) = u at *
        (repeat (any_goals (first | refine st ?_ | ((first | refine go2 fun xe hxe => ?_ | with_reducible refine cnd_d (fun hq => ?_) fun hq => ?_) <;> conv => whnf) | ((with_reducible refine cnd_i (fun hq => ?_) fun hq => ?_) <;> ((try simp only [hqs] at hq) <;> (first | omega | conv => whnf))) | refine cr (hD) ?_)))
        refine ⟨i + 1, by omega, by omega, ?_⟩
        rw [hsn]
        rfl
      · rw [List.take_of_length_le (by omega)] at hwi ⊢
        have hC := scpy_c _ hwi
        (repeat (any_goals (first | refine st ?_ | ((first | refine go2 fun xe hxe => ?_ | with_reducible refine cnd_d (fun hq => ?_) fun hq => ?_) <;> conv => whnf) | ((with_reducible refine cnd_i (fun hq => ?_) fun hq => ?_) <;> ((try simp only [hqs] at hq) <;> (first | omega | conv => whnf))) | refine cr (hC) ?_)))
        exact ⟨rfl, rfl⟩
theorem ddo_c (c : List Int) (hc : ∀ x ∈ c, 0 ≤ x ∧ x ≤ 255) : ∃ x : Wrl × Bool × Evt, (WSm x.1 ∧ x.2.2.v.parents.length ≤ 30 ∧ (x.2.1 = true → x.2.2.v.parents = [])) ∧ ConV Tryz.prog 18 [.lst (.int .u8) c] [] (.tup [wrlA x.1, evtZ x.2.1 x.2.2]) [] := by
  have h := rd0w hc
  obtain ⟨⟨w, q⟩, ⟨h1, h2, h3⟩, hw⟩ := dwld_c _ 0 h (by omega)
  dsimp only at h1 h2 h3 hw
  obtain ⟨⟨⟨z, e⟩, q3⟩, ⟨e1, e2, e3, e4⟩, hE⟩ := devt_c _ q w h (by omega) h3
  dsimp only at e1 e2 e3 e4 hE
  obtain ⟨n, hn, hnc⟩ := pk_c _ q3 14 h (by omega) (by omega)
  by_cases h0 : n = 0
  · obtain ⟨⟨w2, q4⟩, ⟨g1, g2, g3⟩, hW⟩ := dwrg_c _ (q3 + 1) h (by omega)
    dsimp only at g1 g2 g3 hW
    refine ⟨(w2, z, e), ⟨g3, e3, e4⟩, ?_⟩
    refine con_eq Θ_ok Tryz.func18 rfl rfl true 0 4 rfl rfl rfl rfl fun K hK hb1 hb2 => ?_; simp only [argsV, enc, Nat.reduceAdd]
    clear hb1 hb2
    cases z with
    | false =>
      have hE : ConV Tryz.prog 27 [.ptr 4 0, wrlA w] [(4, rdB (c.take 2000) q)] (evtA e) [(4, rdB (c.take 2000) q3)] := hE
      (repeat (any_goals (first | refine st ?_ | ((first | refine go2 fun xe hxe => ?_ | with_reducible refine cnd_d (fun hq => ?_) fun hq => ?_) <;> conv => whnf) | ((with_reducible refine cnd_i (fun hq => ?_) fun hq => ?_) <;> ((try simp only [hqs] at hq) <;> (first | omega | conv => whnf))) | refine cr (open_c _) ?_ | refine cr (hw) ?_ | refine cr (hnc) ?_ | refine cr (hW) ?_ | refine co (hE) ?_)))
      exact ⟨rfl, rfl⟩
    | true =>
      have hE : ConV Tryz.prog 27 [.ptr 4 0, wrlA w] [(4, rdB (c.take 2000) q)] (.agg [.int .i64 e.kind, .int .i64 e.a, .int .i64 e.b, .int .i64 e.v.round, .int .i64 e.v.author, .nils, .int .i64 e.v.digest]) [(4, rdB (c.take 2000) q3)] := hE
      (repeat (any_goals (first | refine st ?_ | ((first | refine go2 fun xe hxe => ?_ | with_reducible refine cnd_d (fun hq => ?_) fun hq => ?_) <;> conv => whnf) | ((with_reducible refine cnd_i (fun hq => ?_) fun hq => ?_) <;> ((try simp only [hqs] at hq) <;> (first | omega | conv => whnf))) | refine cr (open_c _) ?_ | refine cr (hw) ?_ | refine cr (hnc) ?_ | refine cr (hW) ?_ | refine co (hE) ?_)))
      exact ⟨rfl, rfl⟩
  · refine ⟨(w, z, e), ⟨h3.sm, e3, e4⟩, ?_⟩
    refine con_eq Θ_ok Tryz.func18 rfl rfl true 0 4 rfl rfl rfl rfl fun K hK hb1 hb2 => ?_; simp only [argsV, enc, Nat.reduceAdd]
    clear hb1 hb2
    cases z with
    | false =>
      have hE : ConV Tryz.prog 27 [.ptr 4 0, wrlA w] [(4, rdB (c.take 2000) q)] (evtA e) [(4, rdB (c.take 2000) q3)] := hE
      (repeat (any_goals (first | refine st ?_ | ((first | refine go2 fun xe hxe => ?_ | with_reducible refine cnd_d (fun hq => ?_) fun hq => ?_) <;> conv => whnf) | ((with_reducible refine cnd_i (fun hq => ?_) fun hq => ?_) <;> ((try simp only [hqs] at hq) <;> (first | omega | conv => whnf))) | refine cr (open_c _) ?_ | refine cr (hw) ?_ | refine cr (hnc) ?_ | refine co (hE) ?_)))
      exact ⟨rfl, rfl⟩
    | true =>
      have hE : ConV Tryz.prog 27 [.ptr 4 0, wrlA w] [(4, rdB (c.take 2000) q)] (.agg [.int .i64 e.kind, .int .i64 e.a, .int .i64 e.b, .int .i64 e.v.round, .int .i64 e.v.author, .nils, .int .i64 e.v.digest]) [(4, rdB (c.take 2000) q3)] := hE
      (repeat (any_goals (first | refine st ?_ | ((first | refine go2 fun xe hxe => ?_ | with_reducible refine cnd_d (fun hq => ?_) fun hq => ?_) <;> conv => whnf) | ((with_reducible refine cnd_i (fun hq => ?_) fun hq => ?_) <;> ((try simp only [hqs] at hq) <;> (first | omega | conv => whnf))) | refine cr (open_c _) ?_ | refine cr (hw) ?_ | refine cr (hnc) ?_ | refine co (hE) ?_)))
      exact ⟨rfl, rfl⟩
def EvS (es : List Evt) : Prop := es.length ≤ 100 ∧ ∀ e ∈ es, e.v.parents.length ≤ 30
theorem evs_app {es : List Evt} {e : Evt} (h : ∀ e ∈ es, e.v.parents.length ≤ 30) (he : e.v.parents.length ≤ 30) : ∀ x ∈ es ++ [e], x.v.parents.length ≤ 30 := fun x hx => by
  rcases List.mem_append.1 hx with hx | hx
  · exact h x hx
  · rw [List.mem_singleton.1 hx]; exact he
theorem stc {P Q : Prop} (h : Q) (s : Hid Q → P := by
    intro h
    (first | (with_reducible first | apply at_seq) | ((first | with_reducible apply at_regS Θ_ok | refine go ?_ | (with_reducible first | apply at_ret | apply at_exit | apply at_skip | refine at_regD Θ_ok mixed (by kernel_rfl) ?_)) <;> conv => whnf))
    repeat (first | (with_reducible first | apply at_seq) | ((first | with_reducible apply at_regS Θ_ok | refine go ?_ | (with_reducible first | apply at_ret | apply at_exit | apply at_skip | refine at_regD Θ_ok mixed (by kernel_rfl) ?_)) <;> conv => whnf))
    exact h.h) : P := s ⟨h⟩
set_option maxHeartbeats 1000000 in
theorem dpl_c (c : List Int) (hc : ∀ x ∈ c, 0 ≤ x ∧ x ≤ 255) : ∃ x : Wrl × List Evt, (WOK x.1 ∧ EvS x.2) ∧ ConV Tryz.prog 9 [.lst (.int .u8) c] [] (.tup [wrlA x.1, .lst .evt x.2]) [] := by
  have h := rd0w hc
  obtain ⟨⟨w0, q⟩, ⟨h1, h2, h3⟩, hB⟩ := dbeg_c _ 0 h (by omega)
  dsimp only at h1 h2 h3 hB
  suffices hs : ∃ r hout, (∃ x : Wrl × List Evt, (WOK x.1 ∧ EvS x.2) ∧ r = .tup [wrlA x.1, .lst .evt x.2] ∧ hout = []) ∧ ConV Tryz.prog 9 [.lst (.int .u8) c] [] r hout by
    obtain ⟨r, hout, ⟨v, hv, rfl, rfl⟩, h⟩ := hs
    exact ⟨v, hv, h⟩
  refine con_ex Θ_ok Tryz.func9 rfl rfl true 0 4 rfl rfl rfl rfl (R := fun r hout => ∃ x : Wrl × List Evt, (WOK x.1 ∧ EvS x.2) ∧ r = .tup [wrlA x.1, .lst .evt x.2] ∧ hout = []) (r0 := .tup [wrlA w0, .lst .evt []]) (hout0 := []) (⟨(w0, []), ⟨h3, by simp [EvS]⟩, rfl, rfl⟩) fun K hK hb1 hb2 => ?_; simp only [argsV, enc, Nat.reduceAdd]
  clear hb1 hb2
  obtain ⟨m, hm, hmc⟩ := pk_c _ q 2 h (by omega) (by omega)
  obtain ⟨r, hr, hrc⟩ := pk_c _ (q + 1) 4 h (by omega) (by omega)
  have hC := scalm_c w0 r.toNat h3 (by omega)
  rw [show ((r.toNat : Nat) : Int) = r by omega] at hC
  have hco := calmTo_ok h3 r.toNat
  (repeat (any_goals (first | refine stc ?_ | ((first | refine go2 fun xe hxe => ?_ | with_reducible refine cnd_d (fun hq => ?_) fun hq => ?_) <;> conv => whnf) | ((with_reducible refine cnd_i (fun hq => ?_) fun hq => ?_) <;> ((try simp only [hqs] at hq) <;> (first | omega | conv => whnf))) | refine cr (open_c _) ?_ | refine cr (hmc) ?_ | refine co (hB) ?_)))
  refine at_then hK [] [2, 4, 5] (fun x : Wrl × Int => ⟨[(2, .ptr 4 0), (4, .ptr 5 0), (5, .ptr 6 0)], [(4, .var 27 wZv), (5, rdB (c.take 2000) x.2), (6, .var 27 (wrlA x.1).cells)], 7⟩) (fun x => WOK x.1 ∧ 0 ≤ x.2 ∧ x.2 ≤ 100) ?_ ?_
  · by_cases h0 : m = 0
    · (repeat (any_goals (first | refine st ?_ | ((first | refine go2 fun xe hxe => ?_ | with_reducible refine cnd_d (fun hq => ?_) fun hq => ?_) <;> conv => whnf) | ((with_reducible refine cnd_i (fun hq => ?_) fun hq => ?_) <;> ((try simp only [hqs] at hq) <;> (first | omega | conv => whnf))) | refine cr (hrc) ?_ | refine cr (hC) ?_)))
      exact ⟨(calmTo w0 r.toNat, q + 1 + 1), ⟨hco, by dsimp only; omega, by dsimp only; omega⟩, rfl⟩
    · (repeat (any_goals (first | refine st ?_ | ((first | refine go2 fun xe hxe => ?_ | with_reducible refine cnd_d (fun hq => ?_) fun hq => ?_) <;> conv => whnf) | ((with_reducible refine cnd_i (fun hq => ?_) fun hq => ?_) <;> ((try simp only [hqs] at hq) <;> (first | omega | conv => whnf))))))
      exact ⟨(w0, q + 1), ⟨h3, by dsimp only; omega, by dsimp only; omega⟩, rfl⟩
  · rintro ⟨w, p1⟩ ⟨g1, g2, g3⟩
    dsimp only at g1 g2 g3 ⊢
    clear hmc hrc hC hB
    obtain ⟨n, hn, hnc⟩ := pk_c _ p1 60 h (by omega) (by omega)
    obtain ⟨k, hk, hkc⟩ := pk_c _ (p1 + 1) 20 h (by omega) (by omega)
    obtain ⟨j, hj, hjc⟩ := pk_c _ (p1 + 1 + 1) 3 h (by omega) (by omega)
    (repeat (any_goals (first | refine stc ?_ | ((first | refine go2 fun xe hxe => ?_ | with_reducible refine cnd_d (fun hq => ?_) fun hq => ?_) <;> conv => whnf) | ((with_reducible refine cnd_i (fun hq => ?_) fun hq => ?_) <;> ((try simp only [hqs] at hq) <;> (first | omega | conv => whnf))) | refine cr (hnc) ?_ | refine cr (hkc) ?_)))
    refine at_then hK [] [2, 4, 5, 6, 7, 8] (fun x : Int × Int => ⟨[(2, .ptr 4 0), (4, .ptr 5 0), (5, .ptr 6 0), (6, .ptr 7 0), (7, .ref 8), (8, .int .i64 x.1)], [(4, .var 27 wZv), (5, rdB (c.take 2000) x.2), (6, .var 27 (wrlA w).cells), (7, .var 27 (wrlA w).cells), (8, .row 47 .evt [])], 9⟩) (fun x => x.1 ≤ 82 ∧ 0 ≤ x.2 ∧ x.2 ≤ 200) ?_ ?_
    · by_cases h0 : k = 0
      · (repeat (any_goals (first | refine st ?_ | ((first | refine go2 fun xe hxe => ?_ | with_reducible refine cnd_d (fun hq => ?_) fun hq => ?_) <;> conv => whnf) | ((with_reducible refine cnd_i (fun hq => ?_) fun hq => ?_) <;> ((try simp only [hqs] at hq) <;> (first | omega | conv => whnf))) | refine cr (hjc) ?_)))
        exact ⟨(79 + j, p1 + 1 + 1 + 1), ⟨by dsimp only; omega, by dsimp only; omega, by dsimp only; omega⟩, rfl⟩
      · (repeat (any_goals (first | refine st ?_ | ((first | refine go2 fun xe hxe => ?_ | with_reducible refine cnd_d (fun hq => ?_) fun hq => ?_) <;> conv => whnf) | ((with_reducible refine cnd_i (fun hq => ?_) fun hq => ?_) <;> ((try simp only [hqs] at hq) <;> (first | omega | conv => whnf))))))
        exact ⟨(n, p1 + 1 + 1), ⟨by dsimp only; omega, by dsimp only; omega, by dsimp only; omega⟩, rfl⟩
    · rintro ⟨n, p2⟩ ⟨f1, f2, f3⟩
      dsimp only at f1 f2 f3 ⊢
      clear hnc hkc hjc
      (repeat (any_goals (first | refine st ?_ | ((first | refine go2 fun xe hxe => ?_ | with_reducible refine cnd_d (fun hq => ?_) fun hq => ?_) <;> conv => whnf) | ((with_reducible refine cnd_i (fun hq => ?_) fun hq => ?_) <;> ((try simp only [hqs] at hq) <;> (first | omega | conv => whnf))))))
      refine at_loop hK [] [2, 4, 5, 6, 7, 8, 9] (fun x : Nat × Wrl × List Evt × Int => ⟨[(2, .ptr 4 0), (4, .ptr 5 0), (5, .ptr 6 0), (6, .ptr 7 0), (7, .ref 8), (8, .int .i64 n), (9, .int .i64 (x.1 : Int))], [(4, .var 27 wZv), (5, rdB (c.take 2000) x.2.2.2), (6, .var 27 (wrlA w).cells), (7, .var 27 (wrlA x.2.1).cells), (8, .row 47 .evt x.2.2.1)], 9⟩)
        (fun x => x.1 ≤ 82 ∧ WOK x.2.1 ∧ (x.2.2.1.length = x.1 ∧ ∀ e ∈ x.2.2.1, e.v.parents.length ≤ 30) ∧ 0 ≤ x.2.2.2 ∧ x.2.2.2 ≤ 200 + 60 * x.1) (fun x => 90 - x.1) (0, w, [], p2) ⟨by dsimp only; omega, g1, ⟨rfl, by simp⟩, by dsimp only; omega, by dsimp only; omega⟩ rfl ?_
      rintro ⟨i, u, es, p3⟩ ⟨i1, i2, ⟨i3, i4⟩, i5, i6⟩
      dsimp only at i1 i2 i3 i4 i5 i6 ⊢
      obtain ⟨⟨⟨z, e⟩, p4⟩, ⟨e1, e2, e3, e4⟩, hE⟩ := devt_c _ p3 u h (by omega) i2
      dsimp only at e1 e2 e3 e4 hE
      have hD := evtZ_do u z e i2 e3 e4
      have hdo := sDo_ok i2 e
      by_cases hlt : (i : Int) < n
      · have hap := evs_app i4 e3
        cases z with
        | false =>
          have hE : ConV Tryz.prog 27 [.ptr 4 0, wrlA u] [(4, rdB (c.take 2000) p3)] (evtA e) [(4, rdB (c.take 2000) p4)] := hE
          generalize sDo u e = u2 at *
          (repeat (any_goals (first | refine st ?_ | ((first | refine go2 fun xe hxe => ?_ | with_reducible refine cnd_d (fun hq => ?_) fun hq => ?_) <;> conv => whnf) | ((with_reducible refine cnd_i (fun hq => ?_) fun hq => ?_) <;> ((try simp only [hqs] at hq) <;> (first | omega | conv => whnf))) | refine cr (hD) ?_ | refine co (hE) ?_)))
          exact ⟨(i + 1, u2, es ++ [e], p4), ⟨by dsimp only; omega, hdo, ⟨by simp [i3], hap⟩, by dsimp only; omega, by dsimp only; omega⟩, by dsimp only; omega, rfl⟩
        | true =>
          have hE : ConV Tryz.prog 27 [.ptr 4 0, wrlA u] [(4, rdB (c.take 2000) p3)] (.agg [.int .i64 e.kind, .int .i64 e.a, .int .i64 e.b, .int .i64 e.v.round, .int .i64 e.v.author, .nils, .int .i64 e.v.digest]) [(4, rdB (c.take 2000) p4)] := hE
          obtain ⟨kd, a, b, ⟨rd, au, ps, dg⟩⟩ := e
          obtain rfl : ps = [] := e4 rfl
          dsimp only at hD hE
          generalize sDo u _ = u2 at *
          (repeat (any_goals (first | refine st ?_ | ((first | refine go2 fun xe hxe => ?_ | with_reducible refine cnd_d (fun hq => ?_) fun hq => ?_) <;> conv => whnf) | ((with_reducible refine cnd_i (fun hq => ?_) fun hq => ?_) <;> ((try simp only [hqs] at hq) <;> (first | omega | conv => whnf))) | refine cr (hD) ?_ | refine co (hE) ?_)))
          exact ⟨(i + 1, u2, es ++ [⟨kd, a, b, ⟨rd, au, [], dg⟩⟩], p4), ⟨by dsimp only; omega, hdo, ⟨by simp [i3], hap⟩, by dsimp only; omega, by dsimp only; omega⟩, by dsimp only; omega, rfl⟩
      · (repeat (any_goals (first | refine st ?_ | ((first | refine go2 fun xe hxe => ?_ | with_reducible refine cnd_d (fun hq => ?_) fun hq => ?_) <;> conv => whnf) | ((with_reducible refine cnd_i (fun hq => ?_) fun hq => ?_) <;> ((try simp only [hqs] at hq) <;> (first | omega | conv => whnf))))))
        exact ⟨(w, es), ⟨g1, by dsimp only; omega, i4⟩, rfl, rfl⟩
end Go.Proofs.YtapkflbaenbgiaaGreat.Am
namespace Go.Proofs.YtapkflbaenbgiaaGreat.Am
set_option linter.unusedSimpArgs false
set_option linter.unusedVariables false
open Go
theorem fit_two {w : Wrl} (hw : WOK w) {i k : Nat} {p q : Ppl} (hk : k < i) (hp : w.props[i]? = some p) (hq : w.props[k]? = some q) (h1 : p.v.round = q.v.round) (h2 : p.v.author = q.v.author) : p.v.author = w.bad ∧ both w.bad p.members q.members = false := by
  have h := pw_get hw.fit hk hq hp
  unfold fitP at h
  rw [slt_iff.2 ⟨h1, h2⟩] at h
  have h : vEq p.v q.v = false ∧ p.v.author = w.bad ∧ both w.bad p.members q.members = false := by simpa using h
  exact h.2
theorem ins_wei {c : List Int} : ∀ {ms : List Int} {m : Int}, m ∉ ms → wei c (insM ms m) = wei c ms + c.getD m.toNat 0
  | [], m, _ => by simp [insM, wei]
  | x :: l, m, h => by
    simp only [List.mem_cons, not_or] at h
    unfold insM
    split
    · have := ins_wei (c := c) h.2
      simp only [wei, List.map_cons, List.sum_cons] at this ⊢
      omega
    · rw [if_neg fun e => h.1 e.symm]
      simp only [wei, List.map_cons, List.sum_cons]
      omega
theorem all_wei (c : List Int) : wei c ((List.range c.length).map fun i : Nat => (i : Int)) = tot c := by
  have : ((List.range c.length).map fun i : Nat => (i : Int)).map (fun m => c.getD m.toNat 0) = c := by
    apply List.ext_getElem?
    intro i
    simp only [List.map_map, List.getElem?_map]
    rcases Nat.lt_or_ge i c.length with h | h
    · rw [List.getElem?_range h, List.getElem?_eq_getElem h]
      simp [List.getD_eq_getElem?_getD, List.getElem?_eq_getElem h]
    · rw [List.getElem?_eq_none (by simpa using h), List.getElem?_eq_none h]
      rfl
  unfold wei tot
  rw [this]
theorem asc_nodup {l : List Int} (h : l.Pairwise (· < ·)) : l.Nodup := h.imp fun h => by omega
theorem two_wei {c a b : List Int} (hc : ∀ x ∈ c, 0 ≤ x) (ha : a.Pairwise (· < ·)) (hb : b.Pairwise (· < ·)) (ha1 : ∀ x ∈ a, 0 ≤ x ∧ x < c.length) (hb1 : ∀ x ∈ b, 0 ≤ x ∧ x < c.length) (hd : ∀ x ∈ a, x ∉ b) : wei c a + wei c b ≤ tot c := by
  have key : ∀ b : List Int, b.Nodup → (∀ x ∈ b, 0 ≤ x ∧ x < c.length) → (∀ x ∈ a, x ∉ b) → ∃ l : List Int, l.Pairwise (· < ·) ∧ (∀ x, x ∈ l ↔ x ∈ a ∨ x ∈ b) ∧ wei c l = wei c a + wei c b := by
    intro b
    induction b with
    | nil => exact fun _ _ _ => ⟨a, ha, fun x => by simp, by simp [wei]⟩
    | cons y b ih =>
      intro h1 h2 h3
      obtain ⟨n1, n2⟩ := List.nodup_cons.1 h1
      obtain ⟨l, l1, l2, l3⟩ := ih n2 (fun x hx => h2 x (by simp [hx])) fun x hx hb => h3 x hx (by simp [hb])
      refine ⟨insM l y, insM_asc l1, fun x => ?_, ?_⟩
      · rw [insM_mem, l2, List.mem_cons]
        constructor
        · rintro (h | h | h)
          · exact .inr (.inl h)
          · exact .inl h
          · exact .inr (.inr h)
        · rintro (h | h | h)
          · exact .inr (.inl h)
          · exact .inl h
          · exact .inr (.inr h)
      · rw [ins_wei (fun h => (l2 y).1 h |>.elim (fun ha => h3 y ha (by simp)) n1), l3]
        simp only [wei, List.map_cons, List.sum_cons]
        omega
  obtain ⟨l, l1, l2, l3⟩ := key b (asc_nodup hb) hb1 hd
  rw [← l3, ← all_wei]
  refine wei_le hc l1 ?_ fun x hx => ?_
  · rw [List.pairwise_map]
    exact List.pairwise_lt_range.imp fun h => by omega
  · have : 0 ≤ x ∧ x < c.length := ((l2 x).1 hx).elim (ha1 x) (hb1 x)
    exact List.mem_map.2 ⟨x.toNat, List.mem_range.2 (by omega), by omega⟩
theorem wei_but {c : List Int} {b : Int} : ∀ {a : List Int}, a.Nodup → wei c a = wei c (a.filter fun m => m != b) + if b ∈ a then c.getD b.toNat 0 else 0
  | [], _ => by simp [wei]
  | x :: l, h => by
    obtain ⟨h1, h2⟩ := List.nodup_cons.1 h
    have ih := wei_but (c := c) (b := b) h2
    by_cases e : x = b
    · subst e
      rw [if_neg h1] at ih
      rw [if_pos (by simp), List.filter_cons, if_neg (by simp)]
      simp only [wei, List.map_cons, List.sum_cons] at ih ⊢
      omega
    · rw [List.filter_cons, if_pos (by simpa using e)]
      have : (b ∈ x :: l) = (b ∈ l) := by simp [Ne.symm e]
      simp only [this]
      simp only [wei, List.map_cons, List.sum_cons] at ih ⊢
      omega
/-- two quorums have a correct member in common -/
theorem quo_meet {c a b : List Int} {bad : Int} (hc : comV c = true) (hbad : badS c bad = true) (ha : mems c a = true) (hb : mems c b = true) (h1 : quo c ≤ wei c a) (h2 : quo c ≤ wei c b) : both bad a b = true := by
  cases hbo : both bad a b with
  | true => rfl
  | false =>
    exfalso
    have hno : ∀ m ∈ a, m ≠ bad → m ∉ b := fun m hm hne hmb => by
      have := both_iff.2 ⟨m, hne, hm, hmb⟩
      rw [hbo] at this
      cases this
    have a1 := mems_asc ha
    have a2 := mems_in ha
    have hp := (comV_iff.1 hc).1
    have hw := wei_but (c := c) (b := bad) (asc_nodup a1)
    have ht := two_wei (c := c) (a := a.filter fun m => m != bad) (b := b) (fun x hx => by have := hp x hx; omega) (a1.filter _) (mems_asc hb) (fun x hx => a2 x ((List.mem_filter.1 hx).1)) (mems_in hb) fun x hx => hno x ((List.mem_filter.1 hx).1) (by simpa using (List.mem_filter.1 hx).2)
    have hf := fau_bd hc
    have hle : (if bad ∈ a then c.getD bad.toNat 0 else 0) ≤ fau c := by
      split
      · rename_i hm
        rcases badS_iff.1 hbad with h | ⟨-, h⟩
        · have := a2 _ hm; omega
        · exact h
      · exact hf.1
    have hq : quo c = 2 * tot c / 3 + 1 := by
      have := tot_bd hc
      unfold quo
      rw [Int.tdiv_eq_ediv_of_nonneg (by omega)]
    omega
theorem done_slot {w : Wrl} (hw : WOK w) {i k : Nat} {p q : Ppl} (hk : k < i) (hp : w.props[i]? = some p) (hq : w.props[k]? = some q) (d1 : don w.com p = true) (d2 : don w.com q = true) (h1 : p.v.round = q.v.round) (h2 : p.v.author = q.v.author) : False := by
  have h := (fit_two hw hk hp hq h1 h2).2
  have m1 := (one_of hw (List.mem_of_getElem? hp)).2
  have m2 := (one_of hw (List.mem_of_getElem? hq)).2
  rw [quo_meet hw.com hw.bad m1 m2 (by simpa [don] using d1) (by simpa [don] using d2)] at h
  cases h
/-- the members of both -/
def comm (a b : List Int) : List Int := a.filter fun m => b.contains m
theorem comm_bad {w : Wrl} (hw : WOK w) {i k : Nat} {p q : Ppl} (hk : k < i) (hp : w.props[i]? = some p) (hq : w.props[k]? = some q) (h1 : p.v.round = q.v.round) (h2 : p.v.author = q.v.author) : comm p.members q.members = [] ∨ comm p.members q.members = [w.bad] := by
  have h := (fit_two hw hk hp hq h1 h2).2
  have hall : ∀ m ∈ comm p.members q.members, m = w.bad := fun m hm => by
    obtain ⟨a1, a2⟩ := List.mem_filter.1 hm
    by_cases e : m = w.bad
    · exact e
    · rw [both_iff.2 ⟨m, e, a1, by simpa using a2⟩] at h
      cases h
  have ha : (comm p.members q.members).Pairwise (· < ·) := (mems_asc (one_of hw (List.mem_of_getElem? hp)).2).filter _
  generalize comm p.members q.members = l at *
  match l, hall, ha with
  | [], _, _ => exact .inl rfl
  | [x], hall, _ => exact .inr (by rw [hall x (by simp)])
  | x :: y :: l, hall, ha =>
    have h1 := hall x (by simp)
    have h2 := hall y (by simp)
    have := (List.pairwise_cons.1 ha).1 y (by simp)
    omega
end Go.Proofs.YtapkflbaenbgiaaGreat.Am
