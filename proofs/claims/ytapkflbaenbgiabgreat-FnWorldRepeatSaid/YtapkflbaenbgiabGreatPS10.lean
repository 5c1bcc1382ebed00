/- What is drawn for runs: whole runs, runs that are often invalid. Certified proposals: the law FnWorldCertified. Runs: the reference's WorldDo and WorldPlay; what is drawn for them. Runs: quorums meet; what is held of valid runs. The laws of runs: single events. Runs: what single events leave (plain laws). The laws of runs: what is proposed, voted for, certified. The laws of runs: single events, repeated, unknown, and what they keep. -/
import Derived.Test.YtapkflbaenbgiabGreatPS9
namespace Go.Proofs.YtapkflbaenbgiabGreat.Am
set_option linter.unusedSimpArgs false
set_option linter.unusedVariables false
open Go
attribute [local irreducible] Mk Need Ari Get Idx Cnd CallM CallA Opt Unch At ConV
set_option maxRecDepth 10000
theorem scpo_c (w : Wrl) (h : WOK w) : ConV Tryz.prog 29 [wrlA w] [] (.agg [.ref 4, .ref 5, .int .i64 w.bad, .ref 6, .ref 7]) [(4, .row 3 (.int .i64) w.com), (5, .row 3 (.int .i64) w.lead), (6, .row 37 (.lst .vtx) w.views), (7, .row 43 .ppl w.props)] := by
  have h7 := h.len
  have hvl := h.vlen
  have hpl := h.plen
  have hll := (leaS_iff.1 h.lead).2
  refine con_eq Θ_ok Tryz.func29 rfl rfl false 0 4 rfl rfl rfl rfl fun K hK hb1 hb2 => ?_; simp only [argsV, enc, Nat.reduceAdd]
  clear hb1 hb2
  (repeat (any_goals (first | refine st ?_ | ((first | refine go2 fun xe hxe => ?_ | with_reducible refine cnd_d (fun hq => ?_) fun hq => ?_) <;> conv => whnf) | ((with_reducible refine cnd_i (fun hq => ?_) fun hq => ?_) <;> ((try simp only [hqs] at hq) <;> (first | omega | conv => whnf))))))
  refine at_loop hK [] [1, 2, 3, 4] (fun i : Nat => ⟨[(1, .ptr 4 0), (2, .ptr 5 0), (3, .ptr 6 0), (4, .int .i64 (i : Int))], [(4, .var 27 (wrlA w).cells), (5, .var 27 wZv), (6, .var 27 [.ref 7, .ref 8, .int .i64 w.bad, .ref 9, .ref 10]), (7, .row 3 (.int .i64) w.com), (8, .row 3 (.int .i64) w.lead), (9, .row 37 (.lst .vtx) (w.views.take i)), (10, .row 43 .ppl [])], 11⟩) (fun i => i ≤ w.views.length) (fun i => w.views.length - i) 0 (by omega) rfl ?_
  intro i hi
  by_cases hlt : i < w.views.length
  · have hxe : w.views[i]? = some w.views[i] := List.getElem?_eq_getElem hlt
    have hsn : w.views.take (i + 1) = w.views.take i ++ [w.views[i]] := List.take_succ_eq_append_getElem hlt
    have hgm := List.getElem_mem hlt
    have hC := scopy_c w.views[i] (by have := h.vl _ hgm; omega) fun v hv => by have := h.par (h.vv _ hgm v hv); omega
    have hl1 : (w.views.take i).length = i := by rw [List.length_take]; omega
    generalize w.views[i] = g at *
    generalize w.views.take i = l at *
    (repeat (any_goals (first | refine st ?_ | ((first | refine go2 fun xe hxe => ?_ | with_reducible refine cnd_d (fun hq => ?_) fun hq => ?_) <;> conv => whnf) | ((with_reducible refine cnd_i (fun hq => ?_) fun hq => ?_) <;> ((try simp only [hqs] at hq) <;> (first | omega | conv => whnf))) | refine cr (hC) ?_)))
    exact ⟨i + 1, by omega, by omega, by rw [hsn]; rfl⟩
  rw [List.take_of_length_le (by omega)]
  (repeat (any_goals (first | refine st ?_ | ((first | refine go2 fun xe hxe => ?_ | with_reducible refine cnd_d (fun hq => ?_) fun hq => ?_) <;> conv => whnf) | ((with_reducible refine cnd_i (fun hq => ?_) fun hq => ?_) <;> ((try simp only [hqs] at hq) <;> (first | omega | conv => whnf))))))
  refine at_loop hK [] [1, 2, 3, 5] (fun i : Nat => ⟨[(1, .ptr 4 0), (2, .ptr 5 0), (3, .ptr 6 0), (5, .int .i64 (i : Int))], [(4, .var 27 (wrlA w).cells), (5, .var 27 wZv), (6, .var 27 [.ref 7, .ref 8, .int .i64 w.bad, .ref 9, .ref 10]), (7, .row 3 (.int .i64) w.com), (8, .row 3 (.int .i64) w.lead), (9, .row 37 (.lst .vtx) w.views), (10, .row 43 .ppl (w.props.take i))], 11⟩) (fun i => i ≤ w.props.length) (fun i => w.props.length - i) 0 (by omega) rfl ?_
  intro k hk
  by_cases hkl : k < w.props.length
  · have hxe : w.props[k]? = some w.props[k] := List.getElem?_eq_getElem hkl
    have hsn : w.props.take (k + 1) = w.props.take k ++ [w.props[k]] := List.take_succ_eq_append_getElem hkl
    have hpm := List.getElem_mem hkl
    have hC := sone_c w.props[k].v (by have := h.par (h.pv _ hpm).1; omega)
    have hm := h.mem _ hpm
    have hl1 : (w.props.take k).length = k := by rw [List.length_take]; omega
    generalize w.props[k] = p at *
    generalize w.props.take k = l at *
    (repeat (any_goals (first | refine st ?_ | ((first | refine go2 fun xe hxe => ?_ | with_reducible refine cnd_d (fun hq => ?_) fun hq => ?_) <;> conv => whnf) | ((with_reducible refine cnd_i (fun hq => ?_) fun hq => ?_) <;> ((try simp only [hqs] at hq) <;> (first | omega | conv => whnf))) | refine cr (hC) ?_)))
    exact ⟨k + 1, by omega, by omega, by rw [hsn]; rfl⟩
  · (repeat (any_goals (first | refine st ?_ | ((first | refine go2 fun xe hxe => ?_ | with_reducible refine cnd_d (fun hq => ?_) fun hq => ?_) <;> conv => whnf) | ((with_reducible refine cnd_i (fun hq => ?_) fun hq => ?_) <;> ((try simp only [hqs] at hq) <;> (first | omega | conv => whnf))))))
    rw [List.take_of_length_le (by omega)]
    exact ⟨rfl, rfl⟩
theorem evtZ_do (w : Wrl) (z : Bool) (e : Evt) (h : WOK w) (hvl : e.v.parents.length ≤ 30) (hz : z = true → e.v.parents = []) : ConV Tryz.prog 30 [wrlA w, .agg [.int .i64 e.kind, .int .i64 e.a, .int .i64 e.b, .int .i64 e.v.round, .int .i64 e.v.author, .lst (.int .i64) e.v.parents, .int .i64 e.v.digest]] [] (wrlA (sDo w e)) [] :=
  sdo_c w e h (by omega)
set_option maxHeartbeats 1000000 in
theorem dwld_c (b : List Int) (p : Int) (h : rdOK b 0) (hp : 0 ≤ p ∧ p ≤ 500000) : ∃ x : Wrl × Int, (p ≤ x.2 ∧ x.2 ≤ p + 6000 ∧ WOK x.1) ∧ ConV Tryz.prog 22 [.ptr 4 0] [(4, rdB b p)] (wrlA x.1) [(4, rdB b x.2)] := by
  obtain ⟨⟨w0, q⟩, ⟨h1, h2, h3⟩, hB⟩ := dbeg_c b p h (by omega)
  dsimp only at h1 h2 h3 hB
  obtain ⟨m, hm, hmc⟩ := pk_c b q 3 h (by omega) (by omega)
  obtain ⟨r, hr, hrc⟩ := pk_c b (q + 1) 5 h (by omega) (by omega)
  obtain ⟨r, rfl⟩ : ∃ k : Nat, (k : Int) = r := ⟨r.toNat, by omega⟩
  have hC := scalm_c w0 r h3 (by omega)
  have hco := calmTo_ok h3 r
  suffices hs : ∃ r hout, (∃ x : Wrl × Int, (p ≤ x.2 ∧ x.2 ≤ p + 6000 ∧ WOK x.1) ∧ r = wrlA x.1 ∧ hout = [(4, rdB b x.2)]) ∧ ConV Tryz.prog 22 [.ptr 4 0] [(4, rdB b p)] r hout by
    obtain ⟨r, hout, ⟨v, hv, rfl, rfl⟩, h⟩ := hs
    exact ⟨v, hv, h⟩
  refine con_ex Θ_ok Tryz.func22 rfl rfl true 1 5 rfl rfl rfl rfl (R := fun r hout => ∃ x : Wrl × Int, (p ≤ x.2 ∧ x.2 ≤ p + 6000 ∧ WOK x.1) ∧ r = wrlA x.1 ∧ hout = [(4, rdB b x.2)]) (r0 := wrlA w0) (hout0 := [(4, rdB b p)]) (⟨(w0, p), ⟨by dsimp only; omega, by dsimp only; omega, h3⟩, rfl, rfl⟩) fun K hK hb1 hb2 => ?_; simp only [argsV, enc, Nat.reduceAdd]
  clear hb1 hb2
  generalize calmTo w0 r = w1 at *
  have body : ∀ (K : Id → Prop) (c : Code) (i : Nat) (w : Wrl) (q2 : Int), True := fun _ _ _ _ _ => trivial
  by_cases hm0 : 0 < m
  · (repeat (any_goals (first | refine st ?_ | ((first | refine go2 fun xe hxe => ?_ | with_reducible refine cnd_d (fun hq => ?_) fun hq => ?_) <;> conv => whnf) | ((with_reducible refine cnd_i (fun hq => ?_) fun hq => ?_) <;> ((try simp only [hqs] at hq) <;> (first | omega | conv => whnf))) | refine cr (hmc) ?_ | refine cr (hrc) ?_ | refine cr (hC) ?_ | refine co (hB) ?_)))
    refine at_loop hK [] [0, 2, 3, 4] (fun x : Nat × Wrl × Int => ⟨[(0, .ptr 4 0), (2, .ptr 5 0), (3, .ptr 6 0), (4, .int .i64 x.1)], [(4, rdB b x.2.2), (5, .var 27 wZv), (6, .var 27 (wrlA x.2.1).cells)], 7⟩)
      (fun x => x.1 ≤ 69 ∧ WOK x.2.1 ∧ p ≤ x.2.2 ∧ x.2.2 ≤ p + 100 + 61 * x.1) (fun x => 70 - x.1) (0, w1, q + 1 + 1) ⟨by dsimp only; omega, hco, by dsimp only; omega, by dsimp only; omega⟩ rfl ?_
    rintro ⟨i, w, q2⟩ ⟨hi1, hi2, hi3, hi4⟩
    dsimp only at hi1 hi2 hi3 hi4 ⊢
    obtain ⟨n, hn, hnc⟩ := pk_c b q2 70 h (by omega) (by omega)
    obtain ⟨⟨⟨z, e⟩, q3⟩, ⟨e1, e2, e3, e4⟩, hE⟩ := devt_c b (q2 + 1) w h (by omega) hi2
    dsimp only at e1 e2 e3 e4 hE
    have hD := evtZ_do w z e hi2 e3 e4
    have hdo := sDo_ok hi2 e
    by_cases hlt : (i : Int) < n
    · cases z with
      | false =>
        have hE : ConV Tryz.prog 23 [.ptr 4 0, wrlA w] [(4, rdB b (q2 + 1))] (evtA e) [(4, rdB b q3)] := hE
        generalize sDo w e = w2 at *
        (repeat (any_goals (first | refine st ?_ | ((first | refine go2 fun xe hxe => ?_ | with_reducible refine cnd_d (fun hq => ?_) fun hq => ?_) <;> conv => whnf) | ((with_reducible refine cnd_i (fun hq => ?_) fun hq => ?_) <;> ((try simp only [hqs] at hq) <;> (first | omega | conv => whnf))) | refine cr (hnc) ?_ | refine cr (hD) ?_ | refine co (hE) ?_)))
        exact ⟨(i + 1, w2, q3), ⟨by dsimp only; omega, hdo, by dsimp only; omega, by dsimp only; omega⟩, by dsimp only; omega, rfl⟩
      | true =>
        have hE : ConV Tryz.prog 23 [.ptr 4 0, wrlA w] [(4, rdB b (q2 + 1))] (.agg [.int .i64 e.kind, .int .i64 e.a, .int .i64 e.b, .int .i64 e.v.round, .int .i64 e.v.author, .nils, .int .i64 e.v.digest]) [(4, rdB b q3)] := hE
        rw [e4 rfl] at hD
        generalize sDo w e = w2 at *
        (repeat (any_goals (first | refine st ?_ | ((first | refine go2 fun xe hxe => ?_ | with_reducible refine cnd_d (fun hq => ?_) fun hq => ?_) <;> conv => whnf) | ((with_reducible refine cnd_i (fun hq => ?_) fun hq => ?_) <;> ((try simp only [hqs] at hq) <;> (first | omega | conv => whnf))) | refine cr (hnc) ?_ | refine cr (hD) ?_ | refine co (hE) ?_)))
        exact ⟨(i + 1, w2, q3), ⟨by dsimp only; omega, hdo, by dsimp only; omega, by dsimp only; omega⟩, by dsimp only; omega, rfl⟩
    · (repeat (any_goals (first | refine st ?_ | ((first | refine go2 fun xe hxe => ?_ | with_reducible refine cnd_d (fun hq => ?_) fun hq => ?_) <;> conv => whnf) | ((with_reducible refine cnd_i (fun hq => ?_) fun hq => ?_) <;> ((try simp only [hqs] at hq) <;> (first | omega | conv => whnf))) | refine cr (hnc) ?_)))
      exact ⟨(w, q2 + 1), ⟨by dsimp only; omega, by dsimp only; omega, hi2⟩, rfl, rfl⟩
  · (repeat (any_goals (first | refine st ?_ | ((first | refine go2 fun xe hxe => ?_ | with_reducible refine cnd_d (fun hq => ?_) fun hq => ?_) <;> conv => whnf) | ((with_reducible refine cnd_i (fun hq => ?_) fun hq => ?_) <;> ((try simp only [hqs] at hq) <;> (first | omega | conv => whnf))) | refine cr (hmc) ?_ | refine co (hB) ?_)))
    refine at_loop hK [] [0, 2, 3, 4] (fun x : Nat × Wrl × Int => ⟨[(0, .ptr 4 0), (2, .ptr 5 0), (3, .ptr 6 0), (4, .int .i64 x.1)], [(4, rdB b x.2.2), (5, .var 27 wZv), (6, .var 27 (wrlA x.2.1).cells)], 7⟩)
      (fun x => x.1 ≤ 69 ∧ WOK x.2.1 ∧ p ≤ x.2.2 ∧ x.2.2 ≤ p + 100 + 61 * x.1) (fun x => 70 - x.1) (0, w0, q + 1) ⟨by dsimp only; omega, h3, by dsimp only; omega, by dsimp only; omega⟩ rfl ?_
    rintro ⟨i, w, q2⟩ ⟨hi1, hi2, hi3, hi4⟩
    dsimp only at hi1 hi2 hi3 hi4 ⊢
    obtain ⟨n, hn, hnc⟩ := pk_c b q2 70 h (by omega) (by omega)
    obtain ⟨⟨⟨z, e⟩, q3⟩, ⟨e1, e2, e3, e4⟩, hE⟩ := devt_c b (q2 + 1) w h (by omega) hi2
    dsimp only at e1 e2 e3 e4 hE
    have hD := evtZ_do w z e hi2 e3 e4
    have hdo := sDo_ok hi2 e
    by_cases hlt : (i : Int) < n
    · cases z with
      | false =>
        have hE : ConV Tryz.prog 23 [.ptr 4 0, wrlA w] [(4, rdB b (q2 + 1))] (evtA e) [(4, rdB b q3)] := hE
        generalize sDo w e = w2 at *
        (repeat (any_goals (first | refine st ?_ | ((first | refine go2 fun xe hxe => ?_ | with_reducible refine cnd_d (fun hq => ?_) fun hq => ?_) <;> conv => whnf) | ((with_reducible refine cnd_i (fun hq => ?_) fun hq => ?_) <;> ((try simp only [hqs] at hq) <;> (first | omega | conv => whnf))) | refine cr (hnc) ?_ | refine cr (hD) ?_ | refine co (hE) ?_)))
        exact ⟨(i + 1, w2, q3), ⟨by dsimp only; omega, hdo, by dsimp only; omega, by dsimp only; omega⟩, by dsimp only; omega, rfl⟩
      | true =>
        have hE : ConV Tryz.prog 23 [.ptr 4 0, wrlA w] [(4, rdB b (q2 + 1))] (.agg [.int .i64 e.kind, .int .i64 e.a, .int .i64 e.b, .int .i64 e.v.round, .int .i64 e.v.author, .nils, .int .i64 e.v.digest]) [(4, rdB b q3)] := hE
        rw [e4 rfl] at hD
        generalize sDo w e = w2 at *
        (repeat (any_goals (first | refine st ?_ | ((first | refine go2 fun xe hxe => ?_ | with_reducible refine cnd_d (fun hq => ?_) fun hq => ?_) <;> conv => whnf) | ((with_reducible refine cnd_i (fun hq => ?_) fun hq => ?_) <;> ((try simp only [hqs] at hq) <;> (first | omega | conv => whnf))) | refine cr (hnc) ?_ | refine cr (hD) ?_ | refine co (hE) ?_)))
        exact ⟨(i + 1, w2, q3), ⟨by dsimp only; omega, hdo, by dsimp only; omega, by dsimp only; omega⟩, by dsimp only; omega, rfl⟩
    · (repeat (any_goals (first | refine st ?_ | ((first | refine go2 fun xe hxe => ?_ | with_reducible refine cnd_d (fun hq => ?_) fun hq => ?_) <;> conv => whnf) | ((with_reducible refine cnd_i (fun hq => ?_) fun hq => ?_) <;> ((try simp only [hqs] at hq) <;> (first | omega | conv => whnf))) | refine cr (hnc) ?_)))
      exact ⟨(w, q2 + 1), ⟨by dsimp only; omega, by dsimp only; omega, hi2⟩, rfl, rfl⟩
/-- small enough to be looked at -/
def WSm (w : Wrl) : Prop := w.com.length ≤ 1000 ∧ ∀ g ∈ w.views, g.length ≤ 1000
theorem WOK.sm {w : Wrl} (h : WOK w) : WSm w := ⟨by have := h.len; omega, fun g hg => by have := h.vl g hg; omega⟩
theorem cut_mem {α : Type} {xs : List α} {lo hi : Option V} {a b : Nat} {x : α} (h : x ∈ cutL xs lo hi a b) : x ∈ xs := by
  unfold cutL at h
  split at h
  · exact h
  · exact List.mem_of_mem_take h
  · exact List.mem_of_mem_drop h
  · exact List.mem_of_mem_take (List.mem_of_mem_drop h)
theorem cut_len {α : Type} (xs : List α) (lo hi : Option V) (a b : Nat) : (cutL xs lo hi a b).length ≤ xs.length := by
  unfold cutL
  split
  · omega
  · rw [List.length_take]; omega
  · rw [List.length_drop]; omega
  · rw [List.length_drop, List.length_take]; omega
theorem wsm_cut {vs : List (List Vtx)} {lo hi : Option V} {a b : Nat} (h : ∀ g ∈ vs, g.length ≤ 1000) : ∀ g ∈ cutL vs lo hi a b, g.length ≤ 1000 := fun g hg => h g (cut_mem hg)
theorem wsm_set {vs : List (List Vtx)} {k k2 : Nat} {g0 : List Vtx} {lo hi : Option V} {a b : Nat} (h : ∀ g ∈ vs, g.length ≤ 1000) (hx : vs[k2]? = some g0) : ∀ g ∈ vs.set k (cutL g0 lo hi a b), g.length ≤ 1000 := fun g hg => by
  rcases mem_set hg with rfl | hg
  · have h1 := cut_len g0 lo hi a b
    have h2 := h g0 (List.mem_of_getElem? hx)
    omega
  · exact h g hg
theorem wrg_i {b : List Int} {p q : Int} {c l : List Int} {bd : Int} {vs : List (List Vtx)} {ps : List Ppl} (h1 : p ≤ q ∧ q ≤ p + 6100) (h2 : c.length ≤ 1000) (h3 : ∀ g ∈ vs, g.length ≤ 1000) : ∃ x : Wrl × Int, (p ≤ x.2 ∧ x.2 ≤ p + 6100 ∧ WSm x.1) ∧ V.agg [.lst (.int .i64) c, .lst (.int .i64) l, .int .i64 bd, .lst (.lst .vtx) vs, .lst .ppl ps] = wrlA x.1 ∧ ([(4, rdB b q)] : VH) = [(4, rdB b x.2)] := ⟨(⟨c, l, bd, vs, ps⟩, q), ⟨h1.1, h1.2, h2, h3⟩, rfl, rfl⟩
set_option maxHeartbeats 1000000 in
theorem dwrg_c (b : List Int) (p : Int) (h : rdOK b 0) (hp : 0 ≤ p ∧ p ≤ 400000) : ∃ x : Wrl × Int, (p ≤ x.2 ∧ x.2 ≤ p + 6100 ∧ WSm x.1) ∧ ConV Tryz.prog 25 [.ptr 4 0] [(4, rdB b p)] (wrlA x.1) [(4, rdB b x.2)] := by
  obtain ⟨⟨w, q⟩, ⟨h1, h2, h3⟩, hB⟩ := dwld_c b p h (by omega)
  dsimp only at h1 h2 h3 hB
  have hC := scpo_c w h3
  have h7 := h3.len
  have hvl := h3.vlen
  have hpl := h3.plen
  have hll := (leaS_iff.1 h3.lead).2
  have hsm := h3.sm
  suffices hs : ∃ r hout, (∃ x : Wrl × Int, (p ≤ x.2 ∧ x.2 ≤ p + 6100 ∧ WSm x.1) ∧ r = wrlA x.1 ∧ hout = [(4, rdB b x.2)]) ∧ ConV Tryz.prog 25 [.ptr 4 0] [(4, rdB b p)] r hout by
    obtain ⟨r, hout, ⟨v, hv, rfl, rfl⟩, h⟩ := hs
    exact ⟨v, hv, h⟩
  refine con_ex Θ_ok Tryz.func25 rfl rfl true 1 5 rfl rfl rfl rfl (R := fun r hout => ∃ x : Wrl × Int, (p ≤ x.2 ∧ x.2 ≤ p + 6100 ∧ WSm x.1) ∧ r = wrlA x.1 ∧ hout = [(4, rdB b x.2)]) (r0 := wrlA w) (hout0 := [(4, rdB b p)]) (⟨(w, p), ⟨by dsimp only; omega, by dsimp only; omega, hsm⟩, rfl, rfl⟩) fun K hK hb1 hb2 => ?_; simp only [argsV, enc, Nat.reduceAdd]
  clear hb1 hb2
  (repeat (any_goals (first | refine st ?_ | ((first | refine go2 fun xe hxe => ?_ | with_reducible refine cnd_d (fun hq => ?_) fun hq => ?_) <;> conv => whnf) | ((with_reducible refine cnd_i (fun hq => ?_) fun hq => ?_) <;> ((try simp only [hqs] at hq) <;> (first | omega | conv => whnf))) | refine cr (hC) ?_ | ((with_reducible refine call_r ?_); (conv => whnf); (first | refine call_ex (pk_c b _ _ h (by omega) (by omega)) fun xv hxv => ?_ | refine call_ex (ddig_c b _ h (by omega)) fun xv hxv => ?_ | refine call_ex (dmem_c b _ _ h (by omega) (by omega)) fun xv hxv => ?_); conv => whnf) | refine co (hB) ?_)))
  all_goals refine wrg_i ?_ ?_ ?_
  all_goals first | omega | (rw [List.length_set]; omega) | omega | exact hsm.2 | exact wsm_cut hsm.2 | exact wsm_set hsm.2 hxe | (exact wsm_set hsm.2 (by assumption))
end Go.Proofs.YtapkflbaenbgiabGreat.Am
namespace Go.Proofs.YtapkflbaenbgiabGreat.Am
set_option linter.unusedSimpArgs false
set_option linter.unusedVariables false
open Go
attribute [local irreducible] Mk Need Ari Get Idx Cnd CallM CallA Opt Unch At ConV
set_option maxRecDepth 10000
theorem hasI_c (l : List Int) (n : Int) : ConV Tryz.prog 37 [.lst (.int .i64) l, .int .i64 n] [] (.bool (l.contains n)) [] := by
  refine con_eq Θ_ok Tryz.func37 rfl rfl false 0 4 rfl rfl rfl rfl fun K hK hb1 hb2 => ?_; simp only [argsV, enc, Nat.reduceAdd]
  simp [toDL, V.toD, bnd, encD, D.cells] at hb1
  (repeat (any_goals (first | refine st ?_ | ((first | refine go2 fun xe hxe => ?_ | with_reducible refine cnd_d (fun hq => ?_) fun hq => ?_) <;> conv => whnf) | ((with_reducible refine cnd_i (fun hq => ?_) fun hq => ?_) <;> ((try simp only [hqs] at hq) <;> (first | omega | conv => whnf))))))
  refine at_loop hK [] [0, 1, 5] (fun i : Nat => ⟨[(0, .lst (.int .i64) l), (1, .int .i64 n), (5, .int .i64 i)], [], 4⟩) (fun i => i ≤ l.length ∧ ∀ y ∈ l.take i, (y == n) = false) (fun i => l.length - i) 0 ⟨by simp, by simp⟩ rfl ?_
  rintro i ⟨hi, hall⟩
  by_cases hlt : i < l.length
  · have hxe : l[i]? = some l[i] := List.getElem?_eq_getElem hlt
    have hsn : l.take (i + 1) = l.take i ++ [l[i]] := List.take_succ_eq_append_getElem hlt
    have hm : l[i] ∈ l := List.getElem_mem hlt
    generalize l[i] = x at *
    by_cases h : x = n
    · subst h
      (repeat (any_goals (first | refine st ?_ | ((first | refine go2 fun xe hxe => ?_ | with_reducible refine cnd_d (fun hq => ?_) fun hq => ?_) <;> conv => whnf) | ((with_reducible refine cnd_i (fun hq => ?_) fun hq => ?_) <;> ((try simp only [hqs] at hq) <;> (first | omega | conv => whnf))))))
      · rw [List.contains_iff_mem.2 hm]
        exact ⟨rfl, rfl⟩
      · exact absurd trivial hq
    · (repeat (any_goals (first | refine st ?_ | ((first | refine go2 fun xe hxe => ?_ | with_reducible refine cnd_d (fun hq => ?_) fun hq => ?_) <;> conv => whnf) | ((with_reducible refine cnd_i (fun hq => ?_) fun hq => ?_) <;> ((try simp only [hqs] at hq) <;> (first | omega | conv => whnf))))))
      exact ⟨i + 1, ⟨by omega, by rw [hsn]; exact tk_snoc hall (by simpa using h)⟩, by omega, rfl⟩
  · (repeat (any_goals (first | refine st ?_ | ((first | refine go2 fun xe hxe => ?_ | with_reducible refine cnd_d (fun hq => ?_) fun hq => ?_) <;> conv => whnf) | ((with_reducible refine cnd_i (fun hq => ?_) fun hq => ?_) <;> ((try simp only [hqs] at hq) <;> (first | omega | conv => whnf))))))
    rw [List.take_of_length_le (by omega)] at hall
    have : l.contains n = false := by
      rw [Bool.eq_false_iff]
      intro h
      have := hall _ (List.contains_iff_mem.1 h)
      simp at this
    rw [this]
    exact ⟨rfl, rfl⟩
end Go.Proofs.YtapkflbaenbgiabGreat.Am
namespace Go.Proofs.YtapkflbaenbgiabGreat.Am
set_option linter.unusedSimpArgs false
set_option linter.unusedVariables false
open Go
attribute [local irreducible] Mk Need Ari Get Idx Cnd CallM CallA Opt Unch At ConV
set_option maxRecDepth 10000
theorem swdo_c (w : Wrl) (e : Evt) (hl : w.com.length ≤ 2000000) (hvl : e.v.parents.length ≤ 1000000) : ConV Tryz.prog 11 [wrlA w, evtA e] [] (if wrlS w then wrlA (sDo w e) else wrlZ) [] := by
  have hV := swV_c w hl
  refine con_eq Θ_ok Tryz.func11 rfl rfl true 0 4 rfl rfl rfl rfl fun K hK hb1 hb2 => ?_; simp only [argsV, enc, Nat.reduceAdd]
  clear hb1 hb2
  cases hs : wrlS w
  · rw [hs] at hV
    (repeat (any_goals (first | refine st ?_ | ((first | refine go2 fun xe hxe => ?_ | with_reducible refine cnd_d (fun hq => ?_) fun hq => ?_) <;> conv => whnf) | ((with_reducible refine cnd_i (fun hq => ?_) fun hq => ?_) <;> ((try simp only [hqs] at hq) <;> (first | omega | conv => whnf))) | refine cr (hV) ?_)))
    exact ⟨rfl, rfl⟩
  · rw [hs] at hV
    have hw := wok_iff.1 hs
    have hD := sdo_c w e hw hvl
    have hC := scpy_c _ (sDo_ok hw e)
    generalize sDo w e = u at *
    (repeat (any_goals (first | refine st ?_ | ((first | refine go2 fun xe hxe => ?_ | with_reducible refine cnd_d (fun hq => ?_) fun hq => ?_) <;> conv => whnf) | ((with_reducible refine cnd_i (fun hq => ?_) fun hq => ?_) <;> ((try simp only [hqs] at hq) <;> (first | omega | conv => whnf))) | refine cr (hV) ?_ | refine cr (hD) ?_ | refine cr (hC) ?_)))
    exact ⟨rfl, rfl⟩
theorem swpl_c (w : Wrl) (es : List Evt) (hl : w.com.length ≤ 2000000) (hel : es.length ≤ 1000000) (hvl : ∀ e ∈ es, e.v.parents.length ≤ 1000000) : ConV Tryz.prog 20 [wrlA w, .lst .evt es] [] (if decide (es.length ≤ 80) && wrlS w then .tup [wrlA (sPlay w es), .bool true] else .tup [wrlZ, .bool false]) [] := by
  have hV := swV_c w hl
  refine con_eq Θ_ok Tryz.func20 rfl rfl true 0 4 rfl rfl rfl rfl fun K hK hb1 hb2 => ?_; simp only [argsV, enc, Nat.reduceAdd]
  clear hb1 hb2
  cases hs : wrlS w
  · rw [hs] at hV
    (repeat (any_goals (first | refine st ?_ | ((first | refine go2 fun xe hxe => ?_ | with_reducible refine cnd_d (fun hq => ?_) fun hq => ?_) <;> conv => whnf) | ((with_reducible refine cnd_i (fun hq => ?_) fun hq => ?_) <;> ((try simp only [hqs] at hq) <;> (first | omega | conv => whnf))) | refine cr (hV) ?_)))
    rw [Bool.and_false]
    exact ⟨rfl, rfl⟩
  · rw [hs] at hV
    have hw := wok_iff.1 hs
    by_cases h80 : 80 < (es.length : Int)
    · (repeat (any_goals (first | refine st ?_ | ((first | refine go2 fun xe hxe => ?_ | with_reducible refine cnd_d (fun hq => ?_) fun hq => ?_) <;> conv => whnf) | ((with_reducible refine cnd_i (fun hq => ?_) fun hq => ?_) <;> ((try simp only [hqs] at hq) <;> (first | omega | conv => whnf))) | refine cr (hV) ?_)))
      rw [decide_eq_false (p := es.length ≤ 80) (by omega)]
      exact ⟨rfl, rfl⟩
    · rw [decide_eq_true (p := es.length ≤ 80) (by omega), Bool.true_and]
      (repeat (any_goals (first | refine st ?_ | ((first | refine go2 fun xe hxe => ?_ | with_reducible refine cnd_d (fun hq => ?_) fun hq => ?_) <;> conv => whnf) | ((with_reducible refine cnd_i (fun hq => ?_) fun hq => ?_) <;> ((try simp only [hqs] at hq) <;> (first | omega | conv => whnf))) | refine cr (hV) ?_)))
      refine at_loop hK [] [1, 2, 4, 6] (fun i : Nat => ⟨[(1, .lst .evt es), (2, .ptr 4 0), (4, .ptr 5 0), (6, .int .i64 (i : Int))], [(4, .var 27 (wrlA (sPlay w (es.take i))).cells), (5, .var 27 wZv)], 6⟩) (fun i => i ≤ es.length) (fun i => es.length - i) 0 (by simp) rfl ?_
      intro i hi
      have hwi := sPlay_ok hw (es.take i)
      by_cases hlt : i < es.length
      · have hxe : es[i]? = some es[i] := List.getElem?_eq_getElem hlt
        have hsn := sPlay_snoc w (es.take i) es[i]
        rw [← List.take_succ_eq_append_getElem hlt] at hsn
        have hD := sdo_c _ es[i] hwi (hvl _ (List.getElem_mem hlt))
        generalize es[i] = e at *
        generalize sPlay w (es.take i) = u at *
        (repeat (any_goals (first | refine st ?_ | ((first | refine go2 fun xe hxe => ?_ | with_reducible refine cnd_d (fun hq => ?_) fun hq => ?_) <;> conv => whnf) | ((with_reducible refine cnd_i (fun hq => ?_) fun hq => ?_) <;> ((try simp only [hqs] at hq) <;> (first | omega | conv => whnf))) | refine cr (hD) ?_)))
        refine ⟨i + 1, by omega, by omega, ?_⟩
        rw [hsn]
        rfl
      · rw [List.take_of_length_le (by omega)] at hwi ⊢
        have hC := scpy_c _ hwi
        (repeat (any_goals (first | refine st ?_ | ((first | refine go2 fun xe hxe => ?_ | with_reducible refine cnd_d (fun hq => ?_) fun hq => ?_) <;> conv => whnf) | ((with_reducible refine cnd_i (fun hq => ?_) fun hq => ?_) <;> ((try simp only [hqs] at hq) <;> (first | omega | conv => whnf))) | refine cr (hC) ?_)))
        exact ⟨rfl, rfl⟩
theorem ddo_c (c : List Int) (hc : ∀ x ∈ c, 0 ≤ x ∧ x ≤ 255) : ∃ x : Wrl × Bool × Evt, (WSm x.1 ∧ x.2.2.v.parents.length ≤ 30 ∧ (x.2.1 = true → x.2.2.v.parents = [])) ∧ ConV Tryz.prog 9 [.lst (.int .u8) c] [] (.tup [wrlA x.1, evtZ x.2.1 x.2.2]) [] := by
  have h := rd0w hc
  obtain ⟨⟨w, q⟩, ⟨h1, h2, h3⟩, hw⟩ := dwld_c _ 0 h (by omega)
  dsimp only at h1 h2 h3 hw
  obtain ⟨⟨⟨z, e⟩, q3⟩, ⟨e1, e2, e3, e4⟩, hE⟩ := devt_c _ q w h (by omega) h3
  dsimp only at e1 e2 e3 e4 hE
  obtain ⟨n, hn, hnc⟩ := pk_c _ q3 14 h (by omega) (by omega)
  by_cases h0 : n = 0
  · obtain ⟨⟨w2, q4⟩, ⟨g1, g2, g3⟩, hW⟩ := dwrg_c _ (q3 + 1) h (by omega)
    dsimp only at g1 g2 g3 hW
    refine ⟨(w2, z, e), ⟨g3, e3, e4⟩, ?_⟩
    refine con_eq Θ_ok Tryz.func9 rfl rfl true 0 4 rfl rfl rfl rfl fun K hK hb1 hb2 => ?_; simp only [argsV, enc, Nat.reduceAdd]
    clear hb1 hb2
    cases z with
    | false =>
      have hE : ConV Tryz.prog 23 [.ptr 4 0, wrlA w] [(4, rdB (c.take 2000) q)] (evtA e) [(4, rdB (c.take 2000) q3)] := hE
      (repeat (any_goals (first | refine st ?_ | ((first | refine go2 fun xe hxe => ?_ | with_reducible refine cnd_d (fun hq => ?_) fun hq => ?_) <;> conv => whnf) | ((with_reducible refine cnd_i (fun hq => ?_) fun hq => ?_) <;> ((try simp only [hqs] at hq) <;> (first | omega | conv => whnf))) | refine cr (open_c _) ?_ | refine cr (hw) ?_ | refine cr (hnc) ?_ | refine cr (hW) ?_ | refine co (hE) ?_)))
      exact ⟨rfl, rfl⟩
    | true =>
      have hE : ConV Tryz.prog 23 [.ptr 4 0, wrlA w] [(4, rdB (c.take 2000) q)] (.agg [.int .i64 e.kind, .int .i64 e.a, .int .i64 e.b, .int .i64 e.v.round, .int .i64 e.v.author, .nils, .int .i64 e.v.digest]) [(4, rdB (c.take 2000) q3)] := hE
      (repeat (any_goals (first | refine st ?_ | ((first | refine go2 fun xe hxe => ?_ | with_reducible refine cnd_d (fun hq => ?_) fun hq => ?_) <;> conv => whnf) | ((with_reducible refine cnd_i (fun hq => ?_) fun hq => ?_) <;> ((try simp only [hqs] at hq) <;> (first | omega | conv => whnf))) | refine cr (open_c _) ?_ | refine cr (hw) ?_ | refine cr (hnc) ?_ | refine cr (hW) ?_ | refine co (hE) ?_)))
      exact ⟨rfl, rfl⟩
  · refine ⟨(w, z, e), ⟨h3.sm, e3, e4⟩, ?_⟩
    refine con_eq Θ_ok Tryz.func9 rfl rfl true 0 4 rfl rfl rfl rfl fun K hK hb1 hb2 => ?_; simp only [argsV, enc, Nat.reduceAdd]
    clear hb1 hb2
    cases z with
    | false =>
      have hE : ConV Tryz.prog 23 [.ptr 4 0, wrlA w] [(4, rdB (c.take 2000) q)] (evtA e) [(4, rdB (c.take 2000) q3)] := hE
      (repeat (any_goals (first | refine st ?_ | ((first | refine go2 fun xe hxe => ?_ | with_reducible refine cnd_d (fun hq => ?_) fun hq => ?_) <;> conv => whnf) | ((with_reducible refine cnd_i (fun hq => ?_) fun hq => ?_) <;> ((try simp only [hqs] at hq) <;> (first | omega | conv => whnf))) | refine cr (open_c _) ?_ | refine cr (hw) ?_ | refine cr (hnc) ?_ | refine co (hE) ?_)))
      exact ⟨rfl, rfl⟩
    | true =>
      have hE : ConV Tryz.prog 23 [.ptr 4 0, wrlA w] [(4, rdB (c.take 2000) q)] (.agg [.int .i64 e.kind, .int .i64 e.a, .int .i64 e.b, .int .i64 e.v.round, .int .i64 e.v.author, .nils, .int .i64 e.v.digest]) [(4, rdB (c.take 2000) q3)] := hE
      (repeat (any_goals (first | refine st ?_ | ((first | refine go2 fun xe hxe => ?_ | with_reducible refine cnd_d (fun hq => ?_) fun hq => ?_) <;> conv => whnf) | ((with_reducible refine cnd_i (fun hq => ?_) fun hq => ?_) <;> ((try simp only [hqs] at hq) <;> (first | omega | conv => whnf))) | refine cr (open_c _) ?_ | refine cr (hw) ?_ | refine cr (hnc) ?_ | refine co (hE) ?_)))
      exact ⟨rfl, rfl⟩
def EvS (es : List Evt) : Prop := es.length ≤ 100 ∧ ∀ e ∈ es, e.v.parents.length ≤ 30
theorem evs_app {es : List Evt} {e : Evt} (h : ∀ e ∈ es, e.v.parents.length ≤ 30) (he : e.v.parents.length ≤ 30) : ∀ x ∈ es ++ [e], x.v.parents.length ≤ 30 := fun x hx => by
  rcases List.mem_append.1 hx with hx | hx
  · exact h x hx
  · rw [List.mem_singleton.1 hx]; exact he
set_option maxHeartbeats 1000000 in
theorem dpl_c (c : List Int) (hc : ∀ x ∈ c, 0 ≤ x ∧ x ≤ 255) : ∃ x : Wrl × List Evt, (WOK x.1 ∧ EvS x.2) ∧ ConV Tryz.prog 18 [.lst (.int .u8) c] [] (.tup [wrlA x.1, .lst .evt x.2]) [] := by
  have h := rd0w hc
  obtain ⟨⟨w0, q⟩, ⟨h1, h2, h3⟩, hB⟩ := dbeg_c _ 0 h (by omega)
  dsimp only at h1 h2 h3 hB
  suffices hs : ∃ r hout, (∃ x : Wrl × List Evt, (WOK x.1 ∧ EvS x.2) ∧ r = .tup [wrlA x.1, .lst .evt x.2] ∧ hout = []) ∧ ConV Tryz.prog 18 [.lst (.int .u8) c] [] r hout by
    obtain ⟨r, hout, ⟨v, hv, rfl, rfl⟩, h⟩ := hs
    exact ⟨v, hv, h⟩
  refine con_ex Θ_ok Tryz.func18 rfl rfl true 0 4 rfl rfl rfl rfl (R := fun r hout => ∃ x : Wrl × List Evt, (WOK x.1 ∧ EvS x.2) ∧ r = .tup [wrlA x.1, .lst .evt x.2] ∧ hout = []) (r0 := .tup [wrlA w0, .lst .evt []]) (hout0 := []) (⟨(w0, []), ⟨h3, by simp [EvS]⟩, rfl, rfl⟩) fun K hK hb1 hb2 => ?_; simp only [argsV, enc, Nat.reduceAdd]
  clear hb1 hb2
  obtain ⟨m, hm, hmc⟩ := pk_c _ q 2 h (by omega) (by omega)
  obtain ⟨r, hr, hrc⟩ := pk_c _ (q + 1) 4 h (by omega) (by omega)
  have hC := scalm_c w0 r.toNat h3 (by omega)
  rw [show ((r.toNat : Nat) : Int) = r by omega] at hC
  have hco := calmTo_ok h3 r.toNat
  (repeat (any_goals (first | refine stc ?_ | ((first | refine go2 fun xe hxe => ?_ | with_reducible refine cnd_d (fun hq => ?_) fun hq => ?_) <;> conv => whnf) | ((with_reducible refine cnd_i (fun hq => ?_) fun hq => ?_) <;> ((try simp only [hqs] at hq) <;> (first | omega | conv => whnf))) | refine cr (open_c _) ?_ | refine cr (hmc) ?_ | refine co (hB) ?_)))
  refine at_then hK [] [2, 4, 5] (fun x : Wrl × Int => ⟨[(2, .ptr 4 0), (4, .ptr 5 0), (5, .ptr 6 0)], [(4, .var 27 wZv), (5, rdB (c.take 2000) x.2), (6, .var 27 (wrlA x.1).cells)], 7⟩) (fun x => WOK x.1 ∧ 0 ≤ x.2 ∧ x.2 ≤ 100) ?_ ?_
  · by_cases h0 : m = 0
    · (repeat (any_goals (first | refine st ?_ | ((first | refine go2 fun xe hxe => ?_ | with_reducible refine cnd_d (fun hq => ?_) fun hq => ?_) <;> conv => whnf) | ((with_reducible refine cnd_i (fun hq => ?_) fun hq => ?_) <;> ((try simp only [hqs] at hq) <;> (first | omega | conv => whnf))) | refine cr (hrc) ?_ | refine cr (hC) ?_)))
      exact ⟨(calmTo w0 r.toNat, q + 1 + 1), ⟨hco, by dsimp only; omega, by dsimp only; omega⟩, rfl⟩
    · (repeat (any_goals (first | refine st ?_ | ((first | refine go2 fun xe hxe => ?_ | with_reducible refine cnd_d (fun hq => ?_) fun hq => ?_) <;> conv => whnf) | ((with_reducible refine cnd_i (fun hq => ?_) fun hq => ?_) <;> ((try simp only [hqs] at hq) <;> (first | omega | conv => whnf))))))
      exact ⟨(w0, q + 1), ⟨h3, by dsimp only; omega, by dsimp only; omega⟩, rfl⟩
  · rintro ⟨w, p1⟩ ⟨g1, g2, g3⟩
    dsimp only at g1 g2 g3 ⊢
    clear hmc hrc hC hB
    obtain ⟨n, hn, hnc⟩ := pk_c _ p1 60 h (by omega) (by omega)
    obtain ⟨k, hk, hkc⟩ := pk_c _ (p1 + 1) 20 h (by omega) (by omega)
    obtain ⟨j, hj, hjc⟩ := pk_c _ (p1 + 1 + 1) 3 h (by omega) (by omega)
    (repeat (any_goals (first | refine stc ?_ | ((first | refine go2 fun xe hxe => ?_ | with_reducible refine cnd_d (fun hq => ?_) fun hq => ?_) <;> conv => whnf) | ((with_reducible refine cnd_i (fun hq => ?_) fun hq => ?_) <;> ((try simp only [hqs] at hq) <;> (first | omega | conv => whnf))) | refine cr (hnc) ?_ | refine cr (hkc) ?_)))
    refine at_then hK [] [2, 4, 5, 6, 7, 8] (fun x : Int × Int => ⟨[(2, .ptr 4 0), (4, .ptr 5 0), (5, .ptr 6 0), (6, .ptr 7 0), (7, .ref 8), (8, .int .i64 x.1)], [(4, .var 27 wZv), (5, rdB (c.take 2000) x.2), (6, .var 27 (wrlA w).cells), (7, .var 27 (wrlA w).cells), (8, .row 31 .evt [])], 9⟩) (fun x => x.1 ≤ 82 ∧ 0 ≤ x.2 ∧ x.2 ≤ 200) ?_ ?_
    · by_cases h0 : k = 0
      · (repeat (any_goals (first | refine st ?_ | ((first | refine go2 fun xe hxe => ?_ | with_reducible refine cnd_d (fun hq => ?_) fun hq => ?_) <;> conv => whnf) | ((with_reducible refine cnd_i (fun hq => ?_) fun hq => ?_) <;> ((try simp only [hqs] at hq) <;> (first | omega | conv => whnf))) | refine cr (hjc) ?_)))
        exact ⟨(79 + j, p1 + 1 + 1 + 1), ⟨by dsimp only; omega, by dsimp only; omega, by dsimp only; omega⟩, rfl⟩
      · (repeat (any_goals (first | refine st ?_ | ((first | refine go2 fun xe hxe => ?_ | with_reducible refine cnd_d (fun hq => ?_) fun hq => ?_) <;> conv => whnf) | ((with_reducible refine cnd_i (fun hq => ?_) fun hq => ?_) <;> ((try simp only [hqs] at hq) <;> (first | omega | conv => whnf))))))
        exact ⟨(n, p1 + 1 + 1), ⟨by dsimp only; omega, by dsimp only; omega, by dsimp only; omega⟩, rfl⟩
    · rintro ⟨n, p2⟩ ⟨f1, f2, f3⟩
      dsimp only at f1 f2 f3 ⊢
      clear hnc hkc hjc
      (repeat (any_goals (first | refine st ?_ | ((first | refine go2 fun xe hxe => ?_ | with_reducible refine cnd_d (fun hq => ?_) fun hq => ?_) <;> conv => whnf) | ((with_reducible refine cnd_i (fun hq => ?_) fun hq => ?_) <;> ((try simp only [hqs] at hq) <;> (first | omega | conv => whnf))))))
      refine at_loop hK [] [2, 4, 5, 6, 7, 8, 9] (fun x : Nat × Wrl × List Evt × Int => ⟨[(2, .ptr 4 0), (4, .ptr 5 0), (5, .ptr 6 0), (6, .ptr 7 0), (7, .ref 8), (8, .int .i64 n), (9, .int .i64 (x.1 : Int))], [(4, .var 27 wZv), (5, rdB (c.take 2000) x.2.2.2), (6, .var 27 (wrlA w).cells), (7, .var 27 (wrlA x.2.1).cells), (8, .row 31 .evt x.2.2.1)], 9⟩)
        (fun x => x.1 ≤ 82 ∧ WOK x.2.1 ∧ (x.2.2.1.length = x.1 ∧ ∀ e ∈ x.2.2.1, e.v.parents.length ≤ 30) ∧ 0 ≤ x.2.2.2 ∧ x.2.2.2 ≤ 200 + 60 * x.1) (fun x => 90 - x.1) (0, w, [], p2) ⟨by dsimp only; omega, g1, ⟨rfl, by simp⟩, by dsimp only; omega, by dsimp only; omega⟩ rfl ?_
      rintro ⟨i, u, es, p3⟩ ⟨i1, i2, ⟨i3, i4⟩, i5, i6⟩
      dsimp only at i1 i2 i3 i4 i5 i6 ⊢
      obtain ⟨⟨⟨z, e⟩, p4⟩, ⟨e1, e2, e3, e4⟩, hE⟩ := devt_c _ p3 u h (by omega) i2
      dsimp only at e1 e2 e3 e4 hE
      have hD := evtZ_do u z e i2 e3 e4
      have hdo := sDo_ok i2 e
      by_cases hlt : (i : Int) < n
      · have hap := evs_app i4 e3
        cases z with
        | false =>
          have hE : ConV Tryz.prog 23 [.ptr 4 0, wrlA u] [(4, rdB (c.take 2000) p3)] (evtA e) [(4, rdB (c.take 2000) p4)] := hE
          generalize sDo u e = u2 at *
          (repeat (any_goals (first | refine st ?_ | ((first | refine go2 fun xe hxe => ?_ | with_reducible refine cnd_d (fun hq => ?_) fun hq => ?_) <;> conv => whnf) | ((with_reducible refine cnd_i (fun hq => ?_) fun hq => ?_) <;> ((try simp only [hqs] at hq) <;> (first | omega | conv => whnf))) | refine cr (hD) ?_ | refine co (hE) ?_)))
          exact ⟨(i + 1, u2, es ++ [e], p4), ⟨by dsimp only; omega, hdo, ⟨by simp [i3], hap⟩, by dsimp only; omega, by dsimp only; omega⟩, by dsimp only; omega, rfl⟩
        | true =>
          have hE : ConV Tryz.prog 23 [.ptr 4 0, wrlA u] [(4, rdB (c.take 2000) p3)] (.agg [.int .i64 e.kind, .int .i64 e.a, .int .i64 e.b, .int .i64 e.v.round, .int .i64 e.v.author, .nils, .int .i64 e.v.digest]) [(4, rdB (c.take 2000) p4)] := hE
          obtain ⟨kd, a, b, ⟨rd, au, ps, dg⟩⟩ := e
          obtain rfl : ps = [] := e4 rfl
          dsimp only at hD hE
          generalize sDo u _ = u2 at *
          (repeat (any_goals (first | refine st ?_ | ((first | refine go2 fun xe hxe => ?_ | with_reducible refine cnd_d (fun hq => ?_) fun hq => ?_) <;> conv => whnf) | ((with_reducible refine cnd_i (fun hq => ?_) fun hq => ?_) <;> ((try simp only [hqs] at hq) <;> (first | omega | conv => whnf))) | refine cr (hD) ?_ | refine co (hE) ?_)))
          exact ⟨(i + 1, u2, es ++ [⟨kd, a, b, ⟨rd, au, [], dg⟩⟩], p4), ⟨by dsimp only; omega, hdo, ⟨by simp [i3], hap⟩, by dsimp only; omega, by dsimp only; omega⟩, by dsimp only; omega, rfl⟩
      · (repeat (any_goals (first | refine st ?_ | ((first | refine go2 fun xe hxe => ?_ | with_reducible refine cnd_d (fun hq => ?_) fun hq => ?_) <;> conv => whnf) | ((with_reducible refine cnd_i (fun hq => ?_) fun hq => ?_) <;> ((try simp only [hqs] at hq) <;> (first | omega | conv => whnf))))))
        exact ⟨(w, es), ⟨g1, by dsimp only; omega, i4⟩, rfl, rfl⟩
end Go.Proofs.YtapkflbaenbgiabGreat.Am
namespace Go.Proofs.YtapkflbaenbgiabGreat.Am
set_option linter.unusedSimpArgs false
set_option linter.unusedVariables false
open Go
/-- the members of both -/
def comm (a b : List Int) : List Int := a.filter fun m => b.contains m
end Go.Proofs.YtapkflbaenbgiabGreat.Am
namespace Go.Proofs.YtapkflbaenbgiabGreat.Am
set_option linter.unusedSimpArgs false
set_option linter.unusedVariables false
open Go
attribute [local irreducible] Mk Need Ari Get Idx Cnd CallM CallA Opt Unch At ConV
set_option maxRecDepth 10000
theorem oth_facts {w : Wrl} (hw : WOK w) (e : Evt) {m : Nat} {g : List Vtx} (hg : w.views[m]? = some g) : ∃ g', (sDo w e).views[m]? = some g' ∧ (g' = g ∨ (e.kind = 3 ∧ (m : Int) = e.a ∧ g'.length = g.length + 1)) := by
  have same : (sDo w e).views = w.views → ∃ g', (sDo w e).views[m]? = some g' ∧ (g' = g ∨ (e.kind = 3 ∧ (m : Int) = e.a ∧ g'.length = g.length + 1)) := fun h => ⟨g, by rw [h]; exact hg, .inl rfl⟩
  by_cases h3 : e.kind = 3
  · have hd : sDo w e = sDel w e.a e.b := by unfold sDo; rw [if_neg (by omega), if_neg (by omega), if_pos h3]
    cases hb : delB w e.a e.b
    · refine same ?_
      rw [hd]
      unfold sDel
      rw [hb]
      rfl
    · have hs : sDel w e.a e.b = { w with views := w.views.set e.a.toNat (insV (view w e.a) (prop w e.b).v) } := by unfold sDel; rw [hb]; rfl
      rw [hd, hs]
      have hgd : good w e.a = true := by
        unfold delB at hb
        simp only [Bool.and_eq_true] at hb
        exact hb.1
      obtain ⟨hm, -⟩ := good_iff.1 hgd
      dsimp only
      rw [List.getElem?_set]
      by_cases em : e.a.toNat = m
      · have hml := (List.getElem?_eq_some_iff.1 hg).1
        rw [if_pos em, em, if_pos hml]
        refine ⟨_, rfl, .inr ⟨h3, by omega, ?_⟩⟩
        have hvw : view w e.a = g := by unfold view; rw [em, List.getD_eq_getElem?_getD, hg]; rfl
        rw [hvw]
        exact insV_len g _
      · rw [if_neg em]
        exact ⟨g, hg, .inl rfl⟩
  · refine same ?_
    unfold sDo
    rw [if_neg h3]
    (repeat' split) <;> first | rfl | (simp only [sPrp, sVot, sFrg, sBad, sCnt, addP]; split <;> rfl)
theorem lawOth_c (c : List Int) (hc : ∀ x ∈ c, 0 ≤ x ∧ x ≤ 255) : ConV Tryz.prog 3 [.lst (.int .u8) c] [] (.bool true) [] := by
  obtain ⟨⟨w, z, e⟩, ⟨⟨hw1, hw2⟩, he1, he2⟩, hd⟩ := ddo_c c hc
  dsimp only at hw1 hw2 he1 he2 hd
  have hI := ido_c w e (fun g hg => by have := hw2 g hg; omega)
  have hS := swdo_c w e (by omega) (by omega)
  have hV := swV_c w (by omega)
  refine con_eq Θ_ok Tryz.func3 rfl rfl false 0 4 rfl rfl rfl rfl fun K hK hb1 hb2 => ?_; simp only [argsV, enc, Nat.reduceAdd]
  clear hb1 hb2
  by_cases hl : 1048576 < (c.length : Int)
  · (repeat (any_goals (first | refine st ?_ | ((first | refine go2 fun xe hxe => ?_ | with_reducible refine cnd_d (fun hq => ?_) fun hq => ?_) <;> conv => whnf) | ((with_reducible refine cnd_i (fun hq => ?_) fun hq => ?_) <;> ((try simp only [hqs] at hq) <;> (first | omega | conv => whnf))))))
    exact ⟨rfl, rfl⟩
  cases z with
  | false =>
    have hd : ConV Tryz.prog 9 [.lst (.int .u8) c] [] (.tup [wrlA w, evtA e]) [] := hd
    cases hs : wrlS w
    · simp only [hs, Bool.false_eq_true, if_false] at hI hS
      rw [hs] at hV
      (repeat (any_goals (first | refine st ?_ | ((first | refine go2 fun xe hxe => ?_ | with_reducible refine cnd_d (fun hq => ?_) fun hq => ?_) <;> conv => whnf) | ((with_reducible refine cnd_i (fun hq => ?_) fun hq => ?_) <;> ((try simp only [hqs] at hq) <;> (first | omega | conv => whnf))) | refine cr (hd) ?_ | refine cr (hI) ?_ | refine cr (hS) ?_ | refine cr (hV) ?_ | refine cr (sWrl_z) ?_)))
      exact ⟨rfl, rfl⟩
    · simp only [hs, if_true] at hI hS
      rw [hs] at hV
      have hw := wok_iff.1 hs
      have hE := sWrl_e (sDo w e)
      have hf := fun (m : Nat) (g : List Vtx) (hg : w.views[m]? = some g) => oth_facts hw e hg
      have h7 := hw.len
      have hvl := hw.vlen
      generalize sDo w e = u at *
      (repeat (any_goals (first | refine st ?_ | ((first | refine go2 fun xe hxe => ?_ | with_reducible refine cnd_d (fun hq => ?_) fun hq => ?_) <;> conv => whnf) | ((with_reducible refine cnd_i (fun hq => ?_) fun hq => ?_) <;> ((try simp only [hqs] at hq) <;> (first | omega | conv => whnf))) | refine cr (hd) ?_ | refine cr (hI) ?_ | refine cr (hS) ?_ | refine cr (hV) ?_ | refine cr (hE) ?_)))
      refine at_loop hK [] [3, 4, 5, 7] (fun m : Nat => ⟨[(3, .ptr 4 0), (4, .ptr 5 0), (5, .ptr 6 0), (7, .int .i64 (m : Int))], [(4, .var 27 (wrlA w).cells), (5, .var 31 (evtA e).cells), (6, .var 27 (wrlA u).cells)], 7⟩) (fun m => m ≤ w.views.length) (fun m => w.views.length - m) 0 (by simp) rfl ?_
      intro m hm
      by_cases hlt : m < w.views.length
      · have hg : w.views[m]? = some w.views[m] := List.getElem?_eq_getElem hlt
        obtain ⟨g', hg1, hg2⟩ := hf m _ hg
        have hgl := hw.vl _ (List.mem_of_getElem? hg)
        generalize w.views[m] = g at *
        rcases hg2 with rfl | ⟨k1, k2, k3⟩
        · have hG := sGra_e g'
          (repeat (any_goals (first | refine st ?_ | ((first | refine go2 fun xe hxe => ?_ | with_reducible refine cnd_d (fun hq => ?_) fun hq => ?_) <;> conv => whnf) | ((with_reducible refine cnd_i (fun hq => ?_) fun hq => ?_) <;> ((try simp only [hqs] at hq) <;> (first | omega | conv => whnf))) | refine cr (hG) ?_)))
          exact ⟨m + 1, by omega, by omega, rfl⟩
        · (repeat (any_goals (first | refine st ?_ | ((first | refine go2 fun xe hxe => ?_ | with_reducible refine cnd_d (fun hq => ?_) fun hq => ?_) <;> conv => whnf) | ((with_reducible refine cnd_i (fun hq => ?_) fun hq => ?_) <;> ((try simp only [hqs] at hq) <;> (first | omega | conv => whnf))))))
          exact ⟨m + 1, by omega, by omega, rfl⟩
      · (repeat (any_goals (first | refine st ?_ | ((first | refine go2 fun xe hxe => ?_ | with_reducible refine cnd_d (fun hq => ?_) fun hq => ?_) <;> conv => whnf) | ((with_reducible refine cnd_i (fun hq => ?_) fun hq => ?_) <;> ((try simp only [hqs] at hq) <;> (first | omega | conv => whnf))))))
        exact ⟨rfl, rfl⟩
  | true =>
    have hd : ConV Tryz.prog 9 [.lst (.int .u8) c] [] (.tup [wrlA w, .agg [.int .i64 e.kind, .int .i64 e.a, .int .i64 e.b, .int .i64 e.v.round, .int .i64 e.v.author, .nils, .int .i64 e.v.digest]]) [] := hd
    rw [show evtA e = .agg [.int .i64 e.kind, .int .i64 e.a, .int .i64 e.b, .int .i64 e.v.round, .int .i64 e.v.author, .lst (.int .i64) [], .int .i64 e.v.digest] from by unfold evtA; rw [he2 rfl]] at hI hS
    cases hs : wrlS w
    · simp only [hs, Bool.false_eq_true, if_false] at hI hS
      rw [hs] at hV
      (repeat (any_goals (first | refine st ?_ | ((first | refine go2 fun xe hxe => ?_ | with_reducible refine cnd_d (fun hq => ?_) fun hq => ?_) <;> conv => whnf) | ((with_reducible refine cnd_i (fun hq => ?_) fun hq => ?_) <;> ((try simp only [hqs] at hq) <;> (first | omega | conv => whnf))) | refine cr (hd) ?_ | refine cr (hI) ?_ | refine cr (hS) ?_ | refine cr (hV) ?_ | refine cr (sWrl_z) ?_)))
      exact ⟨rfl, rfl⟩
    · simp only [hs, if_true] at hI hS
      rw [hs] at hV
      have hw := wok_iff.1 hs
      have hE := sWrl_e (sDo w e)
      have hf := fun (m : Nat) (g : List Vtx) (hg : w.views[m]? = some g) => oth_facts hw e hg
      have h7 := hw.len
      have hvl := hw.vlen
      generalize sDo w e = u at *
      (repeat (any_goals (first | refine st ?_ | ((first | refine go2 fun xe hxe => ?_ | with_reducible refine cnd_d (fun hq => ?_) fun hq => ?_) <;> conv => whnf) | ((with_reducible refine cnd_i (fun hq => ?_) fun hq => ?_) <;> ((try simp only [hqs] at hq) <;> (first | omega | conv => whnf))) | refine cr (hd) ?_ | refine cr (hI) ?_ | refine cr (hS) ?_ | refine cr (hV) ?_ | refine cr (hE) ?_)))
      refine at_loop hK [] [3, 4, 5, 7] (fun m : Nat => ⟨[(3, .ptr 4 0), (4, .ptr 5 0), (5, .ptr 6 0), (7, .int .i64 (m : Int))], [(4, .var 27 (wrlA w).cells), (5, .var 31 [.int .i64 e.kind, .int .i64 e.a, .int .i64 e.b, .int .i64 e.v.round, .int .i64 e.v.author, .nils, .int .i64 e.v.digest]), (6, .var 27 (wrlA u).cells)], 7⟩) (fun m => m ≤ w.views.length) (fun m => w.views.length - m) 0 (by simp) rfl ?_
      intro m hm
      by_cases hlt : m < w.views.length
      · have hg : w.views[m]? = some w.views[m] := List.getElem?_eq_getElem hlt
        obtain ⟨g', hg1, hg2⟩ := hf m _ hg
        have hgl := hw.vl _ (List.mem_of_getElem? hg)
        generalize w.views[m] = g at *
        rcases hg2 with rfl | ⟨k1, k2, k3⟩
        · have hG := sGra_e g'
          (repeat (any_goals (first | refine st ?_ | ((first | refine go2 fun xe hxe => ?_ | with_reducible refine cnd_d (fun hq => ?_) fun hq => ?_) <;> conv => whnf) | ((with_reducible refine cnd_i (fun hq => ?_) fun hq => ?_) <;> ((try simp only [hqs] at hq) <;> (first | omega | conv => whnf))) | refine cr (hG) ?_)))
          exact ⟨m + 1, by omega, by omega, rfl⟩
        · (repeat (any_goals (first | refine st ?_ | ((first | refine go2 fun xe hxe => ?_ | with_reducible refine cnd_d (fun hq => ?_) fun hq => ?_) <;> conv => whnf) | ((with_reducible refine cnd_i (fun hq => ?_) fun hq => ?_) <;> ((try simp only [hqs] at hq) <;> (first | omega | conv => whnf))))))
          exact ⟨m + 1, by omega, by omega, rfl⟩
      · (repeat (any_goals (first | refine st ?_ | ((first | refine go2 fun xe hxe => ?_ | with_reducible refine cnd_d (fun hq => ?_) fun hq => ?_) <;> conv => whnf) | ((with_reducible refine cnd_i (fun hq => ?_) fun hq => ?_) <;> ((try simp only [hqs] at hq) <;> (first | omega | conv => whnf))))))
        exact ⟨rfl, rfl⟩
end Go.Proofs.YtapkflbaenbgiabGreat.Am
namespace Go.Proofs.YtapkflbaenbgiabGreat.Am
set_option linter.unusedSimpArgs false
set_option linter.unusedVariables false
open Go
theorem prop_cnt {w : Wrl} {i m : Int} (hi : inP w i = true) : inP (sCnt w i m) i = true ∧ prop (sCnt w i m) i = ⟨(prop w i).v, insM (prop w i).members m⟩ := by
  obtain ⟨h1, h2, -⟩ := prop_at hi
  refine ⟨by simpa [inP, sCnt] using hi, ?_⟩
  show (w.props.set i.toNat _).getD i.toNat p0 = _
  rw [getD_set h1, if_pos rfl]
theorem rep_cnt {w : Wrl} (hw : WOK w) {i m : Int} (hi : inP w i = true) : sCnt (sCnt w i m) i m = sCnt w i m := by
  obtain ⟨h1, h2⟩ := prop_cnt (m := m) hi
  obtain ⟨-, -, hp⟩ := prop_at hi
  refine cnt_same h1 ?_ ?_
  · rw [h2]
    exact insM_asc (mems_asc (one_of hw hp).2)
  · rw [h2]
    exact insM_mem.2 (.inl rfl)
theorem rep_do {w : Wrl} (hw : WOK w) {e : Evt} (hk : e.kind = 2 ∨ e.kind = 3 ∨ e.kind = 5) : sDo (sDo w e) e = sDo w e := by
  rcases hk with h | h | h
  · have hd : ∀ w, sDo w e = sVot w e.a e.b := fun w => by unfold sDo; rw [if_neg (by omega), if_pos h]
    rw [hd, hd]
    cases hb : votB w e.a e.b
    · have : sVot w e.a e.b = w := by unfold sVot; rw [hb]; rfl
      rw [this, this]
    · have : sVot w e.a e.b = sCnt w e.b e.a := by unfold sVot; rw [hb]; rfl
      rw [this]
      have hi : inP w e.b = true := by
        unfold votB at hb
        simp only [Bool.and_eq_true] at hb
        exact hb.2.1
      unfold sVot
      split
      · exact rep_cnt hw hi
      · rfl
  · have hd : ∀ w, sDo w e = sDel w e.a e.b := fun w => by unfold sDo; rw [if_neg (by omega), if_neg (by omega), if_pos h]
    rw [hd, hd]
    cases hb : delB w e.a e.b
    · have : sDel w e.a e.b = w := by unfold sDel; rw [hb]; rfl
      rw [this, this]
    · have hs : sDel w e.a e.b = { w with views := w.views.set e.a.toNat (insV (view w e.a) (prop w e.b).v) } := by unfold sDel; rw [hb]; rfl
      have hg : good w e.a = true := by
        unfold delB at hb
        simp only [Bool.and_eq_true] at hb
        exact hb.1
      obtain ⟨-, -, hvl⟩ := hw.view hg
      have hv : view (sDel w e.a e.b) e.a = insV (view w e.a) (prop w e.b).v := by
        rw [hs]
        show (w.views.set e.a.toNat _).getD e.a.toNat [] = _
        rw [getD_set hvl, if_pos rfl]
      have hp : prop (sDel w e.a e.b) e.b = prop w e.b := by rw [hs]; rfl
      have hf : delB (sDel w e.a e.b) e.a e.b = false := by
        have : hasV (insV (view w e.a) (prop w e.b).v) (prop w e.b).v.round (prop w e.b).v.author = true := hasV_iff.2 ⟨_, insV_mem.2 (.inl rfl), rfl, rfl⟩
        unfold delB
        rw [hv, hp, this]
        simp
      generalize sDel w e.a e.b = u at *
      unfold sDel
      rw [hf]
      rfl
  · have hd : ∀ w, sDo w e = sBad w e.b := fun w => by unfold sDo; rw [if_neg (by omega), if_neg (by omega), if_neg (by omega), if_neg (by omega), if_pos h]
    rw [hd, hd]
    cases hb : badB w e.b
    · have : sBad w e.b = w := by unfold sBad; rw [hb]; rfl
      rw [this, this]
    · have hs : sBad w e.b = sCnt w e.b w.bad := by unfold sBad; rw [hb]; rfl
      have hi : inP w e.b = true := by
        unfold badB at hb
        simp only [Bool.and_eq_true] at hb
        exact hb.2
      rw [hs]
      unfold sBad
      split
      · exact rep_cnt hw hi
      · rfl
theorem unk_1 {w : Wrl} {e : Evt} (h : 6 ≤ e.kind) : sDo w e = w := by
  unfold sDo
  rw [if_neg (by omega), if_neg (by omega), if_neg (by omega), if_neg (by omega), if_neg (by omega)]
theorem unk_2 {w : Wrl} {e : Evt} (h : e.kind = 2) (h2 : e.a = w.com.length) : sDo w e = w := by
  have hg : good w e.a = false := by
    rw [Bool.eq_false_iff]
    intro hg
    have := (good_iff.1 hg).1
    omega
  have : votB w e.a e.b = false := by unfold votB; rw [hg]; rfl
  unfold sDo sVot
  rw [if_neg (by omega), if_pos h, this]
  rfl
theorem unk_3 {w : Wrl} {e : Evt} (h : e.kind = 3) (h2 : (w.props.length : Int) ≤ e.b) : sDo w e = w := by
  have hi : inP w e.b = false := by
    rw [Bool.eq_false_iff]
    intro hi
    have := vIn_iff.1 hi
    omega
  have : delB w e.a e.b = false := by unfold delB; rw [hi]; simp
  unfold sDo sDel
  rw [if_neg (by omega), if_neg (by omega), if_pos h, this]
  rfl
theorem comm_self {a b : List Int} (h : ∀ m ∈ a, m ∈ b) : comm a b = a := List.filter_eq_self.2 fun m hm => by simpa using h m hm
theorem insM_len : ∀ (l : List Int) (m : Int), (insM l m).length = l.length + (if m ∈ l then 0 else 1) ∨ (insM l m).length = l.length + 1
  | [], m => .inr rfl
  | x :: l, m => by
    unfold insM
    split
    · rename_i h
      rcases insM_len l m with ih | ih
      · by_cases hm : m ∈ l
        · rw [if_pos hm] at ih
          exact .inl (by rw [if_pos (by simp [hm])]; simp [ih])
        · rw [if_neg hm] at ih
          exact .inr (by simp [ih])
      · exact .inr (by simp [ih])
    · split
      · rename_i h
        exact .inl (by rw [if_pos (by simp [h])]; simp)
      · exact .inr rfl
/-- what an event leaves of proposals -/
theorem pro_facts {w : Wrl} (_ : WOK w) (e : Evt) : ∃ (i0 d n : Nat), n + d ≤ 1 ∧ (sDo w e).props.length = w.props.length + n ∧ ∀ (k : Nat) (p : Ppl), w.props[k]? = some p → ∃ l, (sDo w e).props[k]? = some ⟨p.v, l⟩ ∧ (∀ m ∈ p.members, m ∈ l) ∧ l.length = p.members.length + (if k = i0 then d else 0) := by
  have same : ∀ u : Wrl, u.props = w.props → ∃ (i0 d n : Nat), n + d ≤ 1 ∧ u.props.length = w.props.length + n ∧ ∀ (k : Nat) (p : Ppl), w.props[k]? = some p → ∃ l, u.props[k]? = some ⟨p.v, l⟩ ∧ (∀ m ∈ p.members, m ∈ l) ∧ l.length = p.members.length + (if k = i0 then d else 0) := fun u hu =>
    ⟨0, 0, 0, by omega, by rw [hu]; rfl, fun k p hp => ⟨p.members, by rw [hu]; exact hp, fun _ h => h, by simp⟩⟩
  have app : ∀ v, ∃ (i0 d n : Nat), n + d ≤ 1 ∧ (addP w v).props.length = w.props.length + n ∧ ∀ (k : Nat) (p : Ppl), w.props[k]? = some p → ∃ l, (addP w v).props[k]? = some ⟨p.v, l⟩ ∧ (∀ m ∈ p.members, m ∈ l) ∧ l.length = p.members.length + (if k = i0 then d else 0) := fun v =>
    ⟨0, 0, 1, by omega, by simp [addP], fun k p hp => ⟨p.members, by show (w.props ++ _)[k]? = _; rw [List.getElem?_append_left (List.getElem?_eq_some_iff.1 hp).1]; exact hp, fun _ h => h, by simp⟩⟩
  have cnt : ∀ i m, inP w i = true → ∃ (i0 d n : Nat), n + d ≤ 1 ∧ (sCnt w i m).props.length = w.props.length + n ∧ ∀ (k : Nat) (p : Ppl), w.props[k]? = some p → ∃ l, (sCnt w i m).props[k]? = some ⟨p.v, l⟩ ∧ (∀ m ∈ p.members, m ∈ l) ∧ l.length = p.members.length + (if k = i0 then d else 0) := fun i m hi => by
    obtain ⟨h1, h2, -⟩ := prop_at hi
    obtain ⟨d, hd, hl⟩ : ∃ d, d ≤ 1 ∧ (insM (prop w i).members m).length = (prop w i).members.length + d := by
      rcases insM_len (prop w i).members m with h | h
      · split at h
        · exact ⟨0, by omega, h⟩
        · exact ⟨1, by omega, h⟩
      · exact ⟨1, by omega, h⟩
    refine ⟨i.toNat, d, 0, by omega, by simp [sCnt], fun k p hp => ?_⟩
    show ∃ l, (w.props.set i.toNat _)[k]? = _ ∧ _
    rw [List.getElem?_set]
    by_cases e : i.toNat = k
    · subst e
      rw [h2] at hp
      obtain rfl := Option.some.inj hp
      rw [if_pos rfl, if_pos h1, if_pos rfl]
      exact ⟨_, rfl, fun x hx => insM_mem.2 (.inr hx), hl⟩
    · rw [if_neg e, if_neg (Ne.symm e)]
      exact ⟨p.members, hp, fun _ h => h, rfl⟩
  unfold sDo
  split
  · unfold sPrp
    split
    · exact app _
    · exact same _ rfl
  split
  · unfold sVot
    split
    · rename_i hb
      unfold votB at hb
      simp only [Bool.and_eq_true] at hb
      exact cnt _ _ hb.2.1
    · exact same _ rfl
  split
  · unfold sDel
    split
    · exact same _ rfl
    · exact same _ rfl
  split
  · unfold sFrg
    split
    · exact app _
    · exact same _ rfl
  split
  · unfold sBad
    split
    · rename_i hb
      unfold badB at hb
      simp only [Bool.and_eq_true] at hb
      exact cnt _ _ hb.2
    · exact same _ rfl
  · exact same _ rfl
end Go.Proofs.YtapkflbaenbgiabGreat.Am
namespace Go.Proofs.YtapkflbaenbgiabGreat.Am
set_option linter.unusedSimpArgs false
set_option linter.unusedVariables false
open Go
attribute [local irreducible] Mk Need Ari Get Idx Cnd CallM CallA Opt Unch At ConV
set_option maxRecDepth 10000
theorem com_c (a b : List Int) (hl : a.length ≤ 1000000) : ConV Tryz.prog 17 [.lst (.int .i64) a, .lst (.int .i64) b] [] (.lst (.int .i64) (comm a b)) [] := by
  refine con_eq Θ_ok Tryz.func17 rfl rfl true 0 4 rfl rfl rfl rfl fun K hK hb1 hb2 => ?_; simp only [argsV, enc, Nat.reduceAdd]
  clear hb1 hb2
  (repeat (any_goals (first | refine st ?_ | ((first | refine go2 fun xe hxe => ?_ | with_reducible refine cnd_d (fun hq => ?_) fun hq => ?_) <;> conv => whnf) | ((with_reducible refine cnd_i (fun hq => ?_) fun hq => ?_) <;> ((try simp only [hqs] at hq) <;> (first | omega | conv => whnf))))))
  (try any_goals (first | exact absurd trivial hq | exact absurd rfl hq | exact absurd hq (by omega) | (exfalso; simp at hq; done)))
  refine at_loop hK [] [0, 1, 5, 6] (fun i : Nat => ⟨[(0, .lst (.int .i64) a), (1, .lst (.int .i64) b), (5, .ref 4), (6, .int .i64 (i : Int))], [(4, .row 3 (.int .i64) (comm (a.take i) b))], 5⟩) (fun i => i ≤ a.length) (fun i => a.length - i) 0 (by simp) rfl ?_
  intro i hi
  by_cases hlt : i < a.length
  · have hx : a[i]? = some a[i] := List.getElem?_eq_getElem hlt
    have hsn : comm (a.take (i + 1)) b = if b.contains a[i] then comm (a.take i) b ++ [a[i]] else comm (a.take i) b := by
      unfold comm
      rw [List.take_succ_eq_append_getElem hlt, List.filter_append, List.filter_cons, List.filter_nil]
      split <;> simp
    have hll : (comm (a.take i) b).length ≤ i := Nat.le_trans (List.length_filter_le _ _) (by rw [List.length_take]; omega)
    generalize a[i] = x at *
    have hH := hasI_c b x
    generalize comm (a.take i) b = r at *
    cases h : b.contains x
    · rw [h] at hH hsn
      (repeat (any_goals (first | refine st ?_ | ((first | refine go2 fun xe hxe => ?_ | with_reducible refine cnd_d (fun hq => ?_) fun hq => ?_) <;> conv => whnf) | ((with_reducible refine cnd_i (fun hq => ?_) fun hq => ?_) <;> ((try simp only [hqs] at hq) <;> (first | omega | conv => whnf))) | refine cr (hH) ?_)))
      (try any_goals (first | exact absurd trivial hq | exact absurd rfl hq | exact absurd hq (by omega) | (exfalso; simp at hq; done)))
      exact ⟨i + 1, by omega, by omega, by rw [hsn]; rfl⟩
    · rw [h] at hH hsn
      (repeat (any_goals (first | refine st ?_ | ((first | refine go2 fun xe hxe => ?_ | with_reducible refine cnd_d (fun hq => ?_) fun hq => ?_) <;> conv => whnf) | ((with_reducible refine cnd_i (fun hq => ?_) fun hq => ?_) <;> ((try simp only [hqs] at hq) <;> (first | omega | conv => whnf))) | refine cr (hH) ?_)))
      (try any_goals (first | exact absurd trivial hq | exact absurd rfl hq | exact absurd hq (by omega) | (exfalso; simp at hq; done)))
      exact ⟨i + 1, by omega, by omega, by rw [hsn]; rfl⟩
  · (repeat (any_goals (first | refine st ?_ | ((first | refine go2 fun xe hxe => ?_ | with_reducible refine cnd_d (fun hq => ?_) fun hq => ?_) <;> conv => whnf) | ((with_reducible refine cnd_i (fun hq => ?_) fun hq => ?_) <;> ((try simp only [hqs] at hq) <;> (first | omega | conv => whnf))))))
    (try any_goals (first | exact absurd trivial hq | exact absurd rfl hq | exact absurd hq (by omega) | (exfalso; simp at hq; done)))
    rw [List.take_of_length_le (by omega)]
    exact ⟨rfl, rfl⟩
end Go.Proofs.YtapkflbaenbgiabGreat.Am
namespace Go.Proofs.YtapkflbaenbgiabGreat.Am
set_option linter.unusedSimpArgs false
set_option linter.unusedVariables false
open Go
attribute [local irreducible] Mk Need Ari Get Idx Cnd CallM CallA Opt Unch At ConV
set_option maxRecDepth 10000
theorem ddp_c (c : List Int) (hc : ∀ x ∈ c, 0 ≤ x ∧ x ≤ 255) : ∃ (w : Wrl) (kd a b rd au dg : Int) (ps : List Int) (pz : V), WSm w ∧ ps.length ≤ 30 ∧ (pz = .lst (.int .i64) ps ∨ (pz = .nils ∧ ps = [])) ∧ ConV Tryz.prog 9 [.lst (.int .u8) c] [] (.tup [wrlA w, .agg [.int .i64 kd, .int .i64 a, .int .i64 b, .int .i64 rd, .int .i64 au, pz, .int .i64 dg]]) [] := by
  obtain ⟨⟨w, z, ⟨kd, a, b, ⟨rd, au, ps, dg⟩⟩⟩, ⟨hw, he1, he2⟩, hd⟩ := ddo_c c hc
  dsimp only at hw he1 he2 hd
  cases z with
  | false => exact ⟨w, kd, a, b, rd, au, dg, ps, _, hw, he1, .inl rfl, hd⟩
  | true => exact ⟨w, kd, a, b, rd, au, dg, ps, _, hw, he1, .inr ⟨rfl, he2 rfl⟩, hd⟩
theorem idp_c {w : Wrl} (hw : WSm w) (kd a b rd au dg : Int) (ps : List Int) : ConV Tryz.prog 10 [wrlA w, .agg [.int .i64 kd, .int .i64 a, .int .i64 b, .int .i64 rd, .int .i64 au, .lst (.int .i64) ps, .int .i64 dg]] [] (if wrlS w then wrlA (sDo w ⟨kd, a, b, ⟨rd, au, ps, dg⟩⟩) else wrlZ) [] :=
  ido_c w ⟨kd, a, b, ⟨rd, au, ps, dg⟩⟩ (fun g hg => by have := hw.2 g hg; omega)
theorem sdp_c {w : Wrl} (hw : WSm w) (kd a b rd au dg : Int) {ps : List Int} (hl : ps.length ≤ 30) : ConV Tryz.prog 11 [wrlA w, .agg [.int .i64 kd, .int .i64 a, .int .i64 b, .int .i64 rd, .int .i64 au, .lst (.int .i64) ps, .int .i64 dg]] [] (if wrlS w then wrlA (sDo w ⟨kd, a, b, ⟨rd, au, ps, dg⟩⟩) else wrlZ) [] :=
  swdo_c w ⟨kd, a, b, ⟨rd, au, ps, dg⟩⟩ (by have := hw.1; omega) (by dsimp only; omega)
theorem lawRep_c (c : List Int) (hc : ∀ x ∈ c, 0 ≤ x ∧ x ≤ 255) : ConV Tryz.prog 4 [.lst (.int .u8) c] [] (.bool true) [] := by
  obtain ⟨w, kd, a, b, rd, au, dg, ps, pz, hw, hpl, hpz, hd⟩ := ddp_c c hc
  have hI := idp_c hw kd a b rd au dg ps
  have hS := sdp_c hw kd a b rd au dg hpl
  have hV := swV_c w (by have := hw.1; omega)
  refine con_eq Θ_ok Tryz.func4 rfl rfl false 0 4 rfl rfl rfl rfl fun K hK hb1 hb2 => ?_; simp only [argsV, enc, Nat.reduceAdd]
  clear hb1 hb2
  by_cases hl : 1048576 < (c.length : Int)
  · (repeat (any_goals (first | refine st ?_ | ((first | refine go2 fun xe hxe => ?_ | with_reducible refine cnd_d (fun hq => ?_) fun hq => ?_) <;> conv => whnf) | ((with_reducible refine cnd_i (fun hq => ?_) fun hq => ?_) <;> ((try simp only [hqs] at hq) <;> (first | omega | conv => whnf))))))
    (try any_goals (first | exact absurd trivial hq | exact absurd rfl hq | exact absurd hq (by omega) | (exfalso; simp at hq; done)))
    exact ⟨rfl, rfl⟩
  cases hs : wrlS w
  · simp only [hs, Bool.false_eq_true, if_false] at hI hS
    rw [hs] at hV
    rcases hpz with rfl | ⟨rfl, rfl⟩ <;> ((repeat (any_goals (first | refine st ?_ | ((first | refine go2 fun xe hxe => ?_ | with_reducible refine cnd_d (fun hq => ?_) fun hq => ?_) <;> conv => whnf) | ((with_reducible refine cnd_i (fun hq => ?_) fun hq => ?_) <;> ((try simp only [hqs] at hq) <;> (first | omega | conv => whnf))) | refine cr (hd) ?_ | refine cr (hI) ?_ | refine cr (hS) ?_ | refine cr (hV) ?_ | refine cr (sWrl_z) ?_))); exact ⟨rfl, rfl⟩)
  · simp only [hs, if_true] at hI hS
    rw [hs] at hV
    have hok := wok_iff.1 hs
    have hE := sWrl_e (sDo w ⟨kd, a, b, ⟨rd, au, ps, dg⟩⟩)
    have hok2 := sDo_ok hok ⟨kd, a, b, ⟨rd, au, ps, dg⟩⟩
    have hI2 := idp_c hok2.sm kd a b rd au dg ps
    rw [if_pos (wok_iff.2 hok2)] at hI2
    by_cases hk : kd = 2 ∨ kd = 3 ∨ kd = 5
    · rw [rep_do hok hk] at hI2
      generalize sDo w _ = u at *
      rcases hpz with rfl | ⟨rfl, rfl⟩ <;> ((repeat (any_goals (first | refine st ?_ | ((first | refine go2 fun xe hxe => ?_ | with_reducible refine cnd_d (fun hq => ?_) fun hq => ?_) <;> conv => whnf) | ((with_reducible refine cnd_i (fun hq => ?_) fun hq => ?_) <;> ((try simp only [hqs] at hq) <;> (first | omega | conv => whnf))) | refine cr (hd) ?_ | refine cr (hI) ?_ | refine cr (hS) ?_ | refine cr (hV) ?_ | refine cr (hE) ?_ | refine cr (hI2) ?_))); all_goals exact ⟨rfl, rfl⟩)
    · generalize sDo w _ = u at *
      rcases hpz with rfl | ⟨rfl, rfl⟩ <;> ((repeat (any_goals (first | refine st ?_ | ((first | refine go2 fun xe hxe => ?_ | with_reducible refine cnd_d (fun hq => ?_) fun hq => ?_) <;> conv => whnf) | ((with_reducible refine cnd_i (fun hq => ?_) fun hq => ?_) <;> ((try simp only [hqs] at hq) <;> (first | omega | conv => whnf))) | refine cr (hd) ?_ | refine cr (hI) ?_ | refine cr (hS) ?_ | refine cr (hV) ?_ | refine cr (hE) ?_))); exact ⟨rfl, rfl⟩)
theorem lawUnk_c (c d : List Int) (hc : ∀ x ∈ c, 0 ≤ x ∧ x ≤ 255) (_ : ∀ x ∈ d, 0 ≤ x ∧ x ≤ 255) : ConV Tryz.prog 5 [.lst (.int .u8) c, .lst (.int .u8) d] [] (.bool true) [] := by
  obtain ⟨w, kd, a, b, rd, au, dg, ps, pz, hw, hpl, hpz, hd⟩ := ddp_c c hc
  have hI := idp_c hw kd a b rd au dg ps
  have hS := sdp_c hw kd a b rd au dg hpl
  have hV := swV_c w (by have := hw.1; omega)
  refine con_eq Θ_ok Tryz.func5 rfl rfl false 0 4 rfl rfl rfl rfl fun K hK hb1 hb2 => ?_; simp only [argsV, enc, Nat.reduceAdd]
  clear hb1 hb2
  by_cases hl : 1048576 < (c.length : Int)
  · (repeat (any_goals (first | refine st ?_ | ((first | refine go2 fun xe hxe => ?_ | with_reducible refine cnd_d (fun hq => ?_) fun hq => ?_) <;> conv => whnf) | ((with_reducible refine cnd_i (fun hq => ?_) fun hq => ?_) <;> ((try simp only [hqs] at hq) <;> (first | omega | conv => whnf))))))
    (try any_goals (first | exact absurd trivial hq | exact absurd rfl hq | exact absurd hq (by omega) | (exfalso; simp at hq; done)))
    exact ⟨rfl, rfl⟩
  by_cases hl2 : 1048576 < (d.length : Int)
  · (repeat (any_goals (first | refine st ?_ | ((first | refine go2 fun xe hxe => ?_ | with_reducible refine cnd_d (fun hq => ?_) fun hq => ?_) <;> conv => whnf) | ((with_reducible refine cnd_i (fun hq => ?_) fun hq => ?_) <;> ((try simp only [hqs] at hq) <;> (first | omega | conv => whnf))))))
    (try any_goals (first | exact absurd trivial hq | exact absurd rfl hq | exact absurd hq (by omega) | (exfalso; simp at hq; done)))
    exact ⟨rfl, rfl⟩
  cases hs : wrlS w
  · simp only [hs, Bool.false_eq_true, if_false] at hI hS
    rw [hs] at hV
    rcases hpz with rfl | ⟨rfl, rfl⟩ <;> ((repeat (any_goals (first | refine st ?_ | ((first | refine go2 fun xe hxe => ?_ | with_reducible refine cnd_d (fun hq => ?_) fun hq => ?_) <;> conv => whnf) | ((with_reducible refine cnd_i (fun hq => ?_) fun hq => ?_) <;> ((try simp only [hqs] at hq) <;> (first | omega | conv => whnf))) | refine cr (hd) ?_ | refine cr (hI) ?_ | refine cr (hS) ?_ | refine cr (hV) ?_ | refine cr (sWrl_z) ?_))); exact ⟨rfl, rfl⟩)
  · simp only [hs, if_true] at hI hS
    rw [hs] at hV
    have hok := wok_iff.1 hs
    have hE := sWrl_e (sDo w ⟨kd, a, b, ⟨rd, au, ps, dg⟩⟩)
    have hE2 := sWrl_e w
    have hI2 := fun k x y => idp_c hw k x y 0 0 0 []
    simp only [if_pos hs] at hI2
    have hX1 : ∀ k : Int, 6 ≤ k → ConV Tryz.prog 10 [wrlA w, .agg [.int .i64 k, .int .i64 0, .int .i64 0, .int .i64 0, .int .i64 0, .lst (.int .i64) [], .int .i64 0]] [] (wrlA w) [] := fun k hk => by
      have := hI2 k 0 0
      rw [unk_1 hk] at this
      exact this
    have hX2 : ConV Tryz.prog 10 [wrlA w, .agg [.int .i64 2, .int .i64 w.com.length, .int .i64 0, .int .i64 0, .int .i64 0, .lst (.int .i64) [], .int .i64 0]] [] (wrlA w) [] := by
      have := hI2 2 w.com.length 0
      rw [unk_2 rfl rfl] at this
      exact this
    have hX3 : ∀ k : Int, w.props.length ≤ k → ConV Tryz.prog 10 [wrlA w, .agg [.int .i64 3, .int .i64 0, .int .i64 k, .int .i64 0, .int .i64 0, .lst (.int .i64) [], .int .i64 0]] [] (wrlA w) [] := fun k hk => by
      have := hI2 3 0 k
      rw [unk_3 rfl hk] at this
      exact this
    have h5 : 0 ≤ (d.length : Int).tmod 5 ∧ (d.length : Int).tmod 5 < 5 := by rw [Int.tmod_eq_emod_of_nonneg (by omega)]; omega
    have h3 : 0 ≤ (d.length : Int).tmod 3 ∧ (d.length : Int).tmod 3 < 3 := by rw [Int.tmod_eq_emod_of_nonneg (by omega)]; omega
    have hpl := hok.plen
    generalize sDo w _ = u at *
    rcases hpz with rfl | ⟨rfl, rfl⟩ <;> ((repeat (any_goals (first | refine st ?_ | ((first | refine go2 fun xe hxe => ?_ | with_reducible refine cnd_d (fun hq => ?_) fun hq => ?_) <;> conv => whnf) | ((with_reducible refine cnd_i (fun hq => ?_) fun hq => ?_) <;> ((try simp only [hqs] at hq) <;> (first | omega | conv => whnf))) | refine cr (hd) ?_ | refine cr (hI) ?_ | refine cr (hS) ?_ | refine cr (hV) ?_ | refine cr (hE) ?_ | refine cr (hE2) ?_ | refine cr (hX2) ?_ | ((with_reducible refine call_r ?_); (conv => whnf); (first | with_reducible refine call_i (hX1 _ (by omega)) ?_ | with_reducible refine call_i (hX3 _ (by omega)) ?_); conv => whnf)))); exact ⟨rfl, rfl⟩)
theorem lawKee_c (c : List Int) (hc : ∀ x ∈ c, 0 ≤ x ∧ x ≤ 255) : ConV Tryz.prog 6 [.lst (.int .u8) c] [] (.bool true) [] := by
  obtain ⟨w, kd, a, b, rd, au, dg, ps, pz, hw, hpl, hpz, hd⟩ := ddp_c c hc
  have hI := idp_c hw kd a b rd au dg ps
  have hS := sdp_c hw kd a b rd au dg hpl
  have hV := swV_c w (by have := hw.1; omega)
  refine con_eq Θ_ok Tryz.func6 rfl rfl false 0 4 rfl rfl rfl rfl fun K hK hb1 hb2 => ?_; simp only [argsV, enc, Nat.reduceAdd]
  clear hb1 hb2
  by_cases hl : 1048576 < (c.length : Int)
  · (repeat (any_goals (first | refine st ?_ | ((first | refine go2 fun xe hxe => ?_ | with_reducible refine cnd_d (fun hq => ?_) fun hq => ?_) <;> conv => whnf) | ((with_reducible refine cnd_i (fun hq => ?_) fun hq => ?_) <;> ((try simp only [hqs] at hq) <;> (first | omega | conv => whnf))))))
    (try any_goals (first | exact absurd trivial hq | exact absurd rfl hq | exact absurd hq (by omega) | (exfalso; simp at hq; done)))
    exact ⟨rfl, rfl⟩
  cases hs : wrlS w
  · simp only [hs, Bool.false_eq_true, if_false] at hI hS
    rw [hs] at hV
    rcases hpz with rfl | ⟨rfl, rfl⟩ <;> ((repeat (any_goals (first | refine st ?_ | ((first | refine go2 fun xe hxe => ?_ | with_reducible refine cnd_d (fun hq => ?_) fun hq => ?_) <;> conv => whnf) | ((with_reducible refine cnd_i (fun hq => ?_) fun hq => ?_) <;> ((try simp only [hqs] at hq) <;> (first | omega | conv => whnf))) | refine cr (hd) ?_ | refine cr (hI) ?_ | refine cr (hS) ?_ | refine cr (hV) ?_ | refine cr (sWrl_z) ?_))); exact ⟨rfl, rfl⟩)
  · simp only [hs, if_true] at hI hS
    rw [hs] at hV
    have hok := wok_iff.1 hs
    have hE := sWrl_e (sDo w ⟨kd, a, b, ⟨rd, au, ps, dg⟩⟩)
    have hok2 := sDo_ok hok ⟨kd, a, b, ⟨rd, au, ps, dg⟩⟩
    have hX := iwV_c _ (fun g hg => by have := hok2.vl g hg; omega)
    rw [wok_iff.2 hok2] at hX
    generalize sDo w _ = u at *
    rcases hpz with rfl | ⟨rfl, rfl⟩ <;> ((repeat (any_goals (first | refine st ?_ | ((first | refine go2 fun xe hxe => ?_ | with_reducible refine cnd_d (fun hq => ?_) fun hq => ?_) <;> conv => whnf) | ((with_reducible refine cnd_i (fun hq => ?_) fun hq => ?_) <;> ((try simp only [hqs] at hq) <;> (first | omega | conv => whnf))) | refine cr (hd) ?_ | refine cr (hI) ?_ | refine cr (hS) ?_ | refine cr (hV) ?_ | refine cr (hE) ?_ | refine cr (hX) ?_))); exact ⟨rfl, rfl⟩)
def vts (i0 d i : Nat) : Int := if i0 < i then d else 0
theorem vts_0 (i0 d : Nat) : vts i0 d 0 = 0 := rfl
theorem vts_bd (i0 d i : Nat) : 0 ≤ vts i0 d i ∧ vts i0 d i ≤ d := by unfold vts; split <;> omega
theorem vts_s (i0 d i : Nat) {a b : Nat} (h : a = b + if i = i0 then d else 0) : vts i0 d (i + 1) = vts i0 d i + a - b := by
  unfold vts
  split at h <;> split <;> split <;> omega
theorem lawPrs_c (c : List Int) (hc : ∀ x ∈ c, 0 ≤ x ∧ x ≤ 255) : ConV Tryz.prog 7 [.lst (.int .u8) c] [] (.bool true) [] := by
  obtain ⟨w, kd, a, b, rd, au, dg, ps, pz, hw, hpl, hpz, hd⟩ := ddp_c c hc
  have hI := idp_c hw kd a b rd au dg ps
  have hS := sdp_c hw kd a b rd au dg hpl
  have hV := swV_c w (by have := hw.1; omega)
  refine con_eq Θ_ok Tryz.func7 rfl rfl false 0 4 rfl rfl rfl rfl fun K hK hb1 hb2 => ?_; simp only [argsV, enc, Nat.reduceAdd]
  clear hb1 hb2
  by_cases hl : 1048576 < (c.length : Int)
  · (repeat (any_goals (first | refine st ?_ | ((first | refine go2 fun xe hxe => ?_ | with_reducible refine cnd_d (fun hq => ?_) fun hq => ?_) <;> conv => whnf) | ((with_reducible refine cnd_i (fun hq => ?_) fun hq => ?_) <;> ((try simp only [hqs] at hq) <;> (first | omega | conv => whnf))))))
    (try any_goals (first | exact absurd trivial hq | exact absurd rfl hq | exact absurd hq (by omega) | (exfalso; simp at hq; done)))
    exact ⟨rfl, rfl⟩
  cases hs : wrlS w
  · simp only [hs, Bool.false_eq_true, if_false] at hI hS
    rw [hs] at hV
    rcases hpz with rfl | ⟨rfl, rfl⟩ <;> ((repeat (any_goals (first | refine st ?_ | ((first | refine go2 fun xe hxe => ?_ | with_reducible refine cnd_d (fun hq => ?_) fun hq => ?_) <;> conv => whnf) | ((with_reducible refine cnd_i (fun hq => ?_) fun hq => ?_) <;> ((try simp only [hqs] at hq) <;> (first | omega | conv => whnf))) | refine cr (hd) ?_ | refine cr (hI) ?_ | refine cr (hS) ?_ | refine cr (hV) ?_ | refine cr (sWrl_z) ?_))); exact ⟨rfl, rfl⟩)
  · simp only [hs, if_true] at hI hS
    rw [hs] at hV
    have hok := wok_iff.1 hs
    have hE := sWrl_e (sDo w ⟨kd, a, b, ⟨rd, au, ps, dg⟩⟩)
    have hpn := hok.plen
    have hmm := hok.mem
    obtain ⟨i0, dd, n, f1, f2, f3⟩ := pro_facts hok ⟨kd, a, b, ⟨rd, au, ps, dg⟩⟩
    generalize sDo w _ = u at *
    rcases hpz with rfl | ⟨rfl, rfl⟩ <;> (
      (repeat (any_goals (first | refine st ?_ | ((first | refine go2 fun xe hxe => ?_ | with_reducible refine cnd_d (fun hq => ?_) fun hq => ?_) <;> conv => whnf) | ((with_reducible refine cnd_i (fun hq => ?_) fun hq => ?_) <;> ((try simp only [hqs] at hq) <;> (first | omega | conv => whnf))) | refine cr (hd) ?_ | refine cr (hI) ?_ | refine cr (hS) ?_ | refine cr (hV) ?_ | refine cr (hE) ?_)))
      (try any_goals (first | exact absurd trivial hq | exact absurd rfl hq | exact absurd hq (by omega) | (exfalso; simp at hq; done)))
      refine at_loop hK [] [3, 5, 7, 8, 9] (fun i : Nat => ⟨[(3, .ptr 4 0), (5, .ptr 5 0), (7, .int .i64 (u.props.length - w.props.length)), (8, .int .i64 (vts i0 dd i)), (9, .int .i64 (i : Int))], [(4, .var 27 (wrlA w).cells), (5, .var 27 (wrlA u).cells)], 6⟩) (fun i => i ≤ w.props.length) (fun i => w.props.length - i) 0 (by simp) (by rw [vts_0]; rfl) ?_
      intro i hi
      have hz := vts_bd i0 dd i
      by_cases hlt : i < w.props.length
      · obtain ⟨p, hx⟩ : ∃ p, w.props[i]? = some p := ⟨_, List.getElem?_eq_getElem hlt⟩
        obtain ⟨q, hy, qv, qm, qn⟩ : ∃ q, u.props[i]? = some q ∧ q.v = p.v ∧ (∀ m ∈ p.members, m ∈ q.members) ∧ q.members.length = p.members.length + if i = i0 then dd else 0 := by
          obtain ⟨l, g1, g2, g3⟩ := f3 i _ hx
          exact ⟨_, g1, rfl, g2, g3⟩
        have hm1 := hmm _ (List.mem_of_getElem? hx)
        have hC := com_c p.members q.members (by omega)
        rw [comm_self qm] at hC
        have hV2 := sVtx_e p.v
        rw [show vtxA p.v = vtxA q.v from by rw [qv]] at hV2
        have hV3 : ConV Tryz.prog 16 [vtxA q.v, vtxA p.v] [] (.bool true) [] := by rw [← qv]; exact hV2
        have hsn := vts_s i0 dd i qn
        have hql : q.members.length ≤ 10 := by split at qn <;> omega
        generalize vts i0 dd i = z at *
        (repeat (any_goals (first | refine st ?_ | ((first | refine go2 fun xe hxe => ?_ | with_reducible refine cnd_d (fun hq => ?_) fun hq => ?_) <;> conv => whnf) | ((with_reducible refine cnd_i (fun hq => ?_) fun hq => ?_) <;> ((try simp only [hqs] at hq) <;> (first | omega | conv => whnf))) | refine cr (hV3) ?_ | refine cr (hC) ?_)))
        (try any_goals (first | exact absurd trivial hq | exact absurd rfl hq | exact absurd hq (by omega) | (exfalso; simp at hq; done)))
        exact ⟨i + 1, by omega, by omega, by rw [hsn]; rfl⟩
      · generalize vts i0 dd i = z at *
        (repeat (any_goals (first | refine st ?_ | ((first | refine go2 fun xe hxe => ?_ | with_reducible refine cnd_d (fun hq => ?_) fun hq => ?_) <;> conv => whnf) | ((with_reducible refine cnd_i (fun hq => ?_) fun hq => ?_) <;> ((try simp only [hqs] at hq) <;> (first | omega | conv => whnf))))))
        (try any_goals (first | exact absurd trivial hq | exact absurd rfl hq | exact absurd hq (by omega) | (exfalso; simp at hq; done)))
        exact ⟨congrArg V.bool (decide_eq_true (by omega)), rfl⟩)
theorem lawPly_c (c d : List Int) (hc : ∀ x ∈ c, 0 ≤ x ∧ x ≤ 255) (hdd : ∀ x ∈ d, 0 ≤ x ∧ x ≤ 255) : ConV Tryz.prog 8 [.lst (.int .u8) c, .lst (.int .u8) d] [] (.bool true) [] := by
  obtain ⟨⟨w, es⟩, ⟨hw, he1, he2⟩, hd⟩ := dpl_c c hc
  dsimp only at hw he1 he2 hd
  obtain ⟨w2, kd, a, b, rd, au, dg, ps, pz, hw2, hpl, hpz, hd2⟩ := ddp_c d hdd
  have hI := iply_c w es (fun g hg => by have := hw.vl g hg; omega) (by omega)
  have hS := swpl_c w es (by have := hw.len; omega) (by omega) (fun e he => by have := he2 e he; omega)
  have hI3 := iply_c w (es ++ [⟨kd, a, b, ⟨rd, au, ps, dg⟩⟩]) (fun g hg => by have := hw.vl g hg; omega) (by simp; omega)
  rw [wok_iff.2 hw, Bool.and_true] at hI hS hI3
  refine con_eq Θ_ok Tryz.func8 rfl rfl false 0 4 rfl rfl rfl rfl fun K hK hb1 hb2 => ?_; simp only [argsV, enc, Nat.reduceAdd]
  clear hb1 hb2
  by_cases hl : 1048576 < (c.length : Int)
  · (repeat (any_goals (first | refine st ?_ | ((first | refine go2 fun xe hxe => ?_ | with_reducible refine cnd_d (fun hq => ?_) fun hq => ?_) <;> conv => whnf) | ((with_reducible refine cnd_i (fun hq => ?_) fun hq => ?_) <;> ((try simp only [hqs] at hq) <;> (first | omega | conv => whnf))))))
    (try any_goals (first | exact absurd trivial hq | exact absurd rfl hq | exact absurd hq (by omega) | (exfalso; simp at hq; done)))
    exact ⟨rfl, rfl⟩
  by_cases hl2 : 1048576 < (d.length : Int)
  · (repeat (any_goals (first | refine st ?_ | ((first | refine go2 fun xe hxe => ?_ | with_reducible refine cnd_d (fun hq => ?_) fun hq => ?_) <;> conv => whnf) | ((with_reducible refine cnd_i (fun hq => ?_) fun hq => ?_) <;> ((try simp only [hqs] at hq) <;> (first | omega | conv => whnf))))))
    (try any_goals (first | exact absurd trivial hq | exact absurd rfl hq | exact absurd hq (by omega) | (exfalso; simp at hq; done)))
    exact ⟨rfl, rfl⟩
  by_cases h80 : es.length ≤ 80
  · rw [decide_eq_true h80] at hI hS
    simp only [if_true] at hI hS
    have hu := sPlay_ok hw es
    have hE := sWrl_e (sPlay w es)
    by_cases h79 : es.length = 80
    · generalize sPlay w es = u at *
      (repeat (any_goals (first | refine st ?_ | ((first | refine go2 fun xe hxe => ?_ | with_reducible refine cnd_d (fun hq => ?_) fun hq => ?_) <;> conv => whnf) | ((with_reducible refine cnd_i (fun hq => ?_) fun hq => ?_) <;> ((try simp only [hqs] at hq) <;> (first | omega | conv => whnf))) | refine cr (hd) ?_ | refine cr (hI) ?_ | refine cr (hS) ?_ | refine cr (hE) ?_)))
      (try any_goals (first | exact absurd trivial hq | exact absurd rfl hq | exact absurd hq (by omega) | (exfalso; simp at hq; done)))
      exact ⟨rfl, rfl⟩
    · rw [decide_eq_true (by simp; omega), sPlay_snoc] at hI3
      simp only [if_true] at hI3
      have hI2 := idp_c hu.sm kd a b rd au dg ps
      rw [if_pos (wok_iff.2 hu)] at hI2
      have hE2 := sWrl_e (sDo (sPlay w es) ⟨kd, a, b, ⟨rd, au, ps, dg⟩⟩)
      generalize sPlay w es = u at *
      generalize sDo u _ = u2 at *
      rcases hpz with rfl | ⟨rfl, rfl⟩ <;> ((repeat (any_goals (first | refine st ?_ | ((first | refine go2 fun xe hxe => ?_ | with_reducible refine cnd_d (fun hq => ?_) fun hq => ?_) <;> conv => whnf) | ((with_reducible refine cnd_i (fun hq => ?_) fun hq => ?_) <;> ((try simp only [hqs] at hq) <;> (first | omega | conv => whnf))) | refine cr (hd) ?_ | refine cr (hI) ?_ | refine cr (hS) ?_ | refine cr (hE) ?_ | refine cr (hd2) ?_))); ((with_reducible refine call_r ?_); (conv => whnf)); refine call_i hI3 ?_; (conv => whnf); (repeat (any_goals (first | refine st ?_ | ((first | refine go2 fun xe hxe => ?_ | with_reducible refine cnd_d (fun hq => ?_) fun hq => ?_) <;> conv => whnf) | ((with_reducible refine cnd_i (fun hq => ?_) fun hq => ?_) <;> ((try simp only [hqs] at hq) <;> (first | omega | conv => whnf))) | refine cr (hI2) ?_ | refine cr (hE2) ?_))); exact ⟨rfl, rfl⟩)
  · rw [decide_eq_false h80] at hI hS
    simp only [Bool.false_eq_true, if_false] at hI hS
    (repeat (any_goals (first | refine st ?_ | ((first | refine go2 fun xe hxe => ?_ | with_reducible refine cnd_d (fun hq => ?_) fun hq => ?_) <;> conv => whnf) | ((with_reducible refine cnd_i (fun hq => ?_) fun hq => ?_) <;> ((try simp only [hqs] at hq) <;> (first | omega | conv => whnf))) | refine cr (hd) ?_ | refine cr (hI) ?_ | refine cr (hS) ?_ | refine cr (sWrl_z) ?_)))
    (try any_goals (first | exact absurd trivial hq | exact absurd rfl hq | exact absurd hq (by omega) | (exfalso; simp at hq; done)))
    exact ⟨rfl, rfl⟩
end Go.Proofs.YtapkflbaenbgiabGreat.Am
