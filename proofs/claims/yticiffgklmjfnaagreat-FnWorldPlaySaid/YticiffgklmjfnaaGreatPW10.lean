/- What is drawn for runs: whole runs, runs that are often invalid. Certified proposals: the law FnWorldCertified. Runs: the reference's WorldDo and WorldPlay; what is drawn for them. -/
import Derived.Test.YticiffgklmjfnaaGreatPW9
namespace Go.Proofs.YticiffgklmjfnaaGreat.Am
set_option linter.unusedSimpArgs false
set_option linter.unusedVariables false
open Go
attribute [local irreducible] Mk Need Ari Get Idx Cnd CallM CallA Opt Unch At ConV
set_option maxRecDepth 10000
theorem scpo_c (w : Wrl) (h : WOK w) : ConV Tryz.prog 42 [wrlA w] [] (.agg [.ref 4, .ref 5, .int .i64 w.bad, .ref 6, .ref 7]) [(4, .row 3 (.int .i64) w.com), (5, .row 3 (.int .i64) w.lead), (6, .row 40 (.lst .vtx) w.views), (7, .row 38 .ppl w.props)] := by
  have h7 := h.len
  have hvl := h.vlen
  have hpl := h.plen
  have hll := (leaS_iff.1 h.lead).2
  refine con_eq Θ_ok Tryz.func42 rfl rfl false 0 4 rfl rfl rfl rfl fun K hK hb1 hb2 => ?_; simp only [argsV, enc, Nat.reduceAdd]
  clear hb1 hb2
  (repeat (any_goals (first | refine st ?_ | ((first | refine go2 fun xe hxe => ?_ | with_reducible refine cnd_d (fun hq => ?_) fun hq => ?_) <;> conv => whnf) | ((with_reducible refine cnd_i (fun hq => ?_) fun hq => ?_) <;> ((try simp only [hqs] at hq) <;> (first | omega | conv => whnf))))))
  refine at_loop hK [] [1, 2, 3, 4] (fun i : Nat => ⟨[(1, .ptr 4 0), (2, .ptr 5 0), (3, .ptr 6 0), (4, .int .i64 (i : Int))], [(4, .var 27 (wrlA w).cells), (5, .var 27 wZv), (6, .var 27 [.ref 7, .ref 8, .int .i64 w.bad, .ref 9, .ref 10]), (7, .row 3 (.int .i64) w.com), (8, .row 3 (.int .i64) w.lead), (9, .row 40 (.lst .vtx) (w.views.take i)), (10, .row 38 .ppl [])], 11⟩) (fun i => i ≤ w.views.length) (fun i => w.views.length - i) 0 (by omega) rfl ?_
  intro i hi
  by_cases hlt : i < w.views.length
  · have hxe : w.views[i]? = some w.views[i] := List.getElem?_eq_getElem hlt
    have hsn : w.views.take (i + 1) = w.views.take i ++ [w.views[i]] := List.take_succ_eq_append_getElem hlt
    have hgm := List.getElem_mem hlt
    have hC := scopy_c w.views[i] (by have := h.vl _ hgm; omega) fun v hv => by have := h.par (h.vv _ hgm v hv); omega
    have hl1 : (w.views.take i).length = i := by rw [List.length_take]; omega
    generalize w.views[i] = g at *
    generalize w.views.take i = l at *
    (repeat (any_goals (first | refine st ?_ | ((first | refine go2 fun xe hxe => ?_ | with_reducible refine cnd_d (fun hq => ?_) fun hq => ?_) <;> conv => whnf) | ((with_reducible refine cnd_i (fun hq => ?_) fun hq => ?_) <;> ((try simp only [hqs] at hq) <;> (first | omega | conv => whnf))) | refine cr (hC) ?_)))
    exact ⟨i + 1, by omega, by omega, by rw [hsn]; rfl⟩
  rw [List.take_of_length_le (by omega)]
  (repeat (any_goals (first | refine st ?_ | ((first | refine go2 fun xe hxe => ?_ | with_reducible refine cnd_d (fun hq => ?_) fun hq => ?_) <;> conv => whnf) | ((with_reducible refine cnd_i (fun hq => ?_) fun hq => ?_) <;> ((try simp only [hqs] at hq) <;> (first | omega | conv => whnf))))))
  refine at_loop hK [] [1, 2, 3, 5] (fun i : Nat => ⟨[(1, .ptr 4 0), (2, .ptr 5 0), (3, .ptr 6 0), (5, .int .i64 (i : Int))], [(4, .var 27 (wrlA w).cells), (5, .var 27 wZv), (6, .var 27 [.ref 7, .ref 8, .int .i64 w.bad, .ref 9, .ref 10]), (7, .row 3 (.int .i64) w.com), (8, .row 3 (.int .i64) w.lead), (9, .row 40 (.lst .vtx) w.views), (10, .row 38 .ppl (w.props.take i))], 11⟩) (fun i => i ≤ w.props.length) (fun i => w.props.length - i) 0 (by omega) rfl ?_
  intro k hk
  by_cases hkl : k < w.props.length
  · have hxe : w.props[k]? = some w.props[k] := List.getElem?_eq_getElem hkl
    have hsn : w.props.take (k + 1) = w.props.take k ++ [w.props[k]] := List.take_succ_eq_append_getElem hkl
    have hpm := List.getElem_mem hkl
    have hC := sone_c w.props[k].v (by have := h.par (h.pv _ hpm).1; omega)
    have hm := h.mem _ hpm
    have hl1 : (w.props.take k).length = k := by rw [List.length_take]; omega
    generalize w.props[k] = p at *
    generalize w.props.take k = l at *
    (repeat (any_goals (first | refine st ?_ | ((first | refine go2 fun xe hxe => ?_ | with_reducible refine cnd_d (fun hq => ?_) fun hq => ?_) <;> conv => whnf) | ((with_reducible refine cnd_i (fun hq => ?_) fun hq => ?_) <;> ((try simp only [hqs] at hq) <;> (first | omega | conv => whnf))) | refine cr (hC) ?_)))
    exact ⟨k + 1, by omega, by omega, by rw [hsn]; rfl⟩
  · (repeat (any_goals (first | refine st ?_ | ((first | refine go2 fun xe hxe => ?_ | with_reducible refine cnd_d (fun hq => ?_) fun hq => ?_) <;> conv => whnf) | ((with_reducible refine cnd_i (fun hq => ?_) fun hq => ?_) <;> ((try simp only [hqs] at hq) <;> (first | omega | conv => whnf))))))
    rw [List.take_of_length_le (by omega)]
    exact ⟨rfl, rfl⟩
theorem evtZ_do (w : Wrl) (z : Bool) (e : Evt) (h : WOK w) (hvl : e.v.parents.length ≤ 30) (hz : z = true → e.v.parents = []) : ConV Tryz.prog 38 [wrlA w, .agg [.int .i64 e.kind, .int .i64 e.a, .int .i64 e.b, .int .i64 e.v.round, .int .i64 e.v.author, .lst (.int .i64) e.v.parents, .int .i64 e.v.digest]] [] (wrlA (sDo w e)) [] :=
  sdo_c w e h (by omega)
set_option maxHeartbeats 1000000 in
theorem dwld_c (b : List Int) (p : Int) (h : rdOK b 0) (hp : 0 ≤ p ∧ p ≤ 500000) : ∃ x : Wrl × Int, (p ≤ x.2 ∧ x.2 ≤ p + 6000 ∧ WOK x.1) ∧ ConV Tryz.prog 50 [.ptr 4 0] [(4, rdB b p)] (wrlA x.1) [(4, rdB b x.2)] := by
  obtain ⟨⟨w0, q⟩, ⟨h1, h2, h3⟩, hB⟩ := dbeg_c b p h (by omega)
  dsimp only at h1 h2 h3 hB
  obtain ⟨m, hm, hmc⟩ := pk_c b q 3 h (by omega) (by omega)
  obtain ⟨r, hr, hrc⟩ := pk_c b (q + 1) 5 h (by omega) (by omega)
  obtain ⟨r, rfl⟩ : ∃ k : Nat, (k : Int) = r := ⟨r.toNat, by omega⟩
  have hC := scalm_c w0 r h3 (by omega)
  have hco := calmTo_ok h3 r
  suffices hs : ∃ r hout, (∃ x : Wrl × Int, (p ≤ x.2 ∧ x.2 ≤ p + 6000 ∧ WOK x.1) ∧ r = wrlA x.1 ∧ hout = [(4, rdB b x.2)]) ∧ ConV Tryz.prog 50 [.ptr 4 0] [(4, rdB b p)] r hout by
    obtain ⟨r, hout, ⟨v, hv, rfl, rfl⟩, h⟩ := hs
    exact ⟨v, hv, h⟩
  refine con_ex Θ_ok Tryz.func50 rfl rfl true 1 5 rfl rfl rfl rfl (R := fun r hout => ∃ x : Wrl × Int, (p ≤ x.2 ∧ x.2 ≤ p + 6000 ∧ WOK x.1) ∧ r = wrlA x.1 ∧ hout = [(4, rdB b x.2)]) (r0 := wrlA w0) (hout0 := [(4, rdB b p)]) (⟨(w0, p), ⟨by dsimp only; omega, by dsimp only; omega, h3⟩, rfl, rfl⟩) fun K hK hb1 hb2 => ?_; simp only [argsV, enc, Nat.reduceAdd]
  clear hb1 hb2
  generalize calmTo w0 r = w1 at *
  have body : ∀ (K : Id → Prop) (c : Code) (i : Nat) (w : Wrl) (q2 : Int), True := fun _ _ _ _ _ => trivial
  by_cases hm0 : 0 < m
  · (repeat (any_goals (first | refine st ?_ | ((first | refine go2 fun xe hxe => ?_ | with_reducible refine cnd_d (fun hq => ?_) fun hq => ?_) <;> conv => whnf) | ((with_reducible refine cnd_i (fun hq => ?_) fun hq => ?_) <;> ((try simp only [hqs] at hq) <;> (first | omega | conv => whnf))) | refine cr (hmc) ?_ | refine cr (hrc) ?_ | refine cr (hC) ?_ | refine co (hB) ?_)))
    refine at_loop hK [] [0, 2, 3, 4] (fun x : Nat × Wrl × Int => ⟨[(0, .ptr 4 0), (2, .ptr 5 0), (3, .ptr 6 0), (4, .int .i64 x.1)], [(4, rdB b x.2.2), (5, .var 27 wZv), (6, .var 27 (wrlA x.2.1).cells)], 7⟩)
      (fun x => x.1 ≤ 69 ∧ WOK x.2.1 ∧ p ≤ x.2.2 ∧ x.2.2 ≤ p + 100 + 61 * x.1) (fun x => 70 - x.1) (0, w1, q + 1 + 1) ⟨by dsimp only; omega, hco, by dsimp only; omega, by dsimp only; omega⟩ rfl ?_
    rintro ⟨i, w, q2⟩ ⟨hi1, hi2, hi3, hi4⟩
    dsimp only at hi1 hi2 hi3 hi4 ⊢
    obtain ⟨n, hn, hnc⟩ := pk_c b q2 70 h (by omega) (by omega)
    obtain ⟨⟨⟨z, e⟩, q3⟩, ⟨e1, e2, e3, e4⟩, hE⟩ := devt_c b (q2 + 1) w h (by omega) hi2
    dsimp only at e1 e2 e3 e4 hE
    have hD := evtZ_do w z e hi2 e3 e4
    have hdo := sDo_ok hi2 e
    by_cases hlt : (i : Int) < n
    · cases z with
      | false =>
        have hE : ConV Tryz.prog 37 [.ptr 4 0, wrlA w] [(4, rdB b (q2 + 1))] (evtA e) [(4, rdB b q3)] := hE
        generalize sDo w e = w2 at *
        (repeat (any_goals (first | refine st ?_ | ((first | refine go2 fun xe hxe => ?_ | with_reducible refine cnd_d (fun hq => ?_) fun hq => ?_) <;> conv => whnf) | ((with_reducible refine cnd_i (fun hq => ?_) fun hq => ?_) <;> ((try simp only [hqs] at hq) <;> (first | omega | conv => whnf))) | refine cr (hnc) ?_ | refine cr (hD) ?_ | refine co (hE) ?_)))
        exact ⟨(i + 1, w2, q3), ⟨by dsimp only; omega, hdo, by dsimp only; omega, by dsimp only; omega⟩, by dsimp only; omega, rfl⟩
      | true =>
        have hE : ConV Tryz.prog 37 [.ptr 4 0, wrlA w] [(4, rdB b (q2 + 1))] (.agg [.int .i64 e.kind, .int .i64 e.a, .int .i64 e.b, .int .i64 e.v.round, .int .i64 e.v.author, .nils, .int .i64 e.v.digest]) [(4, rdB b q3)] := hE
        rw [e4 rfl] at hD
        generalize sDo w e = w2 at *
        (repeat (any_goals (first | refine st ?_ | ((first | refine go2 fun xe hxe => ?_ | with_reducible refine cnd_d (fun hq => ?_) fun hq => ?_) <;> conv => whnf) | ((with_reducible refine cnd_i (fun hq => ?_) fun hq => ?_) <;> ((try simp only [hqs] at hq) <;> (first | omega | conv => whnf))) | refine cr (hnc) ?_ | refine cr (hD) ?_ | refine co (hE) ?_)))
        exact ⟨(i + 1, w2, q3), ⟨by dsimp only; omega, hdo, by dsimp only; omega, by dsimp only; omega⟩, by dsimp only; omega, rfl⟩
    · (repeat (any_goals (first | refine st ?_ | ((first | refine go2 fun xe hxe => ?_ | with_reducible refine cnd_d (fun hq => ?_) fun hq => ?_) <;> conv => whnf) | ((with_reducible refine cnd_i (fun hq => ?_) fun hq => ?_) <;> ((try simp only [hqs] at hq) <;> (first | omega | conv => whnf))) | refine cr (hnc) ?_)))
      exact ⟨(w, q2 + 1), ⟨by dsimp only; omega, by dsimp only; omega, hi2⟩, rfl, rfl⟩
  · (repeat (any_goals (first | refine st ?_ | ((first | refine go2 fun xe hxe => ?_ | with_reducible refine cnd_d (fun hq => ?_) fun hq => ?_) <;> conv => whnf) | ((with_reducible refine cnd_i (fun hq => ?_) fun hq => ?_) <;> ((try simp only [hqs] at hq) <;> (first | omega | conv => whnf))) | refine cr (hmc) ?_ | refine co (hB) ?_)))
    refine at_loop hK [] [0, 2, 3, 4] (fun x : Nat × Wrl × Int => ⟨[(0, .ptr 4 0), (2, .ptr 5 0), (3, .ptr 6 0), (4, .int .i64 x.1)], [(4, rdB b x.2.2), (5, .var 27 wZv), (6, .var 27 (wrlA x.2.1).cells)], 7⟩)
      (fun x => x.1 ≤ 69 ∧ WOK x.2.1 ∧ p ≤ x.2.2 ∧ x.2.2 ≤ p + 100 + 61 * x.1) (fun x => 70 - x.1) (0, w0, q + 1) ⟨by dsimp only; omega, h3, by dsimp only; omega, by dsimp only; omega⟩ rfl ?_
    rintro ⟨i, w, q2⟩ ⟨hi1, hi2, hi3, hi4⟩
    dsimp only at hi1 hi2 hi3 hi4 ⊢
    obtain ⟨n, hn, hnc⟩ := pk_c b q2 70 h (by omega) (by omega)
    obtain ⟨⟨⟨z, e⟩, q3⟩, ⟨e1, e2, e3, e4⟩, hE⟩ := devt_c b (q2 + 1) w h (by omega) hi2
    dsimp only at e1 e2 e3 e4 hE
    have hD := evtZ_do w z e hi2 e3 e4
    have hdo := sDo_ok hi2 e
    by_cases hlt : (i : Int) < n
    · cases z with
      | false =>
        have hE : ConV Tryz.prog 37 [.ptr 4 0, wrlA w] [(4, rdB b (q2 + 1))] (evtA e) [(4, rdB b q3)] := hE
        generalize sDo w e = w2 at *
        (repeat (any_goals (first | refine st ?_ | ((first | refine go2 fun xe hxe => ?_ | with_reducible refine cnd_d (fun hq => ?_) fun hq => ?_) <;> conv => whnf) | ((with_reducible refine cnd_i (fun hq => ?_) fun hq => ?_) <;> ((try simp only [hqs] at hq) <;> (first | omega | conv => whnf))) | refine cr (hnc) ?_ | refine cr (hD) ?_ | refine co (hE) ?_)))
        exact ⟨(i + 1, w2, q3), ⟨by dsimp only; omega, hdo, by dsimp only; omega, by dsimp only; omega⟩, by dsimp only; omega, rfl⟩
      | true =>
        have hE : ConV Tryz.prog 37 [.ptr 4 0, wrlA w] [(4, rdB b (q2 + 1))] (.agg [.int .i64 e.kind, .int .i64 e.a, .int .i64 e.b, .int .i64 e.v.round, .int .i64 e.v.author, .nils, .int .i64 e.v.digest]) [(4, rdB b q3)] := hE
        rw [e4 rfl] at hD
        generalize sDo w e = w2 at *
        (repeat (any_goals (first | refine st ?_ | ((first | refine go2 fun xe hxe => ?_ | with_reducible refine cnd_d (fun hq => ?_) fun hq => ?_) <;> conv => whnf) | ((with_reducible refine cnd_i (fun hq => ?_) fun hq => ?_) <;> ((try simp only [hqs] at hq) <;> (first | omega | conv => whnf))) | refine cr (hnc) ?_ | refine cr (hD) ?_ | refine co (hE) ?_)))
        exact ⟨(i + 1, w2, q3), ⟨by dsimp only; omega, hdo, by dsimp only; omega, by dsimp only; omega⟩, by dsimp only; omega, rfl⟩
    · (repeat (any_goals (first | refine st ?_ | ((first | refine go2 fun xe hxe => ?_ | with_reducible refine cnd_d (fun hq => ?_) fun hq => ?_) <;> conv => whnf) | ((with_reducible refine cnd_i (fun hq => ?_) fun hq => ?_) <;> ((try simp only [hqs] at hq) <;> (first | omega | conv => whnf))) | refine cr (hnc) ?_)))
      exact ⟨(w, q2 + 1), ⟨by dsimp only; omega, by dsimp only; omega, hi2⟩, rfl, rfl⟩
def WSm (w : Wrl) : Prop := w.com.length ≤ 1000 ∧ ∀ g ∈ w.views, g.length ≤ 1000
theorem WOK.sm {w : Wrl} (h : WOK w) : WSm w := ⟨by have := h.len; omega, fun g hg => by have := h.vl g hg; omega⟩
theorem cut_mem {α : Type} {xs : List α} {lo hi : Option V} {a b : Nat} {x : α} (h : x ∈ cutL xs lo hi a b) : x ∈ xs := by
  unfold cutL at h
  split at h
  · exact h
  · exact List.mem_of_mem_take h
  · exact List.mem_of_mem_drop h
  · exact List.mem_of_mem_take (List.mem_of_mem_drop h)
theorem cut_len {α : Type} (xs : List α) (lo hi : Option V) (a b : Nat) : (cutL xs lo hi a b).length ≤ xs.length := by
  unfold cutL
  split
  · omega
  · rw [List.length_take]; omega
  · rw [List.length_drop]; omega
  · rw [List.length_drop, List.length_take]; omega
theorem wsm_cut {vs : List (List Vtx)} {lo hi : Option V} {a b : Nat} (h : ∀ g ∈ vs, g.length ≤ 1000) : ∀ g ∈ cutL vs lo hi a b, g.length ≤ 1000 := fun g hg => h g (cut_mem hg)
theorem wsm_set {vs : List (List Vtx)} {k k2 : Nat} {g0 : List Vtx} {lo hi : Option V} {a b : Nat} (h : ∀ g ∈ vs, g.length ≤ 1000) (hx : vs[k2]? = some g0) : ∀ g ∈ vs.set k (cutL g0 lo hi a b), g.length ≤ 1000 := fun g hg => by
  rcases mem_set hg with rfl | hg
  · have h1 := cut_len g0 lo hi a b
    have h2 := h g0 (List.mem_of_getElem? hx)
    omega
  · exact h g hg
theorem wrg_i {b : List Int} {p q : Int} {c l : List Int} {bd : Int} {vs : List (List Vtx)} {ps : List Ppl} (h1 : p ≤ q ∧ q ≤ p + 6100) (h2 : c.length ≤ 1000) (h3 : ∀ g ∈ vs, g.length ≤ 1000) : ∃ x : Wrl × Int, (p ≤ x.2 ∧ x.2 ≤ p + 6100 ∧ WSm x.1) ∧ V.agg [.lst (.int .i64) c, .lst (.int .i64) l, .int .i64 bd, .lst (.lst .vtx) vs, .lst .ppl ps] = wrlA x.1 ∧ ([(4, rdB b q)] : VH) = [(4, rdB b x.2)] := ⟨(⟨c, l, bd, vs, ps⟩, q), ⟨h1.1, h1.2, h2, h3⟩, rfl, rfl⟩
set_option maxHeartbeats 1000000 in
theorem dwrg_c (b : List Int) (p : Int) (h : rdOK b 0) (hp : 0 ≤ p ∧ p ≤ 400000) : ∃ x : Wrl × Int, (p ≤ x.2 ∧ x.2 ≤ p + 6100 ∧ WSm x.1) ∧ ConV Tryz.prog 51 [.ptr 4 0] [(4, rdB b p)] (wrlA x.1) [(4, rdB b x.2)] := by
  obtain ⟨⟨w, q⟩, ⟨h1, h2, h3⟩, hB⟩ := dwld_c b p h (by omega)
  dsimp only at h1 h2 h3 hB
  have hC := scpo_c w h3
  have h7 := h3.len
  have hvl := h3.vlen
  have hpl := h3.plen
  have hll := (leaS_iff.1 h3.lead).2
  have hsm := h3.sm
  suffices hs : ∃ r hout, (∃ x : Wrl × Int, (p ≤ x.2 ∧ x.2 ≤ p + 6100 ∧ WSm x.1) ∧ r = wrlA x.1 ∧ hout = [(4, rdB b x.2)]) ∧ ConV Tryz.prog 51 [.ptr 4 0] [(4, rdB b p)] r hout by
    obtain ⟨r, hout, ⟨v, hv, rfl, rfl⟩, h⟩ := hs
    exact ⟨v, hv, h⟩
  refine con_ex Θ_ok Tryz.func51 rfl rfl true 1 5 rfl rfl rfl rfl (R := fun r hout => ∃ x : Wrl × Int, (p ≤ x.2 ∧ x.2 ≤ p + 6100 ∧ WSm x.1) ∧ r = wrlA x.1 ∧ hout = [(4, rdB b x.2)]) (r0 := wrlA w) (hout0 := [(4, rdB b p)]) (⟨(w, p), ⟨by dsimp only; omega, by dsimp only; omega, hsm⟩, rfl, rfl⟩) fun K hK hb1 hb2 => ?_; simp only [argsV, enc, Nat.reduceAdd]
  clear hb1 hb2
  (repeat (any_goals (first | refine st ?_ | ((first | refine go2 fun xe hxe => ?_ | with_reducible refine cnd_d (fun hq => ?_) fun hq => ?_) <;> conv => whnf) | ((with_reducible refine cnd_i (fun hq => ?_) fun hq => ?_) <;> ((try simp only [hqs] at hq) <;> (first | omega | conv => whnf))) | refine cr (hC) ?_ | ((with_reducible refine call_r ?_); (conv => whnf); (first | refine call_ex (pk_c b _ _ h (by omega) (by omega)) fun xv hxv => ?_ | refine call_ex (ddig_c b _ h (by omega)) fun xv hxv => ?_ | refine call_ex (dmem_c b _ _ h (by omega) (by omega)) fun xv hxv => ?_); conv => whnf) | refine co (hB) ?_)))
  all_goals refine wrg_i ?_ ?_ ?_
  all_goals first | omega | (rw [List.length_set]; omega) | omega | exact hsm.2 | exact wsm_cut hsm.2 | exact wsm_set hsm.2 hxe | (exact wsm_set hsm.2 (by assumption))
end Go.Proofs.YticiffgklmjfnaaGreat.Am
namespace Go.Proofs.YticiffgklmjfnaaGreat.Am
set_option linter.unusedSimpArgs false
set_option linter.unusedVariables false
open Go
attribute [local irreducible] Mk Need Ari Get Idx Cnd CallM CallA Opt Unch At ConV
set_option maxRecDepth 10000
theorem hasI_c (l : List Int) (n : Int) : ConV Tryz.prog 46 [.lst (.int .i64) l, .int .i64 n] [] (.bool (l.contains n)) [] := by
  refine con_eq Θ_ok Tryz.func46 rfl rfl false 0 4 rfl rfl rfl rfl fun K hK hb1 hb2 => ?_; simp only [argsV, enc, Nat.reduceAdd]
  simp [toDL, V.toD, bnd, encD, D.cells] at hb1
  (repeat (any_goals (first | refine st ?_ | ((first | refine go2 fun xe hxe => ?_ | with_reducible refine cnd_d (fun hq => ?_) fun hq => ?_) <;> conv => whnf) | ((with_reducible refine cnd_i (fun hq => ?_) fun hq => ?_) <;> ((try simp only [hqs] at hq) <;> (first | omega | conv => whnf))))))
  refine at_loop hK [] [0, 1, 5] (fun i : Nat => ⟨[(0, .lst (.int .i64) l), (1, .int .i64 n), (5, .int .i64 i)], [], 4⟩) (fun i => i ≤ l.length ∧ ∀ y ∈ l.take i, (y == n) = false) (fun i => l.length - i) 0 ⟨by simp, by simp⟩ rfl ?_
  rintro i ⟨hi, hall⟩
  by_cases hlt : i < l.length
  · have hxe : l[i]? = some l[i] := List.getElem?_eq_getElem hlt
    have hsn : l.take (i + 1) = l.take i ++ [l[i]] := List.take_succ_eq_append_getElem hlt
    have hm : l[i] ∈ l := List.getElem_mem hlt
    generalize l[i] = x at *
    by_cases h : x = n
    · subst h
      (repeat (any_goals (first | refine st ?_ | ((first | refine go2 fun xe hxe => ?_ | with_reducible refine cnd_d (fun hq => ?_) fun hq => ?_) <;> conv => whnf) | ((with_reducible refine cnd_i (fun hq => ?_) fun hq => ?_) <;> ((try simp only [hqs] at hq) <;> (first | omega | conv => whnf))))))
      · rw [List.contains_iff_mem.2 hm]
        exact ⟨rfl, rfl⟩
      · exact absurd trivial hq
    · (repeat (any_goals (first | refine st ?_ | ((first | refine go2 fun xe hxe => ?_ | with_reducible refine cnd_d (fun hq => ?_) fun hq => ?_) <;> conv => whnf) | ((with_reducible refine cnd_i (fun hq => ?_) fun hq => ?_) <;> ((try simp only [hqs] at hq) <;> (first | omega | conv => whnf))))))
      exact ⟨i + 1, ⟨by omega, by rw [hsn]; exact tk_snoc hall (by simpa using h)⟩, by omega, rfl⟩
  · (repeat (any_goals (first | refine st ?_ | ((first | refine go2 fun xe hxe => ?_ | with_reducible refine cnd_d (fun hq => ?_) fun hq => ?_) <;> conv => whnf) | ((with_reducible refine cnd_i (fun hq => ?_) fun hq => ?_) <;> ((try simp only [hqs] at hq) <;> (first | omega | conv => whnf))))))
    rw [List.take_of_length_le (by omega)] at hall
    have : l.contains n = false := by
      rw [Bool.eq_false_iff]
      intro h
      have := hall _ (List.contains_iff_mem.1 h)
      simp at this
    rw [this]
    exact ⟨rfl, rfl⟩
end Go.Proofs.YticiffgklmjfnaaGreat.Am
namespace Go.Proofs.YticiffgklmjfnaaGreat.Am
set_option linter.unusedSimpArgs false
set_option linter.unusedVariables false
open Go
attribute [local irreducible] Mk Need Ari Get Idx Cnd CallM CallA Opt Unch At ConV
set_option maxRecDepth 10000
theorem swdo_c (w : Wrl) (e : Evt) (hl : w.com.length ≤ 2000000) (hvl : e.v.parents.length ≤ 1000000) : ConV Tryz.prog 26 [wrlA w, evtA e] [] (if wrlS w then wrlA (sDo w e) else wrlZ) [] := by
  have hV := swV_c w hl
  refine con_eq Θ_ok Tryz.func26 rfl rfl true 0 4 rfl rfl rfl rfl fun K hK hb1 hb2 => ?_; simp only [argsV, enc, Nat.reduceAdd]
  clear hb1 hb2
  cases hs : wrlS w
  · rw [hs] at hV
    (repeat (any_goals (first | refine st ?_ | ((first | refine go2 fun xe hxe => ?_ | with_reducible refine cnd_d (fun hq => ?_) fun hq => ?_) <;> conv => whnf) | ((with_reducible refine cnd_i (fun hq => ?_) fun hq => ?_) <;> ((try simp only [hqs] at hq) <;> (first | omega | conv => whnf))) | refine cr (hV) ?_)))
    exact ⟨rfl, rfl⟩
  · rw [hs] at hV
    have hw := wok_iff.1 hs
    have hD := sdo_c w e hw hvl
    have hC := scpy_c _ (sDo_ok hw e)
    generalize sDo w e = u at *
    (repeat (any_goals (first | refine st ?_ | ((first | refine go2 fun xe hxe => ?_ | with_reducible refine cnd_d (fun hq => ?_) fun hq => ?_) <;> conv => whnf) | ((with_reducible refine cnd_i (fun hq => ?_) fun hq => ?_) <;> ((try simp only [hqs] at hq) <;> (first | omega | conv => whnf))) | refine cr (hV) ?_ | refine cr (hD) ?_ | refine cr (hC) ?_)))
    exact ⟨rfl, rfl⟩
theorem swpl_c (w : Wrl) (es : List Evt) (hl : w.com.length ≤ 2000000) (hel : es.length ≤ 1000000) (hvl : ∀ e ∈ es, e.v.parents.length ≤ 1000000) : ConV Tryz.prog 17 [wrlA w, .lst .evt es] [] (if decide (es.length ≤ 80) && wrlS w then .tup [wrlA (sPlay w es), .bool true] else .tup [wrlZ, .bool false]) [] := by
  have hV := swV_c w hl
  refine con_eq Θ_ok Tryz.func17 rfl rfl true 0 4 rfl rfl rfl rfl fun K hK hb1 hb2 => ?_; simp only [argsV, enc, Nat.reduceAdd]
  clear hb1 hb2
  cases hs : wrlS w
  · rw [hs] at hV
    (repeat (any_goals (first | refine st ?_ | ((first | refine go2 fun xe hxe => ?_ | with_reducible refine cnd_d (fun hq => ?_) fun hq => ?_) <;> conv => whnf) | ((with_reducible refine cnd_i (fun hq => ?_) fun hq => ?_) <;> ((try simp only [hqs] at hq) <;> (first | omega | conv => whnf))) | refine cr (hV) ?_)))
    rw [Bool.and_false]
    exact ⟨rfl, rfl⟩
  · rw [hs] at hV
    have hw := wok_iff.1 hs
    by_cases h80 : 80 < (es.length : Int)
    · (repeat (any_goals (first | refine st ?_ | ((first | refine go2 fun xe hxe => ?_ | with_reducible refine cnd_d (fun hq => ?_) fun hq => ?_) <;> conv => whnf) | ((with_reducible refine cnd_i (fun hq => ?_) fun hq => ?_) <;> ((try simp only [hqs] at hq) <;> (first | omega | conv => whnf))) | refine cr (hV) ?_)))
      rw [decide_eq_false (p := es.length ≤ 80) (by omega)]
      exact ⟨rfl, rfl⟩
    · rw [decide_eq_true (p := es.length ≤ 80) (by omega), Bool.true_and]
      (repeat (any_goals (first | refine st ?_ | ((first | refine go2 fun xe hxe => ?_ | with_reducible refine cnd_d (fun hq => ?_) fun hq => ?_) <;> conv => whnf) | ((with_reducible refine cnd_i (fun hq => ?_) fun hq => ?_) <;> ((try simp only [hqs] at hq) <;> (first | omega | conv => whnf))) | refine cr (hV) ?_)))
      refine at_loop hK [] [1, 2, 4, 6] (fun i : Nat => ⟨[(1, .lst .evt es), (2, .ptr 4 0), (4, .ptr 5 0), (6, .int .i64 (i : Int))], [(4, .var 27 (wrlA (sPlay w (es.take i))).cells), (5, .var 27 wZv)], 6⟩) (fun i => i ≤ es.length) (fun i => es.length - i) 0 (by simp) rfl ?_
      intro i hi
      have hwi := sPlay_ok hw (es.take i)
      by_cases hlt : i < es.length
      · have hxe : es[i]? = some es[i] := List.getElem?_eq_getElem hlt
        have hsn := sPlay_snoc w (es.take i) es[i]
        rw [← List.take_succ_eq_append_getElem hlt] at hsn
        have hD := sdo_c _ es[i] hwi (hvl _ (List.getElem_mem hlt))
        generalize es[i] = e at *
        generalize sPlay w (es.take i) = u at *
        (repeat (any_goals (first | refine st ?_ | ((first | refine go2 fun xe hxe => ?_ | with_reducible refine cnd_d (fun hq => ?_) fun hq => ?_) <;> conv => whnf) | ((with_reducible refine cnd_i (fun hq => ?_) fun hq => ?_) <;> ((try simp only [hqs] at hq) <;> (first | omega | conv => whnf))) | refine cr (hD) ?_)))
        refine ⟨i + 1, by omega, by omega, ?_⟩
        rw [hsn]
        rfl
      · rw [List.take_of_length_le (by omega)] at hwi ⊢
        have hC := scpy_c _ hwi
        (repeat (any_goals (first | refine st ?_ | ((first | refine go2 fun xe hxe => ?_ | with_reducible refine cnd_d (fun hq => ?_) fun hq => ?_) <;> conv => whnf) | ((with_reducible refine cnd_i (fun hq => ?_) fun hq => ?_) <;> ((try simp only [hqs] at hq) <;> (first | omega | conv => whnf))) | refine cr (hC) ?_)))
        exact ⟨rfl, rfl⟩
theorem ddo_c (c : List Int) (hc : ∀ x ∈ c, 0 ≤ x ∧ x ≤ 255) : ∃ x : Wrl × Bool × Evt, (WSm x.1 ∧ x.2.2.v.parents.length ≤ 30 ∧ (x.2.1 = true → x.2.2.v.parents = [])) ∧ ConV Tryz.prog 24 [.lst (.int .u8) c] [] (.tup [wrlA x.1, evtZ x.2.1 x.2.2]) [] := by
  have h := rd0w hc
  obtain ⟨⟨w, q⟩, ⟨h1, h2, h3⟩, hw⟩ := dwld_c _ 0 h (by omega)
  dsimp only at h1 h2 h3 hw
  obtain ⟨⟨⟨z, e⟩, q3⟩, ⟨e1, e2, e3, e4⟩, hE⟩ := devt_c _ q w h (by omega) h3
  dsimp only at e1 e2 e3 e4 hE
  obtain ⟨n, hn, hnc⟩ := pk_c _ q3 14 h (by omega) (by omega)
  by_cases h0 : n = 0
  · obtain ⟨⟨w2, q4⟩, ⟨g1, g2, g3⟩, hW⟩ := dwrg_c _ (q3 + 1) h (by omega)
    dsimp only at g1 g2 g3 hW
    refine ⟨(w2, z, e), ⟨g3, e3, e4⟩, ?_⟩
    refine con_eq Θ_ok Tryz.func24 rfl rfl true 0 4 rfl rfl rfl rfl fun K hK hb1 hb2 => ?_; simp only [argsV, enc, Nat.reduceAdd]
    clear hb1 hb2
    cases z with
    | false =>
      have hE : ConV Tryz.prog 37 [.ptr 4 0, wrlA w] [(4, rdB (c.take 2000) q)] (evtA e) [(4, rdB (c.take 2000) q3)] := hE
      (repeat (any_goals (first | refine st ?_ | ((first | refine go2 fun xe hxe => ?_ | with_reducible refine cnd_d (fun hq => ?_) fun hq => ?_) <;> conv => whnf) | ((with_reducible refine cnd_i (fun hq => ?_) fun hq => ?_) <;> ((try simp only [hqs] at hq) <;> (first | omega | conv => whnf))) | refine cr (open_c _) ?_ | refine cr (hw) ?_ | refine cr (hnc) ?_ | refine cr (hW) ?_ | refine co (hE) ?_)))
      exact ⟨rfl, rfl⟩
    | true =>
      have hE : ConV Tryz.prog 37 [.ptr 4 0, wrlA w] [(4, rdB (c.take 2000) q)] (.agg [.int .i64 e.kind, .int .i64 e.a, .int .i64 e.b, .int .i64 e.v.round, .int .i64 e.v.author, .nils, .int .i64 e.v.digest]) [(4, rdB (c.take 2000) q3)] := hE
      (repeat (any_goals (first | refine st ?_ | ((first | refine go2 fun xe hxe => ?_ | with_reducible refine cnd_d (fun hq => ?_) fun hq => ?_) <;> conv => whnf) | ((with_reducible refine cnd_i (fun hq => ?_) fun hq => ?_) <;> ((try simp only [hqs] at hq) <;> (first | omega | conv => whnf))) | refine cr (open_c _) ?_ | refine cr (hw) ?_ | refine cr (hnc) ?_ | refine cr (hW) ?_ | refine co (hE) ?_)))
      exact ⟨rfl, rfl⟩
  · refine ⟨(w, z, e), ⟨h3.sm, e3, e4⟩, ?_⟩
    refine con_eq Θ_ok Tryz.func24 rfl rfl true 0 4 rfl rfl rfl rfl fun K hK hb1 hb2 => ?_; simp only [argsV, enc, Nat.reduceAdd]
    clear hb1 hb2
    cases z with
    | false =>
      have hE : ConV Tryz.prog 37 [.ptr 4 0, wrlA w] [(4, rdB (c.take 2000) q)] (evtA e) [(4, rdB (c.take 2000) q3)] := hE
      (repeat (any_goals (first | refine st ?_ | ((first | refine go2 fun xe hxe => ?_ | with_reducible refine cnd_d (fun hq => ?_) fun hq => ?_) <;> conv => whnf) | ((with_reducible refine cnd_i (fun hq => ?_) fun hq => ?_) <;> ((try simp only [hqs] at hq) <;> (first | omega | conv => whnf))) | refine cr (open_c _) ?_ | refine cr (hw) ?_ | refine cr (hnc) ?_ | refine co (hE) ?_)))
      exact ⟨rfl, rfl⟩
    | true =>
      have hE : ConV Tryz.prog 37 [.ptr 4 0, wrlA w] [(4, rdB (c.take 2000) q)] (.agg [.int .i64 e.kind, .int .i64 e.a, .int .i64 e.b, .int .i64 e.v.round, .int .i64 e.v.author, .nils, .int .i64 e.v.digest]) [(4, rdB (c.take 2000) q3)] := hE
      (repeat (any_goals (first | refine st ?_ | ((first | refine go2 fun xe hxe => ?_ | with_reducible refine cnd_d (fun hq => ?_) fun hq => ?_) <;> conv => whnf) | ((with_reducible refine cnd_i (fun hq => ?_) fun hq => ?_) <;> ((try simp only [hqs] at hq) <;> (first | omega | conv => whnf))) | refine cr (open_c _) ?_ | refine cr (hw) ?_ | refine cr (hnc) ?_ | refine co (hE) ?_)))
      exact ⟨rfl, rfl⟩
def EvS (es : List Evt) : Prop := es.length ≤ 100 ∧ ∀ e ∈ es, e.v.parents.length ≤ 30
theorem evs_app {es : List Evt} {e : Evt} (h : ∀ e ∈ es, e.v.parents.length ≤ 30) (he : e.v.parents.length ≤ 30) : ∀ x ∈ es ++ [e], x.v.parents.length ≤ 30 := fun x hx => by
  rcases List.mem_append.1 hx with hx | hx
  · exact h x hx
  · rw [List.mem_singleton.1 hx]; exact he
set_option maxHeartbeats 1000000 in
theorem dpl_c (c : List Int) (hc : ∀ x ∈ c, 0 ≤ x ∧ x ≤ 255) : ∃ x : Wrl × List Evt, (WOK x.1 ∧ EvS x.2) ∧ ConV Tryz.prog 15 [.lst (.int .u8) c] [] (.tup [wrlA x.1, .lst .evt x.2]) [] := by
  have h := rd0w hc
  obtain ⟨⟨w0, q⟩, ⟨h1, h2, h3⟩, hB⟩ := dbeg_c _ 0 h (by omega)
  dsimp only at h1 h2 h3 hB
  suffices hs : ∃ r hout, (∃ x : Wrl × List Evt, (WOK x.1 ∧ EvS x.2) ∧ r = .tup [wrlA x.1, .lst .evt x.2] ∧ hout = []) ∧ ConV Tryz.prog 15 [.lst (.int .u8) c] [] r hout by
    obtain ⟨r, hout, ⟨v, hv, rfl, rfl⟩, h⟩ := hs
    exact ⟨v, hv, h⟩
  refine con_ex Θ_ok Tryz.func15 rfl rfl true 0 4 rfl rfl rfl rfl (R := fun r hout => ∃ x : Wrl × List Evt, (WOK x.1 ∧ EvS x.2) ∧ r = .tup [wrlA x.1, .lst .evt x.2] ∧ hout = []) (r0 := .tup [wrlA w0, .lst .evt []]) (hout0 := []) (⟨(w0, []), ⟨h3, by simp [EvS]⟩, rfl, rfl⟩) fun K hK hb1 hb2 => ?_; simp only [argsV, enc, Nat.reduceAdd]
  clear hb1 hb2
  obtain ⟨m, hm, hmc⟩ := pk_c _ q 2 h (by omega) (by omega)
  obtain ⟨r, hr, hrc⟩ := pk_c _ (q + 1) 4 h (by omega) (by omega)
  have hC := scalm_c w0 r.toNat h3 (by omega)
  rw [show ((r.toNat : Nat) : Int) = r by omega] at hC
  have hco := calmTo_ok h3 r.toNat
  (repeat (any_goals (first | refine stc ?_ | ((first | refine go2 fun xe hxe => ?_ | with_reducible refine cnd_d (fun hq => ?_) fun hq => ?_) <;> conv => whnf) | ((with_reducible refine cnd_i (fun hq => ?_) fun hq => ?_) <;> ((try simp only [hqs] at hq) <;> (first | omega | conv => whnf))) | refine cr (open_c _) ?_ | refine cr (hmc) ?_ | refine co (hB) ?_)))
  refine at_then hK [] [2, 4, 5] (fun x : Wrl × Int => ⟨[(2, .ptr 4 0), (4, .ptr 5 0), (5, .ptr 6 0)], [(4, .var 27 wZv), (5, rdB (c.take 2000) x.2), (6, .var 27 (wrlA x.1).cells)], 7⟩) (fun x => WOK x.1 ∧ 0 ≤ x.2 ∧ x.2 ≤ 100) ?_ ?_
  · by_cases h0 : m = 0
    · (repeat (any_goals (first | refine st ?_ | ((first | refine go2 fun xe hxe => ?_ | with_reducible refine cnd_d (fun hq => ?_) fun hq => ?_) <;> conv => whnf) | ((with_reducible refine cnd_i (fun hq => ?_) fun hq => ?_) <;> ((try simp only [hqs] at hq) <;> (first | omega | conv => whnf))) | refine cr (hrc) ?_ | refine cr (hC) ?_)))
      exact ⟨(calmTo w0 r.toNat, q + 1 + 1), ⟨hco, by dsimp only; omega, by dsimp only; omega⟩, rfl⟩
    · (repeat (any_goals (first | refine st ?_ | ((first | refine go2 fun xe hxe => ?_ | with_reducible refine cnd_d (fun hq => ?_) fun hq => ?_) <;> conv => whnf) | ((with_reducible refine cnd_i (fun hq => ?_) fun hq => ?_) <;> ((try simp only [hqs] at hq) <;> (first | omega | conv => whnf))))))
      exact ⟨(w0, q + 1), ⟨h3, by dsimp only; omega, by dsimp only; omega⟩, rfl⟩
  · rintro ⟨w, p1⟩ ⟨g1, g2, g3⟩
    dsimp only at g1 g2 g3 ⊢
    clear hmc hrc hC hB
    obtain ⟨n, hn, hnc⟩ := pk_c _ p1 60 h (by omega) (by omega)
    obtain ⟨k, hk, hkc⟩ := pk_c _ (p1 + 1) 20 h (by omega) (by omega)
    obtain ⟨j, hj, hjc⟩ := pk_c _ (p1 + 1 + 1) 3 h (by omega) (by omega)
    (repeat (any_goals (first | refine stc ?_ | ((first | refine go2 fun xe hxe => ?_ | with_reducible refine cnd_d (fun hq => ?_) fun hq => ?_) <;> conv => whnf) | ((with_reducible refine cnd_i (fun hq => ?_) fun hq => ?_) <;> ((try simp only [hqs] at hq) <;> (first | omega | conv => whnf))) | refine cr (hnc) ?_ | refine cr (hkc) ?_)))
    refine at_then hK [] [2, 4, 5, 6, 7, 8] (fun x : Int × Int => ⟨[(2, .ptr 4 0), (4, .ptr 5 0), (5, .ptr 6 0), (6, .ptr 7 0), (7, .ref 8), (8, .int .i64 x.1)], [(4, .var 27 wZv), (5, rdB (c.take 2000) x.2), (6, .var 27 (wrlA w).cells), (7, .var 27 (wrlA w).cells), (8, .row 47 .evt [])], 9⟩) (fun x => x.1 ≤ 82 ∧ 0 ≤ x.2 ∧ x.2 ≤ 200) ?_ ?_
    · by_cases h0 : k = 0
      · (repeat (any_goals (first | refine st ?_ | ((first | refine go2 fun xe hxe => ?_ | with_reducible refine cnd_d (fun hq => ?_) fun hq => ?_) <;> conv => whnf) | ((with_reducible refine cnd_i (fun hq => ?_) fun hq => ?_) <;> ((try simp only [hqs] at hq) <;> (first | omega | conv => whnf))) | refine cr (hjc) ?_)))
        exact ⟨(79 + j, p1 + 1 + 1 + 1), ⟨by dsimp only; omega, by dsimp only; omega, by dsimp only; omega⟩, rfl⟩
      · (repeat (any_goals (first | refine st ?_ | ((first | refine go2 fun xe hxe => ?_ | with_reducible refine cnd_d (fun hq => ?_) fun hq => ?_) <;> conv => whnf) | ((with_reducible refine cnd_i (fun hq => ?_) fun hq => ?_) <;> ((try simp only [hqs] at hq) <;> (first | omega | conv => whnf))))))
        exact ⟨(n, p1 + 1 + 1), ⟨by dsimp only; omega, by dsimp only; omega, by dsimp only; omega⟩, rfl⟩
    · rintro ⟨n, p2⟩ ⟨f1, f2, f3⟩
      dsimp only at f1 f2 f3 ⊢
      clear hnc hkc hjc
      (repeat (any_goals (first | refine st ?_ | ((first | refine go2 fun xe hxe => ?_ | with_reducible refine cnd_d (fun hq => ?_) fun hq => ?_) <;> conv => whnf) | ((with_reducible refine cnd_i (fun hq => ?_) fun hq => ?_) <;> ((try simp only [hqs] at hq) <;> (first | omega | conv => whnf))))))
      refine at_loop hK [] [2, 4, 5, 6, 7, 8, 9] (fun x : Nat × Wrl × List Evt × Int => ⟨[(2, .ptr 4 0), (4, .ptr 5 0), (5, .ptr 6 0), (6, .ptr 7 0), (7, .ref 8), (8, .int .i64 n), (9, .int .i64 (x.1 : Int))], [(4, .var 27 wZv), (5, rdB (c.take 2000) x.2.2.2), (6, .var 27 (wrlA w).cells), (7, .var 27 (wrlA x.2.1).cells), (8, .row 47 .evt x.2.2.1)], 9⟩)
        (fun x => x.1 ≤ 82 ∧ WOK x.2.1 ∧ (x.2.2.1.length = x.1 ∧ ∀ e ∈ x.2.2.1, e.v.parents.length ≤ 30) ∧ 0 ≤ x.2.2.2 ∧ x.2.2.2 ≤ 200 + 60 * x.1) (fun x => 90 - x.1) (0, w, [], p2) ⟨by dsimp only; omega, g1, ⟨rfl, by simp⟩, by dsimp only; omega, by dsimp only; omega⟩ rfl ?_
      rintro ⟨i, u, es, p3⟩ ⟨i1, i2, ⟨i3, i4⟩, i5, i6⟩
      dsimp only at i1 i2 i3 i4 i5 i6 ⊢
      obtain ⟨⟨⟨z, e⟩, p4⟩, ⟨e1, e2, e3, e4⟩, hE⟩ := devt_c _ p3 u h (by omega) i2
      dsimp only at e1 e2 e3 e4 hE
      have hD := evtZ_do u z e i2 e3 e4
      have hdo := sDo_ok i2 e
      by_cases hlt : (i : Int) < n
      · have hap := evs_app i4 e3
        cases z with
        | false =>
          have hE : ConV Tryz.prog 37 [.ptr 4 0, wrlA u] [(4, rdB (c.take 2000) p3)] (evtA e) [(4, rdB (c.take 2000) p4)] := hE
          generalize sDo u e = u2 at *
          (repeat (any_goals (first | refine st ?_ | ((first | refine go2 fun xe hxe => ?_ | with_reducible refine cnd_d (fun hq => ?_) fun hq => ?_) <;> conv => whnf) | ((with_reducible refine cnd_i (fun hq => ?_) fun hq => ?_) <;> ((try simp only [hqs] at hq) <;> (first | omega | conv => whnf))) | refine cr (hD) ?_ | refine co (hE) ?_)))
          exact ⟨(i + 1, u2, es ++ [e], p4), ⟨by dsimp only; omega, hdo, ⟨by simp [i3], hap⟩, by dsimp only; omega, by dsimp only; omega⟩, by dsimp only; omega, rfl⟩
        | true =>
          have hE : ConV Tryz.prog 37 [.ptr 4 0, wrlA u] [(4, rdB (c.take 2000) p3)] (.agg [.int .i64 e.kind, .int .i64 e.a, .int .i64 e.b, .int .i64 e.v.round, .int .i64 e.v.author, .nils, .int .i64 e.v.digest]) [(4, rdB (c.take 2000) p4)] := hE
          obtain ⟨kd, a, b, ⟨rd, au, ps, dg⟩⟩ := e
          obtain rfl : ps = [] := e4 rfl
          dsimp only at hD hE
          generalize sDo u _ = u2 at *
          (repeat (any_goals (first | refine st ?_ | ((first | refine go2 fun xe hxe => ?_ | with_reducible refine cnd_d (fun hq => ?_) fun hq => ?_) <;> conv => whnf) | ((with_reducible refine cnd_i (fun hq => ?_) fun hq => ?_) <;> ((try simp only [hqs] at hq) <;> (first | omega | conv => whnf))) | refine cr (hD) ?_ | refine co (hE) ?_)))
          exact ⟨(i + 1, u2, es ++ [⟨kd, a, b, ⟨rd, au, [], dg⟩⟩], p4), ⟨by dsimp only; omega, hdo, ⟨by simp [i3], hap⟩, by dsimp only; omega, by dsimp only; omega⟩, by dsimp only; omega, rfl⟩
      · (repeat (any_goals (first | refine st ?_ | ((first | refine go2 fun xe hxe => ?_ | with_reducible refine cnd_d (fun hq => ?_) fun hq => ?_) <;> conv => whnf) | ((with_reducible refine cnd_i (fun hq => ?_) fun hq => ?_) <;> ((try simp only [hqs] at hq) <;> (first | omega | conv => whnf))))))
        exact ⟨(w, es), ⟨g1, by dsimp only; omega, i4⟩, rfl, rfl⟩
end Go.Proofs.YticiffgklmjfnaaGreat.Am
